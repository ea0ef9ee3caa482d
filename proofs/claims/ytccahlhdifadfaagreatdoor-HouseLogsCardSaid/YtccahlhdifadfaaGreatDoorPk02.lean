/- Part 3 of the texts that the claim rests on (of 19): Ch2, Ch3, Ch4, HeldT, Ch5, Ch6, Ch7, Ch8, Ch9. -/
import Derived.Test.YtccahlhdifadfaaGreatDoorPk01
import Derived.OwnWalk
import Derived.StillTailTactics
namespace Go.Proofs.YtccahlhdifadfaaGreatDoor
open Go.RowKit
set_option maxRecDepth 100000
set_option maxHeartbeats 16000000
def OutP (B:Nat) (ms:List Ms) (V:Value) (w':World):Prop:=
 ∃ A k M,V=.slice A ms.length k∧w'.ownsRow B 116 9 V M.length (M.flatMap q0c)∧msOf M=ms∧∀ x∈M,OwnW w' B x∧x.n≤100000
theorem OutP.nil (B:Nat) (w':World):OutP B [] (.slice none 0 0) w':=⟨none,0,[],rfl,World.ownsRow_nil _ _ _ _,rfl,fun _ h=>(nomatch h)⟩
theorem q7n {w':World} {B n k:Nat} {A:Option Addr} {v:Value} {m:Ms} (hrow:w'.ownsRow B 116 9 v 1 (q04 m A n k).toList) (hown:w'.ownsRow B 45 3 (.slice A n k) n (m.cmd.writes.flatMap q0g)) (hl:m.cmd.writes.length=n) (hn:n≤100000):OutP B [m] v w':=by
 obtain⟨A',c,rfl,_,_⟩:=q01 hrow
 refine⟨A',c,[⟨m,A,n,k⟩],rfl,by simpa [q0c] using hrow,rfl,fun x hx=>?_⟩
 rw[List.mem_singleton] at hx
 subst hx
 exact⟨⟨hown,hl⟩,hn⟩
theorem OutP.tall {w w':World} {B:Nat} {ms:List Ms} {V:Value} (h:OutP B ms V w) (hb:Below w.heap.size w w'):OutP B ms V w':=by
 obtain⟨A,k,M,e,hrow,hm,hx⟩:=h
 have hf:Fr (fun b=>w.heap.size≤b) w w':=⟨hb.os,hb.tape,hb.output,hb.size,fun i _ hn=>hb.block i (by omega)⟩
 exact⟨A,k,M,e,hf.own hrow (fun b hb2 h2=>by have:=(hrow.lt b hb2).2;omega),hm,fun x hxm=>⟨⟨hf.own (hx x hxm).1.1 (fun b hb2 h2=>by have:=((hx x hxm).1.1.lt b hb2).2;omega),(hx x hxm).1.2⟩,(hx x hxm).2⟩⟩
theorem OutP.lower {w:World} {B B':Nat} {ms:List Ms} {V:Value} (h:OutP B ms V w) (hB:B'≤B):OutP B' ms V w:=by
 obtain⟨A,k,M,e,hrow,hm,hx⟩:=h
 exact⟨A,k,M,e,q17 hrow hB,hm,fun x hxm=>⟨⟨q17 (hx x hxm).1.1 hB,(hx x hxm).1.2⟩,(hx x hxm).2⟩⟩
section
variable {w w':World} {base g:Nat} {C V:Value} {L:List CmR} {d:Nd}
theorem NdI.notG (h:NdI w base g C V L d) {b:Nat} (hb:C.ownBlock=some b∨V.ownBlock=some b∨∃ x∈L,(Value.slice x.A x.n x.k).ownBlock=some b):b≠g:=by
 rintro rfl
 rcases hb with hb|hb|⟨x,hx,hb⟩
 ·exact q02 h.conf h.blk (by decide) hb
 ·exact q02 h.row h.blk (by decide) hb
 ·exact q02 (h.own x hx).1 h.blk (by decide) hb
theorem NdI.setStable (h:NdI w base g C V L d) {k:Int} (h0:0≤k) (h1:k≤500):NdI (w.setCell ⟨g,5,none⟩ (.int .i64 k)) base g C V L { d with stable:=k }:=by
 have hf:=Fr.set1 g w 5 (.int .i64 k)
 refine⟨h.blk.set_ 5 _,hf.own h.conf (fun b hb e=>h.notG (.inl hb) e),hf.own h.row (fun b hb e=>h.notG (.inr (.inl hb)) e),fun x hx=>⟨hf.own (h.own x hx).1 (fun b hb e=>h.notG (.inr (.inr ⟨x,hx,hb⟩)) e),(h.own x hx).2⟩,h.log,h.len,h.few,h.at0,h.at1,h0,h1,h.lo⟩
def TickP (base g:Nat) (C V:Value) (L:List CmR) (d:Nd) (w:World) (e:Ending) (w':World):Prop:=
 ∃ V1,e=.returned V1∧OutP w.heap.size d.tick.2 V1 w'∧NdI w' base g C V L d.tick.1∧Fr (fun b=>b=g) w w'
theorem TickP.of {d1:Nd} {ms:List Ms} {V1:Value} (ht:d.tick=(d1,ms)) (ho:OutP w.heap.size ms V1 w') (hn:NdI w' base g C V L d1) (hf:Fr (fun b=>b=g) w w'):TickP base g C V L d w (.returned V1) w':=by
 unfold TickP;rw[ht];exact⟨V1,rfl,ho,hn,hf⟩
theorem q6o (h:NdI w base g C V L d):Calls Tryz.prog 55 #[.pointer (some ⟨g,0,none⟩)] w (TickP base g C V L d w):=by
 by_cases ha:d.at_<0
 ·have hfin:TickP base g C V L d w (.returned (.slice none 0 0)) w:=TickP.of (by unfold Nd.tick;rw[if_pos ha]) (OutP.nil _ _) h (Fr.refl _ _)
  obtain⟨_,_,_,c3,_,_,kl⟩:=h.cells
  have HF:=LH hfin;clear hfin h
  go_enter Tryz.func55,Tryz.ntmps55
  go_wp2_with fail
  go_ret
  exact HF.out
 ·cases ht:d.tail
  ·
   have htick:d.tick=(d,[d.msg 1 1 d.log.length]):=by unfold Nd.tick;rw[if_neg ha,ht];rfl
   have hat:d.at_+1<d.nodes.length:=by
    have:=h.at1
    rcases(show d.at_+1<d.nodes.length∨d.at_=(d.nodes.length:Int)-1 by omega) with h1|h1
    ·exact h1
    ·exfalso
     unfold Nd.tail at ht
     rw[decide_eq_true (show d.at_≥0 by omega),Bool.true_and] at ht
     rw[h1] at ht
     simp at ht
   obtain⟨_,_,_,c3,_,_,kl⟩:=h.cells
   have HT:=LH (q6p h)
   rw[ht] at HT
   have H:=LH h;clear h
   go_enter Tryz.func55,Tryz.ntmps55
   go_wp2_with fail
   refine HT.out.mono ?_
   rintro e w1 ⟨rfl,hb1⟩
   have hn1:=H.out.tall hb1
   obtain⟨A,c,rfl⟩:=hn1.logV
   obtain⟨_,_,_,_,c4,_,kl1⟩:=hn1.cells
   have hlen:=hn1.len
   have hll:=hn1.len_log
   clear HT c3
   have HM:=LH (q55 hn1 1 1 L.length (by omega) hat)
   have HN1:=LH hn1;clear hn1
   have HB1:=LH hb1;clear hb1
   go_wp2_with fail
   refine HM.out.mono ?_
   rintro e w2 ⟨rfl,hb2⟩
   have hn2:=HN1.out.tall hb2
   have HB2:=LH (HB1.out.trans (hb2.mono HB1.out.size));clear HM hb2 HN1 HB1 c4
   have HN2:=LH hn2;clear hn2
   unfold msgV
   go_wp2_with (at_builtin;refine stop ?_)
   refine back ?_
   refine q0h _ _ rfl (.tmp 36) (.tmp 44) 86 rfl w2.heap.size 116 _ 9 88 Tryz.underlying86 q58 rfl (by decide) _ 0 [] #[.int .i64 1,.int .i64 d.id,.int .i64 (d.to_ 1),.int .i64 d.epoch,.int .i64 L.length,.int .i64 0,.int .i64 0,.int .i64 0,.slice none 0 0] rfl (World.ownsRow_nil _ _ _ _) 1 rfl _ rfl rfl (by simp[Value.oneCell']) (by unfold maxLen;omega) (by omega) (Nat.le_refl _) ?_
   intro v' w3 hown hmv
   have hf3:Fr (fun _=>False) w2 w3:=hmv.1.mono (fun i hi e=>by cases e)
   have hfin:TickP base g (C) (.slice A L.length c) L d w (.returned v') w3:=by
    refine TickP.of htick (q7n (A:=none) (n:=0) (k:=0) (m:=d.msg 1 1 d.log.length) ?_ (World.ownsRow_nil _ _ _ _) rfl (by omega)) (HN2.out.tall hf3.none_below) ((Below.fr HB2.out _).trans (hf3.mono (fun _ _ h=>h.elim)))
    rw[hll]
    exact q17 hown HB2.out.size
   have HF:=LH hfin;clear hfin hown hmv hf3
   go_wp2_with fail
   go_ret
   exact HF.out
  ·
   obtain⟨_,_,_,c3,_,_,kl⟩:=h.cells
   have HT:=LH (q6p h)
   rw[ht] at HT
   have H:=LH h;clear h
   go_enter Tryz.func55,Tryz.ntmps55
   go_wp2_with fail
   refine HT.out.mono ?_
   rintro e w1 ⟨rfl,hb1⟩
   have hn1:=H.out.tall hb1
   obtain⟨A,c,rfl⟩:=hn1.logV
   obtain⟨_,_,_,c3',c4,c5,kl1⟩:=hn1.cells
   have f5:=hn1.blk.frozen 5
   have hlen:=hn1.len
   have hll:=hn1.len_log
   have hn2:=hn1.setStable (k:=L.length) (by omega) (by omega)
   have HB2:=LH ((Below.fr hb1 (fun b=>b=g)).trans (Fr.set1 g w1 5 (.int .i64 L.length)))
   clear HT c3 hn1 H hb1
   by_cases hpos:d.at_ > 0
   ·have htick:d.tick=({ d with stable:=d.log.length },[d.msg 4 (-1) d.log.length]):=by unfold Nd.tick;rw[if_neg (by omega),ht,if_pos rfl,if_pos hpos]
    have HM:=LH (q55 hn2 4 (-1) L.length (show 0≤d.at_ + -1 by omega) (show d.at_ + -1<d.nodes.length by have:=hn2.at1;simp only at this;omega))
    have d5:=hn2.cells.2.2.2.2.2.1
    have kl2:=hn2.cells.2.2.2.2.2.2
    have HN2:=LH hn2;clear hn2
    go_wp2_with fail
    clear c3' c4 c5 f5 kl1
    generalize (w1.setCell _ _)=w2 at *
    refine HM.out.mono ?_
    rintro e w3 ⟨rfl,hb3⟩
    have hn3:=HN2.out.tall hb3
    have HB3:=LH (HB2.out.trans (Below.fr hb3 _));clear HM hb3 HN2
    have HN3:=LH hn3;clear hn3
    unfold msgV
    go_wp2_with (at_builtin;refine stop ?_)
    refine back ?_
    refine q0h _ _ rfl (.tmp 17) (.tmp 24) 86 rfl w3.heap.size 116 _ 9 88 Tryz.underlying86 q58 rfl (by decide) _ 0 [] #[.int .i64 4,.int .i64 d.id,.int .i64 (d.to_ (-1)),.int .i64 d.epoch,.int .i64 L.length,.int .i64 0,.int .i64 0,.int .i64 0,.slice none 0 0] rfl (World.ownsRow_nil _ _ _ _) 1 rfl _ rfl rfl (by simp[Value.oneCell']) (by unfold maxLen;omega) (by omega) (Nat.le_refl _) ?_
    intro v' w4 hown hmv
    have hf3:Fr (fun _=>False) w3 w4:=hmv.1.mono (fun i hi e=>by cases e)
    have hfin:TickP base g (C) (.slice A L.length c) L d w (.returned v') w4:=by
     refine TickP.of htick (q7n (A:=none) (n:=0) (k:=0) (m:=d.msg 4 (-1) d.log.length) ?_ (World.ownsRow_nil _ _ _ _) rfl (by omega)) ?_ (HB3.out.trans (hf3.mono (fun _ _ h=>h.elim)))
     ·rw[hll]
      exact q17 hown HB3.out.size
     ·rw[hll]
      exact HN3.out.tall hf3.none_below
    have HF:=LH hfin;clear hfin hown hmv hf3
    go_wp2_with fail
    go_ret
    exact HF.out
   ·have htick:d.tick=({ d with stable:=d.log.length },[]):=by unfold Nd.tick;rw[if_neg (by omega),ht,if_pos rfl,if_neg hpos]
    have hfin:TickP base g C (.slice A L.length c) L d w (.returned (.slice none 0 0)) (w1.setCell ⟨g,5,none⟩ (.int .i64 L.length)):=TickP.of htick (OutP.nil _ _) (by rw[hll];exact hn2) HB2.out
    have HF:=LH hfin;clear hfin hn2
    go_wp2_with fail
    go_ret
    exact HF.out
end
theorem cmd_infoH:(Tryz.prog.info? 69).map (fun i=>(i.zero,i.size,i.bytes))=some (some (.agg #[.int .i64 0,.int .i64 0,.int .i64 0,.slice none 0 0]),4,48):=by kernel_rfl
theorem int_infoH:(Tryz.prog.info? 3).map (fun i=>(i.zero,i.size,i.bytes))=some (some (.int .i64 0),1,8):=by kernel_rfl
theorem crs_one (l:List CmR):∀ u∈l.flatMap q0m,u.oneCell'=true:=fun u hu=>by
 obtain⟨p,_,hp⟩:=List.mem_flatMap.1 hu
 unfold q0m at hp
 simp only[List.mem_cons,List.not_mem_nil,or_false] at hp
 rcases hp with rfl|rfl|rfl|rfl <;> rfl
theorem ints_one (l:List Int):∀ u∈l.map (Value.int .i64),u.oneCell'=true:=fun u hu=>by
 obtain⟨p,_,rfl⟩:=List.mem_map.1 hu
 rfl
def CloneCP (base:Nat) (n:Nat) (l:List CmR) (w:World) (e:Ending) (w':World):Prop:=
 ∃ A k,e=.returned (.slice A n k)∧w'.ownsRow base 69 4 (.slice A n k) n (l.flatMap q0m)∧Below w.heap.size w w'∧(∀ b,Value.ownBlock (.slice A n k)=some b→w.heap.size≤b)
theorem cloneC_any (base n:Nat) (V:Value) (l:List CmR) (w:World) (h:w.ownsRow base 69 4 V n (l.flatMap q0m)) (hb:base≤w.heap.size) (hn:n≤100000) :
  Calls Tryz.prog 76 #[V] w (CloneCP base n l w):=by
 rcases h.2 with ⟨rfl,hn0⟩|⟨g,cap,cur,rfl,_⟩
 ·subst hn0
  have hf:CloneCP base 0 l w (.returned (.slice none 0 0)) w:=⟨none,0,rfl,h,Below.refl _ _,fun b hb=>by simp[Value.ownBlock] at hb⟩
  have HF:=LH hf;clear hf h
  have hnil:=Lib.run_eql_slice_nil w 66 _ none 0 0 0 0 Tryz.underlying66
  go_enter Tryz.func76,Tryz.ntmps76
  go_wp2_with fail
  go_ret
  exact HF.out
 ·have H:=LH h;clear h
  have hnil:=Lib.run_eql_slice_nil w 66 _ (some ⟨g,0,none⟩) n cap 0 0 Tryz.underlying66
  go_enter Tryz.func76,Tryz.ntmps76
  go_wp2_with (at_builtin;refine stop ?_)
  refine back ?_
  have hs:Below w.heap.size w (w.alloc (.cells #[] 69)):=(Below.refl _ _).alloc (Nat.le_refl _) _
  have hrd:=(Rd.of_own H.out).below hs
  refine q1u _ rfl (.tmp 5) (.tmp 6) 66 rfl base 69 _ 4 48 Tryz.underlying66 cmd_infoH rfl (by decide) _ 0 [] rfl (q7l w base _ _ hb) w.heap.size _ n cap (l.flatMap q0m) rfl hrd.reads (crs_one l) (by unfold maxLen;omega) (by omega) (by simp;omega) ?_
  intro v' w' hown hm
  rw[Nat.zero_add,List.nil_append] at hown
  obtain⟨A',c,rfl,_,_⟩:=q01 hown
  have hf:CloneCP base n l w (.returned (.slice A' n c)) w':=⟨A',c,rfl,hown,hs.trans (hm.below (fun g hg=>by have e:some w.heap.size=some g:=hg;injection e with e;omega) (by simp)),fun b hb=>by
   rcases hm.2 with e|⟨b',e,hb'⟩
   ·have e2:Value.ownBlock (.slice A' n c)=some w.heap.size:=e
    rw[e2] at hb;injection hb with hb;omega
   ·rw[e] at hb;injection hb with hb;simp at hb';omega⟩
  have HF:=LH hf;clear hf hown hm hs
  go_wp2_with fail
  go_ret
  exact HF.out
def CloneIP (base:Nat) (n:Nat) (l:List Int) (w:World) (e:Ending) (w':World):Prop:=
 ∃ A k,e=.returned (.slice A n k)∧w'.ownsRow base 3 1 (.slice A n k) n (l.map (Value.int .i64))∧Below w.heap.size w w'∧(∀ b,Value.ownBlock (.slice A n k)=some b→w.heap.size≤b)
theorem cloneI_any (base n:Nat) (V:Value) (l:List Int) (w:World) (h:w.ownsRow base 3 1 V n (l.map (Value.int .i64))) (hb:base≤w.heap.size) (hn:n≤100000) :
  Calls Tryz.prog 105 #[V] w (CloneIP base n l w):=by
 rcases h.2 with ⟨rfl,hn0⟩|⟨g,cap,cur,rfl,_⟩
 ·subst hn0
  have hf:CloneIP base 0 l w (.returned (.slice none 0 0)) w:=⟨none,0,rfl,h,Below.refl _ _,fun b hb=>by simp[Value.ownBlock] at hb⟩
  have HF:=LH hf;clear hf h
  have hnil:=Lib.run_eql_slice_nil w 26 _ none 0 0 0 0 Tryz.underlying26
  go_enter Tryz.func105,Tryz.ntmps105
  go_wp2_with fail
  go_ret
  exact HF.out
 ·have H:=LH h;clear h
  have hnil:=Lib.run_eql_slice_nil w 26 _ (some ⟨g,0,none⟩) n cap 0 0 Tryz.underlying26
  go_enter Tryz.func105,Tryz.ntmps105
  go_wp2_with (at_builtin;refine stop ?_)
  refine back ?_
  have hs:Below w.heap.size w (w.alloc (.cells #[] 3)):=(Below.refl _ _).alloc (Nat.le_refl _) _
  have hrd:=(Rd.of_own H.out).below hs
  refine q1u _ rfl (.tmp 5) (.tmp 6) 26 rfl base 3 _ 1 8 Tryz.underlying26 int_infoH rfl (by decide) _ 0 [] rfl (q7l w base _ _ hb) w.heap.size _ n cap (l.map (Value.int .i64)) rfl hrd.reads (ints_one l) (by unfold maxLen;omega) (by omega) (by simp;omega) ?_
  intro v' w' hown hm
  rw[Nat.zero_add,List.nil_append] at hown
  obtain⟨A',c,rfl,_,_⟩:=q01 hown
  have hf:CloneIP base n l w (.returned (.slice A' n c)) w':=⟨A',c,rfl,hown,hs.trans (hm.below (fun g hg=>by have e:some w.heap.size=some g:=hg;injection e with e;omega) (by simp)),fun b hb=>by
   rcases hm.2 with e|⟨b',e,hb'⟩
   ·have e2:Value.ownBlock (.slice A' n c)=some w.heap.size:=e
    rw[e2] at hb;injection hb with hb;omega
   ·rw[e] at hb;injection hb with hb;simp at hb';omega⟩
  have HF:=LH hf;clear hf hown hm hs
  go_wp2_with fail
  go_ret
  exact HF.out
section
variable {w w':World} {base g:Nat} {C V:Value} {L:List CmR} {d:Nd}
def LogP (base:Nat) (L:List CmR) (w:World) (e:Ending) (w':World):Prop:=∃ A k,e=.returned (.slice A L.length k)∧w'.ownsRow base 69 4 (.slice A L.length k) L.length (L.flatMap q0m)∧Below w.heap.size w w'∧(∀ b,Value.ownBlock (.slice A L.length k)=some b→w.heap.size≤b)
theorem q7s (h:NdI w base g C V L d):Calls Tryz.prog 46 #[.pointer (some ⟨g,0,none⟩)] w (LogP base L w):=by
 obtain⟨_,_,_,_,c4,_,kl⟩:=h.cells
 have hlo:=h.lo
 have HC:=LH (cloneC_any base L.length V L w h.row (by omega) (by have:=h.len;omega))
 clear h
 go_enter Tryz.func46,Tryz.ntmps46
 go_wp2_with fail
 refine HC.out.mono ?_
 rintro e w1 ⟨A,k,rfl,h1,h2,h3⟩
 have HF:=LH (show LogP base L w (.returned (.slice A L.length k)) w1 from⟨A,k,rfl,h1,h2,h3⟩)
 clear HC h1 h2 h3
 go_wp2_with fail
 go_ret
 exact HF.out
end
section
variable {w w' w3 w4:World} {base g:Nat} {C V V2:Value} {L:List CmR} {d:Nd}
theorem NdI.push (h:NdI w base g C V L d) (hF3:Fr (fun k=>w.heap.size≤k) w w3) {x:CmR} (hO:OwnC w3 w.heap.size x) (hm:Moved w3 w4 V.ownBlock V2.ownBlock)
  (hrow:w4.ownsRow base 69 4 V2 (L.length+1) (L.flatMap q0m++q0m x)) (hlen:L.length<500) :
  NdI (w4.setCell ⟨g,4,none⟩ V2) base g C V2 (L++[x]) (d.push x.c)∧Fr (NdF g C V L) w (w4.setCell ⟨g,4,none⟩ V2)∧(∀ b,NdF g C V2 (L++[x]) b→NdF g C V L b∨w.heap.size≤b):=by
 have hbase:base≤w.heap.size:=by have:=h.lo;have:=h.blk.lt;omega
 have h3:=h.fr hF3 (fun b hb h2=>by have:=(h.foot_lt hb).2;omega)
 have hgV:¬some g=V.ownBlock:=fun e=>q02 h3.row h3.blk (by decide) e.symm
 have hb4:=hm.1.blk h3.blk hgV
 have hset:=Fr.set1 g w4 4 V2
 have hx:∀ b,(Value.slice x.A x.n x.k).ownBlock=some b→w.heap.size≤b∧b<w3.heap.size:=fun b hb=>hO.1.lt b hb
 have hpair:∀ y:CmR,OwnC w3 base y→OwnC (w4.setCell ⟨g,4,none⟩ V2) base y:=fun y hy=>
  ⟨hset.own (hm.1.own hy.1 (fun b hb e=>q0i hy.1 h3.row (by decide) hb e.symm)) (fun b hb (e:b=g)=>q02 (hm.1.own hy.1 (fun b hb e=>q0i hy.1 h3.row (by decide) hb e.symm)) hb4 (by decide) (e▸hb)),hy.2⟩
 refine⟨⟨?_,?_,?_,?_,?_,?_,h.few,h.at0,h.at1,h.st0,h.st1,h.lo⟩,?_,?_⟩
 ·have:=hb4.set_ 4 V2
  unfold Nd.push
  simpa using this
 ·have h1:=hm.1.own h3.conf (fun b hb e=>q0i h3.conf h3.row (by decide) hb e.symm)
  exact hset.own h1 (fun b hb (e:b=g)=>q02 h1 hb4 (by decide) (e▸hb))
 ·have h1:=hset.own hrow (fun b hb (e:b=g)=>q02 hrow hb4 (by decide) (e▸hb))
  rw[List.length_append,List.flatMap_append]
  simpa using h1
 ·intro y hy
  rcases List.mem_append.1 hy with hy|hy
  ·exact hpair y (h3.own y hy)
  ·rw[List.mem_singleton] at hy
   subst hy
   exact hpair y ⟨q17 hO.1 hbase,hO.2⟩
 ·unfold csOf Nd.push
  rw[List.map_append]
  simp only
  rw[← h.log]
  rfl
 ·simp;omega
 ·refine((hF3.mono (T:=fun b=>NdF g C V L b∨w.heap.size≤b) (fun i hi h2=>absurd hi (by omega))).trans' hm.1 (fun i _ e=>.inl (.inr (.inr (.inl e.symm))))).trans' hset (fun i _ (e:i=g)=>.inl (.inl e)) |>.mono (fun i hi h2=>h2.elim id (fun h3=>absurd hi (by omega)))
 ·intro b hb
  rcases hb with hb|hb|hb|⟨y,hy,hb⟩
  ·exact .inl (.inl hb)
  ·exact .inl (.inr (.inl hb))
  ·rcases hm.2 with e|⟨b',e,hl⟩
   ·rw[e] at hb;exact .inl (.inr (.inr (.inl hb)))
   ·rw[e] at hb;injection hb with hb;exact .inr (by have:=hF3.size;omega)
  ·rcases List.mem_append.1 hy with hy|hy
   ·exact .inl (.inr (.inr (.inr ⟨y,hy,hb⟩)))
   ·rw[List.mem_singleton] at hy
    subst hy
    exact .inr (hx b hb).1
def GrowP (base g:Nat) (C V:Value) (L:List CmR) (d:Nd) (c:Cm) (w:World) (e:Ending) (w':World):Prop:=
 ∃ V1 V2 x,e=.returned V1∧x.c=c∧OutP w.heap.size (d.grow c).2 V1 w'∧NdI w' base g C V2 (L++[x]) (d.grow c).1∧Fr (NdF g C V L) w w'∧∀ b,NdF g C V2 (L++[x]) b→NdF g C V L b∨w.heap.size≤b
theorem own_one (w:World) (cs:Array Value) (T:TypeId) (size:Nat) (hs:cs.size=size):(w.alloc (.cells cs T)).ownsRow w.heap.size T size (.slice (some ⟨w.heap.size,0,none⟩) 1 1) 1 cs.toList:=
 ⟨by simp[hs],.inr ⟨w.heap.size,1,cs,rfl,Nat.le_refl _,by simpa [Blk] using Blk.new w T cs,Nat.le_refl _,by decide,by simp[hs],List.take_of_length_le (by simp[hs])⟩⟩
theorem push_tail (d:Nd) (c:Cm):(d.push c).tail=d.tail:=rfl
theorem grow_any (h:NdI w base g C V L d) (x:CmR) (hR:q1k w w.heap.size x.A x.n x.c.writes) (hk:x.A=none→x.k=0) (hn:x.n≤100000) (hlen:L.length<500) (ha:0≤d.at_) :
  Calls Tryz.prog 81 #[.pointer (some ⟨g,0,none⟩),.agg #[.int .i64 x.c.kind,.int .i64 x.c.tx,.int .i64 x.c.time,.slice x.A x.n x.k]] w (GrowP base g C V L d x.c w):=by
 have hb1:Below w.heap.size w (w.alloc (.cells #[.int .i64 x.c.kind,.int .i64 x.c.tx,.int .i64 x.c.time,.slice x.A x.n x.k] 69)):=(Below.refl _ _).alloc (Nat.le_refl _) _
 have HCL:=LH (q8b w.heap.size w.heap.size x.n x.k x.A x.c.writes (w.alloc (.cells #[.int .i64 x.c.kind,.int .i64 x.c.tx,.int .i64 x.c.time,.slice x.A x.n x.k] 69)) ⟨hR.1,hR.2.below hb1⟩ hb1.size hb1.size hn hk)
 have HB0:=LH (Blk.new w 69 #[.int .i64 x.c.kind,.int .i64 x.c.tx,.int .i64 x.c.time,.slice x.A x.n x.k])
 have HB1:=LH hb1;clear hb1
 have HRL:=LH hR.1;clear hR
 have H:=LH h;clear h
 go_enter Tryz.func81,Tryz.ntmps81
 go_wp2_with fail
 refine HCL.out.mono ?_
 rintro e w2 ⟨A2,k2,rfl,hrow2,hbw2⟩
 have HB2:=LH (HB0.out.below hbw2 HB0.out.lt)
 have HW2:=LH (HB1.out.trans (hbw2.mono HB1.out.size));clear HCL hbw2 HB0 HB1
 have z3:=HB2.out.frozen 3
 have y3:=HB2.out.cell 3
 have yl:=HB2.out.lt
 simp only[List.getElem?_toArray,List.getElem?_cons_zero,List.getElem?_cons_succ] at y3
 have hset:=Fr.set1 w.heap.size w2 3 (.slice A2 x.n k2)
 have hrow3:=hset.own hrow2 (fun b hb (e:b=w.heap.size)=>q02 hrow2 HB2.out (by decide) (e▸hb))
 have hb3:=HB2.out.set_ 3 (.slice A2 x.n k2)
 simp only[List.setIfInBounds_toArray,List.set_cons_succ,List.set_cons_zero] at hb3
 have hF3:Fr (fun k=>w.heap.size≤k) w (w2.setCell ⟨w.heap.size,3,none⟩ (.slice A2 x.n k2)):=((Below.fr HW2.out (fun k=>w.heap.size≤k))).trans (hset.mono (fun i _ e=>Nat.le_of_eq e.symm))
 go_upto_region 2 with (fail)
 clear z3 y3 yl hset hrow2
 generalize (w2.setCell _ _)=w3 at *
 have h3:=H.out.fr hF3 (fun b hb h2=>by have:=(H.out.foot_lt hb).2;omega)
 obtain⟨A,cc,rfl⟩:=h3.logV
 obtain⟨_,_,_,_,n4,_,kl⟩:=h3.cells
 have b0:=hb3.cell 0
 have b1:=hb3.cell 1
 have b2:=hb3.cell 2
 have b3:=hb3.cell 3
 have bl:=hb3.lt
 simp only[List.getElem?_toArray,List.getElem?_cons_zero,List.getElem?_cons_succ] at b0 b1 b2 b3
 have hO:OwnC w3 w.heap.size ⟨x.c,A2,x.n,k2⟩:=⟨hrow3,HRL.out,hn⟩
 have HO:=LH hO;clear hO hrow3
 have HF3:=LH hF3;clear hF3
 have HK3:=LH hb3;clear hb3
 have HR3:=LH h3.row
 have hlo3:=h3.lo
 have HN3:=LH h3;clear h3
 refine wp_region_any (by kernel_rfl) ?_
 change wpAny _ _ _ _ _ _ _ (World.drew _)
 refine q0e (fun w'=>w'.cell? ⟨g,4,none⟩=some (.slice A L.length cc)∧w'.cell? ⟨w.heap.size,0,none⟩=some (.int .i64 x.c.kind)∧w'.cell? ⟨w.heap.size,1,none⟩=some (.int .i64 x.c.tx)∧w'.cell? ⟨w.heap.size,2,none⟩=some (.int .i64 x.c.time)∧w'.cell? ⟨w.heap.size,3,none⟩=some (.slice A2 x.n k2)) 8 (fun _ _ _ _ _ h=>h) (fun HQP=>?_)
 have HCC:w3.drew.cell? ⟨g,4,none⟩=some (.slice A L.length cc)∧w3.drew.cell? ⟨w.heap.size,0,none⟩=some (.int .i64 x.c.kind)∧w3.drew.cell? ⟨w.heap.size,1,none⟩=some (.int .i64 x.c.tx)∧w3.drew.cell? ⟨w.heap.size,2,none⟩=some (.int .i64 x.c.time)∧w3.drew.cell? ⟨w.heap.size,3,none⟩=some (.slice A2 x.n k2):=⟨n4,b0,b1,b2,b3⟩
 refine nB 0 rfl rfl HQP HCC (fun w' hw'=>by go_simp;rfl) ?_
 refine nB 1 rfl rfl HQP HCC (fun w' hw'=>by go_simp;rfl) ?_
 refine nB 2 rfl rfl HQP HCC (fun w' hw'=>by go_simp;rfl) ?_
 refine nB 3 rfl rfl HQP HCC (fun w' hw'=>by go_simp;rfl) ?_
 refine nB 4 rfl rfl HQP HCC (fun w' hw'=>by obtain⟨q0,q1,q2,q3,q4⟩:=hw';go_simp;rfl) ?_
 refine nB 5 rfl rfl HQP HCC (fun w' hw'=>by obtain⟨q0,q1,q2,q3,q4⟩:=hw';go_simp;rfl) ?_
 have hkeep:∀ o q p,q<w3.heap.size→(w3.alloc o).cell? ⟨q,p,none⟩=w3.cell? ⟨q,p,none⟩:=fun o q p hq=>World.cell?_alloc_lt w3 o ⟨q,p,none⟩ hq
 refine nO 6 rfl (fun K hK=>?_)
 go_simp
 refine hK _ _ (fun _=>⟨(hkeep _ _ _ kl).trans n4,(hkeep _ _ _ bl).trans b0,(hkeep _ _ _ bl).trans b1,(hkeep _ _ _ bl).trans b2,(hkeep _ _ _ bl).trans b3⟩) ?_
 clear hK K HCC hkeep
 refine nO 7 rfl (fun K hK=>?_)
 refine q1g w3.drew w3.heap.size rfl _ (.tmp 13) (.tmp 15) 66 rfl base 69 _ 4 48 Tryz.underlying66 cmd_infoH rfl (by decide) _ _ _ #[.int .i64 x.c.kind,.int .i64 x.c.tx,.int .i64 x.c.time,.slice A2 x.n k2] rfl HR3.out 1 rfl _ rfl rfl (by simp[Value.oneCell']) (by unfold maxLen;omega) (by omega) (by show base≤w3.heap.size;omega) ?_
 intro V2 w4 hrow4 hm4
 obtain⟨A4,c4,rfl,_,_⟩:=q01 hrow4
 have hm4':Moved w3 w4 (Value.ownBlock (.slice A L.length cc)) (Value.ownBlock (.slice A4 (L.length+1) c4)):=⟨⟨hm4.1.os,hm4.1.tape,hm4.1.output,hm4.1.size,hm4.1.block⟩,hm4.2⟩
 obtain⟨hN5,hF5,hft5⟩:=NdI.push H.out HF3.out HO.out hm4' hrow4 hlen
 have hgV:¬some g=Value.ownBlock (.slice A L.length cc):=fun e=>q02 HR3.out HN3.out.blk (by decide) e.symm
 have hxV:¬some w.heap.size=Value.ownBlock (.slice A L.length cc):=fun e=>by have:=(H.out.row.lt w.heap.size e.symm).2;omega
 have hg4:=hm4'.1.blk HN3.out.blk hgV
 have hk4:=hm4'.1.blk HK3.out hxV
 have y0:=hg4.cell 4
 have y1:=hg4.frozen 4
 have yl:=hg4.lt
 simp only[List.getElem?_toArray,List.getElem?_cons_zero,List.getElem?_cons_succ] at y0
 have hC4:=And.intro y0 (And.intro (hk4.cell 0) (And.intro (hk4.cell 1) (And.intro (hk4.cell 2) (hk4.cell 3))))
 have HC4:=LH hC4;clear hC4
 have HN5:=LH hN5;clear hN5
 have HF5:=LH hF5;clear hF5
 have HT5:=LH hft5;clear hft5 hrow4 hm4 hm4' hgV hxV hg4 hk4
 go_simp
 refine hK _ _ (fun _=>HC4.out) ?_
 clear hK K
 refine nO 8 rfl (fun K hK=>?_)
 go_simp
 refine hK _ _ (fun h=>absurd h (by decide)) ?_
 clear hK K
 refine nO 9 rfl (fun K hK=>?_)
 go_simp
 refine hK _ _ (fun h=>absurd h (by decide)) ?_
 clear hK K
 refine nO 10 rfl (fun K hK=>?_)
 go_simp
 refine hK _ _ (fun h=>absurd h (by decide)) ?_
 clear hK K
 refine ndone (by kernel_rfl) ?_ _
 clear HQP y0 y1 yl HC4 HK3 HN3 HR3 n4 b0 b1 b2 b3 bl kl hlo3
 generalize (w4.setCell _ _)=w5 at *
 have HTL:=LH (q6p HN5.out)
 rw[push_tail] at HTL
 go_wp2_with fail
 refine HTL.out.mono ?_
 rintro e w6 ⟨rfl,hb6⟩
 have hn6:=HN5.out.tall hb6
 have HF6:=LH (HF5.out.trans (Below.fr hb6 _))
 clear HTL HF5 hb6
 cases ht:d.tail
 ·have hat:d.at_+1<d.nodes.length:=by
   have:=H.out.at1
   rcases(show d.at_+1<d.nodes.length∨d.at_=(d.nodes.length:Int)-1 by omega) with h1|h1
   ·exact h1
   ·exfalso
    unfold Nd.tail at ht
    rw[decide_eq_true (show d.at_≥0 by omega),Bool.true_and,h1] at ht
    simp at ht
  have hfw:=q81 hn6 L.length ⟨x.c,A2,x.n,k2⟩ (by simp) (show 0≤d.at_ from ha) hat
  have hll:d.log.length=L.length:=H.out.len_log
  obtain⟨_,_,_,_,n4,_,kl⟩:=hn6.cells
  have hW:=LH hfw;clear hfw
  have HN6:=LH hn6;clear hn6
  go_wp2_with fail
  refine hW.out.mono ?_
  rintro e w7 ⟨A7,k7,rfl,hrow7,hb7⟩
  have hgr:d.grow x.c=(d.push x.c,[(d.push x.c).forward L.length]):=by unfold Nd.grow;rw[ht,hll];rfl
  have hfc:(d.push x.c).forward L.length=⟨3,d.id,d.to_ 1,d.epoch,L.length,x.c⟩:=by
   unfold Nd.forward Nd.push
   rw[← hll]
   simp
   rfl
  rw[hfc] at hrow7 ⊢
  unfold msgV
  have hb8:Below w7.heap.size w7 (w7.alloc (.cells (q04 ⟨3,d.id,d.to_ 1,d.epoch,L.length,x.c⟩ A7 x.n k7) 116)):=(Below.refl _ _).alloc (Nat.le_refl _) _
  have hF7:=HF6.out.trans (Below.fr hb7 (NdF g C (.slice A L.length cc) L))
  have hfin:GrowP base g C (.slice A L.length cc) L d x.c w (.returned (.slice (some ⟨w7.heap.size,0,none⟩) 1 1)) (w7.alloc (.cells (q04 ⟨3,d.id,d.to_ 1,d.epoch,L.length,x.c⟩ A7 x.n k7) 116)):=by
   refine⟨_,_,⟨x.c,A2,x.n,k2⟩,rfl,rfl,?_,?_,hF7.trans (Below.fr hb8 _),HT5.out⟩
   ·rw[hgr,hfc]
    refine q7n (A:=A7) (n:=x.n) (k:=k7) (q17 (own_one w7 _ _ 9 rfl) hF7.size) ?_ HRL.out hn
    have hr8:=(Below.fr hb8 (fun _=>False)).own hrow7 (fun _ _ h=>h)
    exact q17 hr8 HF6.out.size
   ·rw[hgr]
    exact(HN6.out.tall hb7).tall hb8
  unfold q04 at hfin
  have HF:=LH hfin;clear hfin n4 hrow7 hb7 hb8 hF7
  go_wp2_with fail
  go_ret
  exact HF.out
 ·have HK:=LH (q6o hn6)
  go_wp2_with fail
  refine HK.out.mono ?_
  rintro e w7 ⟨V1,rfl,ho7,hn7,hf7⟩
  have hgr:d.grow x.c=(d.push x.c).tick:=by unfold Nd.grow;rw[ht,if_pos rfl]
  have hfin:GrowP base g C (.slice A L.length cc) L d x.c w (.returned V1) w7:=⟨V1,_,⟨x.c,A2,x.n,k2⟩,rfl,rfl,by rw[hgr];exact ho7.lower HF6.out.size,by rw[hgr];exact hn7,HF6.out.trans (hf7.mono (fun _ _ e=>.inl e)),HT5.out⟩
  have HF:=LH hfin;clear hfin
  go_wp2_with fail
  go_ret
  exact HF.out
end
section
variable {P:Program} {ops:Array Oper} {Q:Exit→Act→World→Prop} {md:Region.Mode} {N:Nat} {C:World→Prop}
theorem ntwo (i j:Nat) {oi oj:Oper} {fuel:Nat} {listed:Array Bool} {a:Act} {w:World} (hr:Region.ready md ops listed=[i,j]) (hi:ops[i]? = some oi) (hj:ops[j]? = some oj)
  (hwi:Region.wanted oi (yielded ops a.tmps)=true) (hwj:Region.wanted oj (yielded ops a.tmps)=true)
  (h1:∀ K':Act→World→Prop,(∀ a w,(i<N→C w)→q0l P md ops Q N C fuel (listed.setIfInBounds i true) a w→K' a w)→Oper.wp P oi a w K' Q)
  (h2:∀ K':Act→World→Prop,(∀ a w,(j<N→C w)→q0l P md ops Q N C fuel (listed.setIfInBounds j true) a w→K' a w)→Oper.wp P oj a w K' Q):q0l P md ops Q N C (fuel+1) listed a w:=
 ⟨(fun h0=>by rw[hr] at h0;cases h0),fun k hk=>by
  rw[hr] at hk
  rcases List.mem_cons.1 hk with rfl|hk
  ·exact wpOp_step hi (fun K' hK=>by rw[if_pos hwi];exact h1 K' (fun a w hs ha=>hK a w ⟨hs,ha⟩))
  ·obtain rfl:k=j:=by simpa using hk
   exact wpOp_step hj (fun K' hK=>by rw[if_pos hwj];exact h2 K' (fun a w hs ha=>hK a w ⟨hs,ha⟩))⟩
end
def errI (k:Int):Value:=if k=0 then .nilIface else .iface 79 (.int .i64 k)
section
variable {w w':World} {base g:Nat} {C V:Value} {L:List CmR} {d:Nd}
def AddP (base g:Nat) (C V:Value) (L:List CmR) (d:Nd) (c:Cm) (w:World) (e:Ending) (w':World):Prop:=
 ∃ V1 V2 L2 b,e=.returned (.tuple #[.int .i64 (d.add c b).2.1,V1,errI (d.add c b).2.2])∧OutP w.heap.size (d.add c b).1.2 V1 w'∧NdI w' base g C V2 L2 (d.add c b).1.1∧Fr (NdF g C V L) w w'∧∀ q,NdF g C V2 L2 q→NdF g C V L q∨w.heap.size≤q
theorem AddP.of {c:Cm} {b:Bool} {nd:Nd} {ms:List Ms} {k er:Int} {V1 V2:Value} {L2:List CmR} (ha:d.add c b=((nd,ms),k,er)) (ho:OutP w.heap.size ms V1 w') (hn:NdI w' base g C V2 L2 nd) (hf:Fr (NdF g C V L) w w') (ht:∀ q,NdF g C V2 L2 q→NdF g C V L q∨w.heap.size≤q) :
  AddP base g C V L d c w (.returned (.tuple #[.int .i64 k,V1,errI er])) w':=⟨V1,V2,L2,b,by rw[ha],by rw[ha];exact ho,by rw[ha];exact hn,hf,ht⟩
theorem add_any (h:NdI w base g C V L d) (x:CmR) (hR:q1k w w.heap.size x.A x.n x.c.writes) (hk:x.A=none→x.k=0) (hn:x.n≤100000) :
  Calls Tryz.prog 120 #[.pointer (some ⟨g,0,none⟩),.agg #[.int .i64 x.c.kind,.int .i64 x.c.tx,.int .i64 x.c.time,.slice x.A x.n x.k]] w (AddP base g C V L d x.c w):=by
 have hb1:Below w.heap.size w (w.alloc (.cells #[.int .i64 x.c.kind,.int .i64 x.c.tx,.int .i64 x.c.time,.slice x.A x.n x.k] 69)):=(Below.refl _ _).alloc (Nat.le_refl _) _
 have h1:=h.tall hb1
 have hll:=h.len_log
 have hle:=h.len
 have HH:=LH (qa0 h1)
 obtain⟨A,c,rfl⟩:=h1.logV
 obtain⟨_,_,_,_,n4,_,kl⟩:=h1.cells
 have hk0:Blk (w.alloc (.cells #[.int .i64 x.c.kind,.int .i64 x.c.tx,.int .i64 x.c.time,.slice x.A x.n x.k] 69)) w.heap.size 69 #[.int .i64 x.c.kind,.int .i64 x.c.tx,.int .i64 x.c.time,.slice x.A x.n x.k]:=Blk.new w _ _
 have HK0:=LH hk0;clear hk0
 have HRB:=LH (show q1k (w.alloc (.cells #[.int .i64 x.c.kind,.int .i64 x.c.tx,.int .i64 x.c.time,.slice x.A x.n x.k] 69)).drew (w.alloc (.cells #[.int .i64 x.c.kind,.int .i64 x.c.tx,.int .i64 x.c.time,.slice x.A x.n x.k] 69)).drew.heap.size x.A x.n x.c.writes from(⟨hR.1,(hR.2.below hb1).more hb1.size⟩:q1k _ _ _ _ _));clear hR
 have HB1:=LH hb1;clear hb1
 have HN1:=LH h1;clear h1
 have HFT:=LH (fun q (hq:NdF g C (.slice A L.length c) L q)=>h.foot_lt hq);clear h
 cases hh:d.head
 ·rw[hh] at HH
  have hfin:AddP base g C (.slice A L.length c) L d x.c w (.returned (.tuple #[.int .i64 0,.slice none 0 0,errI 6])) (w.alloc (.cells #[.int .i64 x.c.kind,.int .i64 x.c.tx,.int .i64 x.c.time,.slice x.A x.n x.k] 69)):=
   AddP.of (b:=false) (by unfold Nd.add;rw[hh];rfl) (OutP.nil _ _) HN1.out (Below.fr HB1.out _) (fun q h=>.inl h)
  have HF:=LH hfin;clear hfin
  go_enter Tryz.func120,Tryz.ntmps120
  go_wp2_with fail
  refine HH.out.mono ?_
  rintro e w1 ⟨rfl,rfl⟩
  go_wp2_with fail
  go_ret3
  exact HF.out
 ·rw[hh] at HH
  have hat:d.at_=0:=by unfold Nd.head at hh;simpa using hh
  by_cases h5:L.length=500
  ·have hfin:AddP base g C (.slice A L.length c) L d x.c w (.returned (.tuple #[.int .i64 0,.slice none 0 0,errI 4])) (w.alloc (.cells #[.int .i64 x.c.kind,.int .i64 x.c.tx,.int .i64 x.c.time,.slice x.A x.n x.k] 69)):=
    AddP.of (b:=false) (by unfold Nd.add;rw[hh,hll,h5];rfl) (OutP.nil _ _) HN1.out (Below.fr HB1.out _) (fun q h=>.inl h)
   have HF:=LH hfin;clear hfin
   have h5':(L.length:Int)=500:=by omega
   generalize L.length=n at *
   subst h5
   go_enter Tryz.func120,Tryz.ntmps120
   go_wp2_with fail
   refine HH.out.mono ?_
   rintro e w1 ⟨rfl,rfl⟩
   go_wp2_with fail
   go_ret3
   exact HF.out
  have h5':¬(L.length:Int)=500:=by omega
  have hadd:∀ b,d.add x.c b=(d.grow x.c,if b then(L.length:Int)+1 else L.length,0):=fun b=>by unfold Nd.add;rw[hh,hll];simp[h5]
  have HAD:=LH hadd;clear hadd
  have HG:=LH (grow_any (w:=(w.alloc (.cells #[.int .i64 x.c.kind,.int .i64 x.c.tx,.int .i64 x.c.time,.slice x.A x.n x.k] 69)).drew) (HN1.out.tall (Below.refl _ _).drew) x HRB.out hk hn (by omega) (by omega))
  go_enter Tryz.func120,Tryz.ntmps120
  go_wp2_with fail
  refine HH.out.mono ?_
  rintro e w1 ⟨rfl,rfl⟩
  go_wp2_with fail
  have hsz:(w.alloc (.cells #[.int .i64 x.c.kind,.int .i64 x.c.tx,.int .i64 x.c.time,.slice x.A x.n x.k] 69)).heap.size=w.heap.size+1:=by simp
  generalize (w.alloc _)=w1 at *
  have b0:=HK0.out.cell 0
  have b1:=HK0.out.cell 1
  have b2:=HK0.out.cell 2
  have b3:=HK0.out.cell 3
  have bl:=HK0.out.lt
  simp only[List.getElem?_toArray,List.getElem?_cons_zero,List.getElem?_cons_succ] at b0 b1 b2 b3
  refine wp_region_any (by kernel_rfl) ?_
  change wpAny _ _ _ _ _ _ _ (World.drew _)
  refine q0e (fun w'=>w'.cell? ⟨w.heap.size,0,none⟩=some (.int .i64 x.c.kind)∧w'.cell? ⟨w.heap.size,1,none⟩=some (.int .i64 x.c.tx)∧w'.cell? ⟨w.heap.size,2,none⟩=some (.int .i64 x.c.time)∧w'.cell? ⟨w.heap.size,3,none⟩=some (.slice x.A x.n x.k)) 9 (fun _ _ _ _ _ h=>h) (fun HQP=>?_)
  have HCC:w1.drew.cell? ⟨w.heap.size,0,none⟩=some (.int .i64 x.c.kind)∧w1.drew.cell? ⟨w.heap.size,1,none⟩=some (.int .i64 x.c.tx)∧w1.drew.cell? ⟨w.heap.size,2,none⟩=some (.int .i64 x.c.time)∧w1.drew.cell? ⟨w.heap.size,3,none⟩=some (.slice x.A x.n x.k):=⟨b0,b1,b2,b3⟩
  refine nB 0 rfl rfl HQP HCC (fun w' hw'=>by go_simp;rfl) ?_
  refine nB 1 rfl rfl HQP HCC (fun w' hw'=>by go_simp;rfl) ?_
  refine nB 2 rfl rfl HQP HCC (fun w' hw'=>by go_simp;rfl) ?_
  refine nB 5 rfl rfl HQP HCC (fun w' hw'=>by go_simp;rfl) ?_
  refine nB 6 rfl rfl HQP HCC (fun w' hw'=>by obtain⟨q0,q1,q2,q3⟩:=hw';go_simp;rfl) ?_
  refine ntwo 3 7 (by kernel_rfl) rfl rfl (by kernel_rfl) (by kernel_rfl) (fun K hK=>?_) (fun K hK=>?_)
  ·go_simp
   refine hK _ _ (fun _=>HCC) ?_
   clear hK K
   refine nB 4 rfl rfl HQP HCC (fun w' hw'=>by go_simp;rfl) ?_
   refine nO 7 rfl (fun K hK=>?_)
   go_simp
   refine HG.out.mono ?_
   rintro e w7 ⟨V1,V2,x2,rfl,hxc,ho7,hn7,hf7,hft7⟩
   have hk7:=hf7.blk (show Blk w1.drew w.heap.size _ _ from HK0.out) (fun hq=>by have:=(HFT.out _ hq).2;omega)
   have hfin:AddP base g C (.slice A L.length c) L d x.c w (.returned (.tuple #[.int .i64 (L.length:Int),V1,errI 0])) w7:=
    AddP.of (b:=false) (by rw[HAD.out];rfl) (ho7.lower (by show w.heap.size≤w1.heap.size;omega)) hn7 ((Below.fr HB1.out _).drew.trans hf7) (fun q hq=>(hft7 q hq).elim .inl (fun h=>.inr (by have h':w1.heap.size≤q:=h;omega)))
   have HF:=LH hfin;clear hfin ho7 hn7 hf7 hft7
   have HC7:=And.intro (hk7.cell 0) (And.intro (hk7.cell 1) (And.intro (hk7.cell 2) (hk7.cell 3)))
   go_simp
   refine hK _ _ (fun _=>HC7) ?_
   clear hK K
   refine nO 8 rfl (fun K hK=>?_)
   go_simp
   refine hK _ _ (fun _=>HC7) ?_
   clear hK K
   refine nO 9 rfl (fun K hK=>?_)
   go_simp
   refine hK _ _ (fun h=>absurd h (by decide)) ?_
   clear hK K
   refine nO 10 rfl (fun K hK=>?_)
   go_simp
   refine hK _ _ (fun h=>absurd h (by decide)) ?_
   clear hK K
   refine ndone (by kernel_rfl) ?_ _
   clear HQP
   go_wp2_with fail
   go_ret3
   exact HF.out
  ·go_simp
   refine HG.out.mono ?_
   rintro e w7 ⟨V1,V2,x2,rfl,hxc,ho7,hn7,hf7,hft7⟩
   have hk7:=hf7.blk (show Blk w1.drew w.heap.size _ _ from HK0.out) (fun hq=>by have:=(HFT.out _ hq).2;omega)
   obtain⟨A7,c7,rfl⟩:=hn7.logV
   obtain⟨_,_,_,_,m4,_,ml⟩:=hn7.cells
   rw[List.length_append] at m4
   have hfin:AddP base g C (.slice A L.length c) L d x.c w (.returned (.tuple #[.int .i64 ((L.length:Int)+1),V1,errI 0])) w7:=
    AddP.of (b:=true) (by rw[HAD.out];rfl) (ho7.lower (by show w.heap.size≤w1.heap.size;omega)) hn7 ((Below.fr HB1.out _).drew.trans hf7) (fun q hq=>(hft7 q hq).elim .inl (fun h=>.inr (by have h':w1.heap.size≤q:=h;omega)))
   have HF:=LH hfin;clear hfin ho7 hn7 hf7 hft7
   have HC7:=And.intro (hk7.cell 0) (And.intro (hk7.cell 1) (And.intro (hk7.cell 2) (hk7.cell 3)))
   go_simp
   refine hK _ _ (fun _=>HC7) ?_
   clear hK K
   simp only[List.length_cons,List.length_nil,Nat.zero_add] at m4
   refine nO 3 rfl (fun K hK=>?_)
   go_simp
   refine hK _ _ (fun _=>HC7) ?_
   clear hK K
   refine nO 4 rfl (fun K hK=>?_)
   go_simp
   refine hK _ _ (fun _=>HC7) ?_
   clear hK K
   refine nO 8 rfl (fun K hK=>?_)
   go_simp
   refine hK _ _ (fun _=>HC7) ?_
   clear hK K
   refine nO 9 rfl (fun K hK=>?_)
   go_simp
   refine hK _ _ (fun h=>absurd h (by decide)) ?_
   clear hK K
   refine nO 10 rfl (fun K hK=>?_)
   go_simp
   refine hK _ _ (fun h=>absurd h (by decide)) ?_
   clear hK K
   refine ndone (by kernel_rfl) ?_ _
   clear HQP
   go_wp2_with fail
   go_ret3
   exact HF.out
end
def idxI (x:Int) (l:List Int):Int:=match l.findIdx? (fun y=>x == y) with|some i=>(i:Int)|none=>-1
def IxRel (x:Int) (L:List Int) (n:Nat) (w:World) (v:Value) (wr:World):Prop:=∃ j:Nat,v=.int .i64 j∧j≤n∧(∀ y∈L.take j,(x == y)=false)∧w=wr
theorem rd1 {w:World} {B n j:Nat} {A:Option Addr} {l:List Int} (h:Rd w B 1 A n (l.map (Value.int .i64))) (hj:j<n):∃ g off x,A=some ⟨g,off,none⟩∧g<B∧l[j]? = some x∧w.cell? ⟨g,off+j,none⟩=some (.int .i64 x):=by
 obtain⟨g,off,u,hA,hg,hx,hc⟩:=h.at1 hj
 rw[List.getElem?_map] at hx
 rcases hh:l[j]? with _|x
 ·rw[hh] at hx;cases hx
 ·rw[hh] at hx
  obtain rfl:=Option.some.inj hx
  exact⟨g,off,x,hA,hg,rfl,hc⟩
theorem index_any' (x:Int) (A:Option Addr) (n k:Nat) (L:List Int) (w:World) (hr:Rd w w.heap.size 1 A n (L.map (Value.int .i64))) (hl:L.length=n) (hn:n≤100000) :
  Calls Tryz.prog 106 #[.slice A n k,.int .i64 x] w fun e w'=>e=.returned (.int .i64 (idxI x L))∧w=w':=by
 have HR:=LH hr;clear hr
 go_enter Tryz.func106,Tryz.ntmps106
 go_wp2_with fail
 go_loopw [8] (IxRel x L n w) (fun v _=>n-(intOf v).toNat)
 case atStart=>exact⟨0,rfl,Nat.zero_le _,(fun y hy=>by simp at hy),rfl⟩
 case round=>
  obtain⟨j,rfl,hj,hno,rfl⟩:=hrel
  by_cases hlt:(j:Int)<n
  ·obtain⟨g',o',y,rfl,hga,hx,h0⟩:=rd1 HR.out (j:=j) (by omega)
   have hjl:j<L.length:=by omega
   have hyes:(x == y)=true→idxI x L=j:=fun hp=>by
    have:L.findIdx? (fun y=>x == y)=some j:=by
     rw[List.findIdx?_eq_some_iff_getElem]
     refine⟨hjl,?_,fun i hi=>?_⟩
     ·rw[← Option.some.inj ((List.getElem?_eq_getElem hjl).symm.trans hx)] at hp;exact hp
     ·simp only[Bool.not_eq_true]
      exact hno _ (by rw[List.mem_take_iff_getElem];exact⟨i,by omega,rfl⟩)
    unfold idxI
    rw[this]
   have hstep:(x == y)=false→∀ z∈L.take (j+1),(x == z)=false:=fun hp z hz=>by
    rw[List.take_add_one,hx] at hz
    rcases List.mem_append.1 hz with hz|hz
    ·exact hno z hz
    ·rw[Option.toList_some,List.mem_singleton] at hz
     rw[hz];exact hp
   have HY:=LH hyes;clear hyes
   have HS:=LH hstep;clear hstep
   cases hxy:(x == y)
   ·have hs:=HS.out hxy
    have HS2:=LH hs;clear hs HS HY
    go_wp2_with fail
    go_roundw
    case rel=>exact⟨j+1,rfl,by omega,HS2.out,rfl⟩
    case measure=>simp[intOf];omega
   ·have hs:=HY.out hxy
    have HS2:=LH hs;clear hs HS HY
    go_wp2_with fail
    go_ret
    exact⟨by rw[HS2.out];rfl,rfl⟩
  ·have hnone:idxI x L = -1:=by
    have:L.findIdx? (fun y=>x == y)=none:=by
     rw[List.findIdx?_eq_none_iff]
     intro z hz
     exact hno z (by rw[List.take_of_length_le (by omega)];exact hz)
    unfold idxI
    rw[this]
   have HS2:=LH hnone;clear hnone
   go_wp2_with fail
   go_ret
   exact⟨by rw[HS2.out];rfl,rfl⟩
theorem entersC {P:Program} {f:FuncId} {fn:Func} {c:Code} (hf:P.funcs[f]? = some fn) (hname:(fn.name == "runtime.NumGoroutine")=false) (hb:fn.body=some c):∀ (args:Array Value) (w:World),(callFunc f args).run P w=.ok (.enter f args) w:=by
 intro args w
 have h1:fn.name ≠ "runtime.NumGoroutine" := by simpa using hname
 simp[callFunc,hf,h1,hb,mark]
def seenI (l:List Int):Int→Option Value:=fun i=>if i∈l then some (.bool true) else none
theorem seenI_put (l:List Int) (x:Int):putM (seenI l) x (some (.bool true))=seenI (l++[x]):=by
 funext t
 unfold putM seenI
 by_cases e:t=x
 ·subst e;simp
 ·simp[e]
def TwP (mb n:Nat) (l:List Int) (x:Int) (w:World) (e:Ending) (w':World):Prop:=e=.returned (.bool false)∧MapG q05 w' mb (n+1) (seenI (l++[x]))∧Fr (fun k=>k=mb) w w'
theorem tw1_any (x:Int) (c mb n:Nat) (l:List Int) (w:World) (hc:w.cell? ⟨c,0,none⟩=some (.map (some mb))) (hm:MapG q05 w mb n (seenI l)) (hx:okI x) (hn:n<1000000) (hnx:x ∉ l) :
  Calls Tryz.prog 125 #[.int .i64 x,.pointer (some ⟨c,0,none⟩)] w (TwP mb n l x w):=by
 have hz:(zeroValue 4).run Tryz.prog w=.ok (.bool false) w:=by kernel_rfl
 have hlk:=(hm.look Tryz.underlying60 hz (x:=x) hx).2
 rw[show seenI l x=none from if_neg hnx,show q05.val x=Value.int .i64 x from rfl] at hlk
 simp only[Option.getD_none] at hlk
 have hcl:=World.block_lt_of_cell? w _ hc
 have HM:=LH hm;clear hm
 clear hz
 go_enter Tryz.func125,Tryz.ntmps125
 go_wp2_with (at_mapUpdate;refine stop ?_)
 refine back ?_
 refine q0k (C:=q05) rfl 60 4 Tryz.underlying60 (.tmp 8) (.tmp 9) _ rfl rfl HM.out (by unfold maxLen;omega) x (.bool true) rfl rfl hx ?_
 intro w6 hm6 hf6
 rw[seenI_put] at hm6
 have HF:=LH (show TwP mb n l x w (.returned (.bool false)) w6 from⟨rfl,hm6,hf6⟩);clear hm6 hf6 hlk hc
 go_wp2_with fail
 go_ret
 exact HF.out
def TiRel (L:List Int) (n _c mb:Nat) (w:World) (v:Value) (wr:World):Prop:=∃ j:Nat,v=.int .i64 j∧j≤n∧MapG q05 wr mb j (seenI (L.take j))∧Fr (fun k=>k=mb) w wr
theorem twi_any (A:Option Addr) (n k c mb:Nat) (L:List Int) (w:World) (hr:Rd w w.heap.size 1 A n (L.map (Value.int .i64))) (hl:L.length=n) (hn:n≤1000) (hc:w.cell? ⟨c,0,none⟩=some (.map (some mb))) (hm:MapG q05 w mb 0 (seenI [])) (hnd:L.Nodup) (hok:∀ x∈L,okI x) (hA:∀ g o,A=some ⟨g,o,none⟩→0<n→g≠mb) (hcm:c≠mb) :
  Calls Tryz.prog 143 #[.slice A n k,.func (.func 125) #[] #[.pointer (some ⟨c,0,none⟩)]] w fun e w'=>e=.returned (.int .i64 (-1))∧Fr (fun k=>k=mb) w w':=by
 have HR:=LH hr;clear hr
 have HST:=LH (show TiRel L n c mb w (.int .i64 (0:Nat)) w from⟨0,rfl,Nat.zero_le _,by simpa using hm,Fr.refl _ _⟩)
 have eg:=entersC Tryz.func125 (by kernel_rfl) rfl
 have HOK:=LH hok;clear hok
 have HND:=LH hnd;clear hnd
 have HA:=LH hA;clear hA
 have HC:=LH hc;clear hc
 clear hm
 go_enter Tryz.func143,Tryz.ntmps143
 go_wp2_with fail
 go_loopw [8] (TiRel L n c mb w) (fun v _=>n-(intOf v).toNat)
 case atStart=>exact HST.out
 case round=>
  clear HST
  obtain⟨j,rfl,hj,hm,hf⟩:=hrel
  by_cases hlt:(j:Int)<n
  ·obtain⟨g',o',y,rfl,hga,hx,h0⟩:=rd1 HR.out (j:=j) (by omega)
   have hgw:g'<wr.heap.size:=Nat.lt_of_lt_of_le hga hf.size
   have h0':=(hf.cell (p:=⟨g',o'+j,none⟩) hga (HA.out g' o' rfl (by omega))).trans h0
   have hcl:=World.block_lt_of_cell? w _ HC.out
   have hc':=(hf.cell (p:=⟨c,0,none⟩) hcl hcm).trans HC.out
   have hnx:y ∉ L.take j:=fun hy=>by
    have h1:(L.take (j+1)).Nodup:=HND.out.sublist (List.take_sublist _ _)
    rw[List.take_add_one,hx] at h1
    exact(List.nodup_append.1 h1).2.2 y hy y (by simp) rfl
   have hcall:=tw1_any y c mb j (L.take j) wr hc' hm (HOK.out y (List.mem_of_getElem? hx)) (by omega) hnx
   have HCALL:=LH hcall;clear hcall h0 hc' hcl
   have HX:=LH hx;clear hx hnx
   have HF0:=LH hf;clear hf hm
   go_wp2_with fail
   refine HCALL.out.mono ?_
   rintro e w2 ⟨rfl,hm2,hf2⟩
   have hrel2:TiRel L n c mb w (.int .i64 ((j+1:Nat):Int)) w2:=⟨j+1,rfl,by omega,by rw[List.take_add_one,HX.out];exact hm2,HF0.out.trans hf2⟩
   have HF:=LH hrel2;clear hrel2 hm2 hf2 h0' HCALL
   go_wp2_with fail
   go_roundw
   case rel=>exact HF.out
   case measure=>simp[intOf];omega
  ·have HF0:=LH hf;clear hf hm
   go_wp2_with fail
   go_ret
   exact⟨rfl,HF0.out⟩
theorem twc_any (A:Option Addr) (n k c mb:Nat) (L:List Int) (w:World) (hr:Rd w w.heap.size 1 A n (L.map (Value.int .i64))) (hl:L.length=n) (hn:n≤1000) (hc:w.cell? ⟨c,0,none⟩=some (.map (some mb))) (hm:MapG q05 w mb 0 (seenI [])) (hnd:L.Nodup) (hok:∀ x∈L,okI x) (hA:∀ g o,A=some ⟨g,o,none⟩→0<n→g≠mb) (hcm:c≠mb) :
  Calls Tryz.prog 124 #[.slice A n k,.func (.func 125) #[] #[.pointer (some ⟨c,0,none⟩)]] w fun e w'=>e=.returned (.bool false)∧Fr (fun k=>k=mb) w w':=by
 have HX:=LH (twi_any A n k c mb L w hr hl hn hc hm hnd hok hA hcm)
 clear hr hc hm hnd hok hA
 go_enter Tryz.func124,Tryz.ntmps124
 go_wp2_with fail
 refine HX.out.mono ?_
 rintro e w2 ⟨rfl,hb2⟩
 go_wp2_with fail
 go_ret
 exact⟨rfl,hb2⟩
theorem twice_any (A:Option Addr) (n k:Nat) (L:List Int) (w:World) (hr:Rd w w.heap.size 1 A n (L.map (Value.int .i64))) (hl:L.length=n) (hn:n≤1000) (hnd:L.Nodup) (hok:∀ x∈L,okI x) :
  Calls Tryz.prog 104 #[.slice A n k] w fun e w'=>e=.returned (.bool false)∧Below w.heap.size w w':=by
 have hmm:=@run_makeMap Tryz.prog
 have hA:∀ g o,A=some ⟨g,o,none⟩→0<n→g≠w.heap.size:=fun g o e h0=>by obtain⟨g',o',e',h,_⟩:=hr.2 h0;rw[e] at e';injection e' with e';injection e' with e1 e2;omega
 have hb2:Below w.heap.size w ((w.alloc (.map #[] 0)).alloc (.cells #[.map (some w.heap.size)] 60)):=((Below.refl _ _).alloc (Nat.le_refl _) _).alloc (by simp) _
 have hm2:MapG q05 ((w.alloc (.map #[] 0)).alloc (.cells #[.map (some w.heap.size)] 60)) w.heap.size 0 (seenI []):=by
  have:=(MapG.made q05 w).alloc (.cells #[.map (some w.heap.size)] 60)
  rw[show seenI []=fun _=>none from by funext i;simp[seenI]]
  exact this
 have hk2:Blk ((w.alloc (.map #[] 0)).alloc (.cells #[.map (some w.heap.size)] 60)) (w.heap.size+1) 60 #[.map (some w.heap.size)]:=by
  have:=Blk.new (w.alloc (.map #[] 0)) 60 #[.map (some w.heap.size)]
  rw[show(w.alloc (.map #[] 0)).heap.size=w.heap.size+1 by simp] at this
  exact this
 have HC:=LH (twc_any A n k (w.heap.size+1) w.heap.size L _ ((hr.below hb2).more hb2.size) hl hn (hk2.cell 0) hm2 hnd hok hA (by omega))
 have HB2:=LH hb2;clear hb2 hm2 hk2 hA hnd hok hr
 go_enter Tryz.func104,Tryz.ntmps104
 go_wp2_with fail
 refine HC.out.mono ?_
 rintro e w3 ⟨rfl,hf3⟩
 have HB3:=LH (HB2.out.trans (hf3.below (fun b (e:b=w.heap.size)=>by omega) HB2.out.size));clear hf3
 go_wp2_with fail
 go_ret
 exact⟨rfl,HB3.out⟩
def Nd.fresh (id:Int):Nd:=⟨id,0,[],-1,[],0⟩
theorem new_any (base:Nat) (id:Int) (w:World) (hb:base≤w.heap.size):Calls Tryz.prog 44 #[.int .i64 id] w fun e w'=>e=.returned (.pointer (some ⟨w.heap.size,0,none⟩))∧NdI w' base w.heap.size (.slice none 0 0) (.slice none 0 0) [] (Nd.fresh id)∧Below w.heap.size w w'∧w'.heap.size=w.heap.size+1:=by
 have hfin:NdI (w.alloc (.cells #[.int .i64 id,.int .i64 0,.slice none 0 0,.int .i64 (-1),.slice none 0 0,.int .i64 0] 150)) base w.heap.size (.slice none 0 0) (.slice none 0 0) [] (Nd.fresh id):=
  ⟨Blk.new w _ _,World.ownsRow_nil _ _ _ _,World.ownsRow_nil _ _ _ _,fun _ h=>(nomatch h),rfl,Nat.zero_le _,Nat.zero_le _,Int.le_refl _,(show(-1:Int)<((0:Nat):Int) by decide),Int.le_refl _,(show(0:Int)≤500 by decide),hb⟩
 have HF:=LH hfin;clear hfin
 have HB:=LH (show Below w.heap.size w (w.alloc (.cells #[.int .i64 id,.int .i64 0,.slice none 0 0,.int .i64 (-1),.slice none 0 0,.int .i64 0] 150)) from(Below.refl _ _).alloc (Nat.le_refl _) _)
 go_enter Tryz.func44,Tryz.ntmps44
 go_wp2_with fail
 go_ret
 exact⟨rfl,HF.out,HB.out,by simp⟩
structure NdJ (w:World) (base g:Nat) (C V:Value) (L:List CmR) (d:Nd):Prop where
 blk:Blk w g 150 #[.int .i64 d.id,.int .i64 d.epoch,C,.int .i64 d.at_,V,.int .i64 d.stable]
 conf:w.ownsRow base 3 1 C d.nodes.length (d.nodes.map (Value.int .i64))
 row:w.ownsRow base 69 4 V L.length (L.flatMap q0m)
 own:∀ x∈L,OwnC w base x
 log:csOf L=d.log
 len:L.length≤500
 few:d.nodes.length≤6
 st0:0≤d.stable
 st1:d.stable≤500
 lo:base≤g
section
variable {w w':World} {base g:Nat} {C C' V:Value} {L:List CmR} {d:Nd}
theorem NdI.toJ (h:NdI w base g C V L d):NdJ w base g C V L d:=⟨h.blk,h.conf,h.row,h.own,h.log,h.len,h.few,h.st0,h.st1,h.lo⟩
theorem NdJ.toI (h:NdJ w base g C V L d) (h0:-1≤d.at_) (h1:d.at_<d.nodes.length):NdI w base g C V L d:=⟨h.blk,h.conf,h.row,h.own,h.log,h.len,h.few,h0,h1,h.st0,h.st1,h.lo⟩
theorem NdJ.fr {S:Nat→Prop} (h:NdJ w base g C V L d) (hf:Fr S w w') (hn:∀ b,NdF g C V L b→¬S b):NdJ w' base g C V L d:=
 ⟨hf.blk h.blk (hn g (.inl rfl)),hf.own h.conf (fun b hb=>hn b (.inr (.inl hb))),hf.own h.row (fun b hb=>hn b (.inr (.inr (.inl hb)))),
  fun x hx=>⟨hf.own (h.own x hx).1 (fun b hb=>hn b (.inr (.inr (.inr ⟨x,hx,hb⟩)))),(h.own x hx).2⟩,h.log,h.len,h.few,h.st0,h.st1,h.lo⟩
theorem NdJ.foot_lt (h:NdJ w base g C V L d) {b:Nat} (hb:NdF g C V L b):base≤b∧b<w.heap.size:=by
 rcases hb with rfl|hb|hb|⟨x,hx,hb⟩
 ·exact⟨h.lo,h.blk.lt⟩
 ·exact h.conf.lt b hb
 ·exact h.row.lt b hb
 ·exact(h.own x hx).1.lt b hb
theorem NdJ.tall (h:NdJ w base g C V L d) (hb:Below w.heap.size w w'):NdJ w' base g C V L d:=
 h.fr (S:=fun b=>w.heap.size≤b) ⟨hb.os,hb.tape,hb.output,hb.size,fun i _ hn=>hb.block i (by omega)⟩ (fun b hb2 h2=>by have:=(h.foot_lt hb2).2;omega)
theorem NdJ.notG (h:NdJ w base g C V L d) {b:Nat} (hb:C.ownBlock=some b∨V.ownBlock=some b∨∃ x∈L,(Value.slice x.A x.n x.k).ownBlock=some b):b≠g:=by
 rintro rfl
 rcases hb with hb|hb|⟨x,hx,hb⟩
 ·exact q02 h.conf h.blk (by decide) hb
 ·exact q02 h.row h.blk (by decide) hb
 ·exact q02 (h.own x hx).1 h.blk (by decide) hb
theorem NdJ.conf_ (h:NdJ w base g C V L d) (e:Int) (ns:List Int) (hc:w.ownsRow base 3 1 C' ns.length (ns.map (Value.int .i64))) (hn:ns.length≤6) :
  NdJ ((w.setCell ⟨g,1,none⟩ (.int .i64 e)).setCell ⟨g,2,none⟩ C') base g C' V L { d with epoch:=e,nodes:=ns }:=by
 have hf:Fr (fun k=>k=g) w ((w.setCell ⟨g,1,none⟩ (.int .i64 e)).setCell ⟨g,2,none⟩ C'):=(Fr.set1 g w 1 _).trans (Fr.set1 g _ 2 _)
 refine⟨by simpa using (h.blk.set_ 1 (.int .i64 e)).set_ 2 C',hf.own hc (fun b hb e=>q02 hc h.blk (by decide) (e▸hb)),hf.own h.row (fun b hb e=>h.notG (.inr (.inl hb)) e),fun x hx=>⟨hf.own (h.own x hx).1 (fun b hb e=>h.notG (.inr (.inr ⟨x,hx,hb⟩)) e),(h.own x hx).2⟩,h.log,h.len,hn,h.st0,h.st1,h.lo⟩
theorem NdJ.at' (h:NdJ w base g C V L d) (a:Int):NdJ (w.setCell ⟨g,3,none⟩ (.int .i64 a)) base g C V L { d with at_:=a }:=by
 have hf:=Fr.set1 g w 3 (.int .i64 a)
 refine⟨by simpa using h.blk.set_ 3 (.int .i64 a),hf.own h.conf (fun b hb e=>h.notG (.inl hb) e),hf.own h.row (fun b hb e=>h.notG (.inr (.inl hb)) e),fun x hx=>⟨hf.own (h.own x hx).1 (fun b hb e=>h.notG (.inr (.inr ⟨x,hx,hb⟩)) e),(h.own x hx).2⟩,h.log,h.len,h.few,h.st0,h.st1,h.lo⟩
theorem NdJ.clear_ (h:NdJ w base g C V L d):NdJ ((w.setCell ⟨g,4,none⟩ (.slice none 0 0)).setCell ⟨g,5,none⟩ (.int .i64 0)) base g C (.slice none 0 0) [] { d with log:=[],stable:=0 }:=by
 have hf:Fr (fun k=>k=g) w ((w.setCell ⟨g,4,none⟩ (.slice none 0 0)).setCell ⟨g,5,none⟩ (.int .i64 0)):=(Fr.set1 g w 4 _).trans (Fr.set1 g _ 5 _)
 refine⟨by simpa using (h.blk.set_ 4 (.slice none 0 0)).set_ 5 (.int .i64 0),hf.own h.conf (fun b hb e=>h.notG (.inl hb) e),World.ownsRow_nil _ _ _ _,fun x hx=>(nomatch hx),rfl,Nat.zero_le _,h.few,Int.le_refl _,(show(0:Int)≤500 by decide),h.lo⟩
end
def Nd.join (d:Nd) (e:Int) (ns:List Int):Nd:=if d.at_<0 then⟨d.id,e,ns,idxI d.id ns,[],0⟩ else⟨d.id,e,ns,idxI d.id ns,d.log,d.stable⟩
theorem idxI_in {x:Int} {l:List Int} (h:x∈l):0≤idxI x l∧idxI x l<l.length:=by
 unfold idxI
 rcases hh:l.findIdx? (fun y=>x == y) with _|i
 ·rw[List.findIdx?_eq_none_iff] at hh
  have:=hh x h
  simp at this
 ·rw[List.findIdx?_eq_some_iff_getElem] at hh
  obtain⟨hl,_⟩:=hh
  simp only;omega
section
variable {w w':World} {base g:Nat} {C V:Value} {L:List CmR} {d:Nd}
def BecP (base g:Nat) (C V:Value) (L:List CmR) (d:Nd) (e:Int) (ns:List Int) (w:World) (en:Ending) (w':World):Prop:=
 ∃ V1 C2 V2 L2,en=.returned (.tuple #[V1,.nilIface])∧OutP w.heap.size (d.join e ns).tick.2 V1 w'∧NdI w' base g C2 V2 L2 (d.join e ns).tick.1∧Fr (NdF g C V L) w w'∧∀ q,NdF g C2 V2 L2 q→NdF g C V L q∨w.heap.size≤q
theorem become_any (h:NdI w base g C V L d) (e:Int) (ns:List Int) (A:Option Addr) (k:Nat) (hc:w.ownsRow base 3 1 (.slice A ns.length k) ns.length (ns.map (Value.int .i64))) (he:d.epoch<e) (hn6:ns.length≤6) (hnd:ns.Nodup) (hok:∀ x∈ns,okI x) (hin:d.id∈ns) :
  Calls Tryz.prog 75 #[.pointer (some ⟨g,0,none⟩),.agg #[.int .i64 e,.slice A ns.length k]] w (BecP base g C V L d e ns w):=by
 have hn0:0<ns.length:=by rcases ns with _|⟨a,l⟩;cases hin;simp
 have hb1:Below w.heap.size w (w.alloc (.cells #[.int .i64 e,.slice A ns.length k] 148)):=(Below.refl _ _).alloc (Nat.le_refl _) _
 have h1:=h.tall hb1
 have hc1:=(Below.fr hb1 (fun _=>False)).own hc (fun _ _ h=>h)
 have hk0:Blk (w.alloc (.cells #[.int .i64 e,.slice A ns.length k] 148)) w.heap.size 148 #[.int .i64 e,.slice A ns.length k]:=Blk.new w _ _
 obtain⟨c0,c1,c2,c3,_,_,kl⟩:=h1.cells
 have y0:=hk0.cell 0
 have y1:=hk0.cell 1
 have yl:=hk0.lt
 simp only[List.getElem?_toArray,List.getElem?_cons_zero,List.getElem?_cons_succ] at y0 y1
 have hd1:decide (e≤d.epoch)=false:=decide_eq_false (by omega)
 have HFT:=LH (fun q (hq:NdF g C V L q)=>h.foot_lt hq);clear h
 have HK0:=LH hk0;clear hk0
 have HC1:=LH hc1;clear hc1 hc
 have HB1:=LH hb1;clear hb1
 have HN1:=LH h1;clear h1
 have HND:=LH hnd;clear hnd
 have HOK:=LH hok;clear hok
 have HIN:=LH hin;clear hin
 have hsz:(w.alloc (.cells #[.int .i64 e,.slice A ns.length k] 148)).heap.size=w.heap.size+1:=by simp
 generalize hnl:ns.length=n at *
 have HNL:=LH hnl;clear hnl
 have hnz:¬(n:Int)=0:=by omega
 have hng:¬(n:Int) > 6:=by omega
 go_enter Tryz.func75,Tryz.ntmps75
 go_upto_region 1 with (fail)
 generalize (w.alloc _)=w1 at *
 go_quiet (fail)
 have hbq:Below w1.heap.size w1 (w1.drewN nq):=q08 (Below.refl _ _) _
 have hn2:=HN1.out.tall hbq
 have hk2:=HK0.out.below hbq HK0.out.lt
 have hc2:=(Below.fr hbq (fun _=>False)).own HC1.out (fun _ _ h=>h)
 have HB2:=LH (HB1.out.trans (hbq.mono HB1.out.size))
 clear c0 c1 c2 c3 y0 y1 yl kl HK0 HC1 HN1 HB1 hd1 hbq
 generalize w1.drewN nq=w2 at *
 clear hsz
 have HTW:=LH (twice_any A n k ns w2 (Rd.of_own hc2) HNL.out (by omega) HND.out HOK.out)
 have y1:=hk2.cell 1
 have yl:=hk2.lt
 simp only[List.getElem?_toArray,List.getElem?_cons_zero,List.getElem?_cons_succ] at y1
 have HN2:=LH hn2;clear hn2
 have HK2:=LH hk2;clear hk2
 have HC2:=LH hc2;clear hc2
 go_wp2_with fail
 refine HTW.out.mono ?_
 rintro en w3 ⟨rfl,hb3⟩
 have hn3:=HN2.out.tall hb3
 have hk3:=HK2.out.below hb3 HK2.out.lt
 have hc3:=(Below.fr hb3 (fun _=>False)).own HC2.out (fun _ _ h=>h)
 have HB3:=LH (HB2.out.trans (hb3.mono HB2.out.size))
 clear y1 yl HTW HN2 HK2 HC2 HB2 hb3
 obtain⟨_,_,_,c3,_,_,kl⟩:=hn3.cells
 have y0:=hk3.cell 0
 have y1:=hk3.cell 1
 have yl:=hk3.lt
 simp only[List.getElem?_toArray,List.getElem?_cons_zero,List.getElem?_cons_succ] at y0 y1
 have HCL:=LH (cloneI_any base n (.slice A n k) ns w3.drew ((Below.fr (Below.refl w3.heap.size w3).drew (fun _=>False)).own hc3 (fun _ _ h=>h)) (show base≤w3.heap.size by have:=hn3.lo;omega) (by omega))
 have HN3:=LH hn3;clear hn3
 have HK3:=LH hk3;clear hk3
 have HC3:=LH hc3;clear hc3
 go_wp2_with fail
 refine wp_region_any (by kernel_rfl) ?_
 change wpAny _ _ _ _ _ _ _ (World.drew _)
 refine q0e (fun w'=>w'.cell? ⟨w.heap.size,0,none⟩=some (.int .i64 e)∧w'.cell? ⟨w.heap.size,1,none⟩=some (.slice A n k)) 7 (fun _ _ _ _ _ h=>h) (fun HQP=>?_)
 have HCC:w3.drew.cell? ⟨w.heap.size,0,none⟩=some (.int .i64 e)∧w3.drew.cell? ⟨w.heap.size,1,none⟩=some (.slice A n k):=⟨y0,y1⟩
 refine nB 0 rfl rfl HQP HCC (fun w' hw'=>by go_simp;rfl) ?_
 refine nB 1 rfl rfl HQP HCC (fun w' hw'=>by go_simp;rfl) ?_
 refine nB 2 rfl rfl HQP HCC (fun w' hw'=>by obtain⟨q0,q1⟩:=hw';go_simp;rfl) ?_
 refine nB 3 rfl rfl HQP HCC (fun w' hw'=>by go_simp;rfl) ?_
 refine nB 4 rfl rfl HQP HCC (fun w' hw'=>by obtain⟨q0,q1⟩:=hw';go_simp;rfl) ?_
 refine nO 5 rfl (fun KK hK=>?_)
 go_simp
 refine HCL.out.mono ?_
 rintro en w4 ⟨A4,k4,rfl,hrow4,hb4,hnew4⟩
 have hb4':Below w3.heap.size w3 w4:=(Below.refl _ _).drew.trans hb4
 have hj4:=HN3.out.toJ.tall hb4'
 have hk4:=HK3.out.below hb4' HK3.out.lt
 have hc4:=(Below.fr hb4' (fun _=>False)).own HC3.out (fun _ _ h=>h)
 have HB4:=LH (HB3.out.trans (hb4'.mono HB3.out.size))
 have HJ5:=LH (hj4.conf_ e ns (by rw[HNL.out];exact hrow4) (by rw[HNL.out];exact hn6))
 have z1:=hj4.blk.cell 1
 have z2:=hj4.blk.cell 2
 have v1:=hj4.blk.frozen 1
 have v2:=hj4.blk.frozen 2
 have zl:=hj4.blk.lt
 simp only[List.getElem?_toArray,List.getElem?_cons_zero,List.getElem?_cons_succ] at z1 z2
 have hf5:Fr (fun k=>k=g) w4 ((w4.setCell ⟨g,1,none⟩ (.int .i64 e)).setCell ⟨g,2,none⟩ (.slice A4 n k4)):=(Fr.set1 g w4 1 _).trans (Fr.set1 g _ 2 _)
 have hwg:w.heap.size≠g:=by have:=(HFT.out g (.inl rfl)).2;omega
 have HK5:=LH (hf5.blk hk4 hwg)
 have HC5:=LH (hf5.own hc4 (fun b hb (e:b=g)=>q02 hc4 hj4.blk (by decide) (e▸hb)))
 have HF5:=LH ((Below.fr HB4.out (NdF g C V L)).trans (hf5.mono (fun i _ e=>.inl e)))
 have hnew5:∀ b,(Value.slice A4 n k4).ownBlock=some b→w.heap.size≤b:=fun b hb=>by have h1:w3.heap.size≤b:=hnew4 b hb;have:=HB3.out.size;omega
 have HNEW:=LH hnew5
 have hC4:=And.intro (hk4.cell 0) (hk4.cell 1)
 clear hj4 hf5 hnew4 hnew5 hb4 hb4' hrow4 hc4 hk4 HCL HCC
 go_simp
 refine hK _ _ (fun _=>hC4) ?_
 clear hK KK
 refine nO 6 rfl (fun KK hK=>?_)
 go_simp
 refine hK _ _ (fun _=>hC4) ?_
 clear hK KK
 refine nO 7 rfl (fun KK hK=>?_)
 go_simp
 refine hK _ _ (fun h=>absurd h (by decide)) ?_
 clear hK KK
 refine nO 8 rfl (fun KK hK=>?_)
 go_simp
 refine hK _ _ (fun h=>absurd h (by decide)) ?_
 clear hK KK
 refine nO 9 rfl (fun KK hK=>?_)
 go_simp
 refine hK _ _ (fun h=>absurd h (by decide)) ?_
 clear hK KK
 refine ndone (by kernel_rfl) ?_ _
 clear HQP z1 z2 v1 v2 zl c3 kl y0 y1 yl HN3 HK3 HC3 hC4
 go_wp2_with fail
 generalize ((w4.setCell _ _).setCell _ _)=w5 at *
 have g0:=HJ5.out.blk.cell 0
 have y1:=HK5.out.cell 1
 have yl:=HK5.out.lt
 have kl:=HJ5.out.blk.lt
 simp only[List.getElem?_toArray,List.getElem?_cons_zero,List.getElem?_cons_succ] at g0 y1
 have HIX:=LH (index_any' d.id A n k ns w5.drew (show Rd w5 w5.heap.size 1 A n (ns.map (Value.int .i64)) from Rd.of_own HC5.out) HNL.out (by omega))
 have hix:=idxI_in HIN.out
 rw[HNL.out] at hix
 refine wp_region_any (by kernel_rfl) ?_
 change wpAny _ _ _ _ _ _ _ (World.drew _)
 refine q0e (fun w'=>w'.cell? ⟨g,0,none⟩=some (.int .i64 d.id)∧w'.cell? ⟨w.heap.size,1,none⟩=some (.slice A n k)) 8 (fun _ _ _ _ _ h=>h) (fun HQP=>?_)
 have HCC:w5.drew.cell? ⟨g,0,none⟩=some (.int .i64 d.id)∧w5.drew.cell? ⟨w.heap.size,1,none⟩=some (.slice A n k):=⟨g0,y1⟩
 refine nB 0 rfl rfl HQP HCC (fun w' hw'=>by go_simp;rfl) ?_
 refine nB 1 rfl rfl HQP HCC (fun w' hw'=>by go_simp;rfl) ?_
 refine nB 2 rfl rfl HQP HCC (fun w' hw'=>by obtain⟨q0,q1⟩:=hw';go_simp;rfl) ?_
 refine nB 3 rfl rfl HQP HCC (fun w' hw'=>by go_simp;rfl) ?_
 refine nB 4 rfl rfl HQP HCC (fun w' hw'=>by go_simp;rfl) ?_
 refine nB 5 rfl rfl HQP HCC (fun w' hw'=>by go_simp;rfl) ?_
 refine nB 6 rfl rfl HQP HCC (fun w' hw'=>by obtain⟨q0,q1⟩:=hw';go_simp;rfl) ?_
 refine nO 7 rfl (fun KK hK=>?_)
 go_simp
 refine HIX.out.mono ?_
 rintro en w6 ⟨rfl,rfl⟩
 go_simp
 refine hK _ _ (fun _=>HCC) ?_
 clear hK KK
 have z3:=HJ5.out.blk.cell 3
 have v3:=HJ5.out.blk.frozen 3
 simp only[List.getElem?_toArray,List.getElem?_cons_zero,List.getElem?_cons_succ] at z3
 refine nO 8 rfl (fun KK hK=>?_)
 go_simp
 refine hK _ _ (fun h=>absurd h (by decide)) ?_
 clear hK KK
 refine nO 9 rfl (fun KK hK=>?_)
 go_simp
 refine hK _ _ (fun h=>absurd h (by decide)) ?_
 clear hK KK
 refine nO 10 rfl (fun KK hK=>?_)
 go_simp
 refine hK _ _ (fun h=>absurd h (by decide)) ?_
 clear hK KK
 refine ndone (by kernel_rfl) ?_ _
 clear HQP HCC HIX g0 y1 yl HK5 HC5
 have HJ6:=LH ((HJ5.out.at' (idxI d.id ns)).tall (Below.refl _ _).drew)
 have HF6:=LH ((HF5.out.trans ((Fr.set1 g w5 3 (.int .i64 (idxI d.id ns))).mono (fun i _ e=>.inl e))).drew)
 clear HJ5 HF5 z3 v3 kl
 generalize hix1:idxI d.id ns=ix at *
 have HIX1:=LH hix1;clear hix1
 have hrest:∀ q (V2:Value) (L2:List CmR),(V2=V∧L2=L∨V2=.slice none 0 0∧L2=[])→NdF g (.slice A4 n k4) V2 L2 q→NdF g C V L q∨w.heap.size≤q:=by
  rintro q V2 L2 hv (hq|hq|hq|⟨x,hx,hq⟩)
  ·exact .inl (.inl hq)
  ·exact .inr (HNEW.out q hq)
  ·rcases hv with ⟨rfl,rfl⟩|⟨rfl,rfl⟩
   ·exact .inl (.inr (.inr (.inl hq)))
   ·cases hq
  ·rcases hv with ⟨rfl,rfl⟩|⟨rfl,rfl⟩
   ·exact .inl (.inr (.inr (.inr ⟨x,hx,hq⟩)))
   ·cases hx
 have HREST:=LH hrest;clear hrest
 generalize (World.setCell w5 _ _).drew=w6 at *
 have z3:=HJ6.out.blk.cell 3
 have z4:=HJ6.out.blk.cell 4
 have z5:=HJ6.out.blk.cell 5
 have v4:=HJ6.out.blk.frozen 4
 have v5:=HJ6.out.blk.frozen 5
 have kl:=HJ6.out.blk.lt
 simp only[List.getElem?_toArray,List.getElem?_cons_zero,List.getElem?_cons_succ] at z3 z4 z5
 have hix0:ix≥0:=hix.1
 have hixn:¬ix<0:=by omega
 by_cases hwas:d.at_<0
 ·have hjn:d.join e ns=⟨d.id,e,ns,ix,[],0⟩:=by unfold Nd.join;rw[if_pos hwas,HIX1.out]
  have HI7:=LH (HJ6.out.clear_.toI (show -1≤ix by omega) (show ix<ns.length by rw[HNL.out];exact hix.2))
  have HF7:=LH (HF6.out.trans (((Fr.set1 g w6 4 (.slice none 0 0)).trans (Fr.set1 g _ 5 (.int .i64 0))).mono (fun i _ e=>.inl e)))
  go_upto_region 10 with (fail)
  clear z3 z4 z5 v4 v5 kl HJ6
  generalize ((w6.setCell _ _).setCell _ _)=w7 at *
  have z3:=HI7.out.blk.cell 3
  have kl:=HI7.out.blk.lt
  simp only[List.getElem?_toArray,List.getElem?_cons_zero,List.getElem?_cons_succ] at z3
  have HTK:=LH (q6o HI7.out)
  go_wp2_with fail
  refine HTK.out.mono ?_
  rintro en w8 ⟨V1,rfl,ho8,hn8,hf8⟩
  have hfin:BecP base g C V L d e ns w (.returned (.tuple #[V1,.nilIface])) w8:=⟨V1,_,_,_,rfl,by rw[hjn];exact ho8.lower HF7.out.size,by rw[hjn];exact hn8,HF7.out.trans (hf8.mono (fun i _ e=>.inl e)),fun q hq=>HREST.out q _ _ (.inr ⟨rfl,rfl⟩) hq⟩
  have HF:=LH hfin;clear hfin ho8 hn8 hf8
  go_wp2_with fail
  go_ret2
  exact HF.out
 ·have hjn:d.join e ns=⟨d.id,e,ns,ix,d.log,d.stable⟩:=by unfold Nd.join;rw[if_neg hwas,HIX1.out]
  have HI7:=LH (HJ6.out.toI (show -1≤ix by omega) (show ix<ns.length by rw[HNL.out];exact hix.2))
  have HTK:=LH (q6o HI7.out)
  go_wp2_with fail
  refine HTK.out.mono ?_
  rintro en w8 ⟨V1,rfl,ho8,hn8,hf8⟩
  have hfin:BecP base g C V L d e ns w (.returned (.tuple #[V1,.nilIface])) w8:=⟨V1,_,_,_,rfl,by rw[hjn];exact ho8.lower HF6.out.size,by rw[hjn];exact hn8,HF6.out.trans (hf8.mono (fun i _ e=>.inl e)),fun q hq=>HREST.out q _ _ (.inl ⟨rfl,rfl⟩) hq⟩
  have HF:=LH hfin;clear hfin ho8 hn8 hf8
  go_wp2_with fail
  go_ret2
  exact HF.out
end
section
variable {w w':World} {base g:Nat} {C V:Value} {L:List CmR} {d:Nd}
def StepP (base g:Nat) (C V:Value) (L:List CmR) (d:Nd) (m:Ms) (w:World) (e:Ending) (w':World):Prop:=
 ∃ V1 V2 L2,e=.returned V1∧OutP w.heap.size (d.step m).2 V1 w'∧NdI w' base g C V2 L2 (d.step m).1∧Fr (NdF g C V L) w w'∧∀ q,NdF g C V2 L2 q→NdF g C V L q∨w.heap.size≤q
theorem StepP.of {m:Ms} {nd:Nd} {ms:List Ms} {V1 V2:Value} {L2:List CmR} (ha:d.step m=(nd,ms)) (ho:OutP w.heap.size ms V1 w') (hn:NdI w' base g C V2 L2 nd) (hf:Fr (NdF g C V L) w w') (ht:∀ q,NdF g C V2 L2 q→NdF g C V L q∨w.heap.size≤q) :
  StepP base g C V L d m w (.returned V1) w':=⟨V1,V2,L2,rfl,by rw[ha];exact ho,by rw[ha];exact hn,hf,ht⟩
theorem OutP.snoc {B A n k:_} {ms:List Ms} {M:List MsR} {V v':Value} {w w2:World} {m:Ms} (hms:msOf M=ms) (hx:∀ x∈M,OwnW w B x∧x.n≤100000) (hrow:w.ownsRow B 116 9 V M.length (M.flatMap q0c)) (hown:w.ownsRow B 45 3 (.slice A n k) n (m.cmd.writes.flatMap q0g)) (hl:m.cmd.writes.length=n) (hn:n≤100000)
  (hr2:w2.ownsRow B 116 9 v' (M.length+1) (M.flatMap q0c++(q04 m A n k).toList)) (hmv:Moved w w2 V.ownBlock v'.ownBlock):OutP B (ms++[m]) v' w2:=by
 obtain⟨A',c,rfl,_,_⟩:=q01 hr2
 have hlen:(ms++[m]).length=M.length+1:=by rw[← hms];simp[msOf]
 have keep:∀ x:MsR,OwnW w B x→OwnW w2 B x:=fun x hx=>⟨hmv.1.own hx.1 (fun b hb e=>q0i hx.1 hrow (by decide) hb e.symm),hx.2⟩
 refine⟨A',c,M++[⟨m,A,n,k⟩],by rw[hlen],?_,by rw[← hms];simp[msOf],fun x hx'=>?_⟩
 ·rw[List.length_append,List.flatMap_append]
  simpa [q0c] using hr2
 ·rcases List.mem_append.1 hx' with h|h
  ·exact⟨keep x (hx x h).1,(hx x h).2⟩
  ·rw[List.mem_singleton] at h
   subst h
   exact⟨keep _ ⟨hown,hl⟩,hn⟩
def FwRel (d:Nd) (a:Nat) (w3:World) (B:Nat) (v7 v8:Value) (wr:World):Prop:=∃ j:Nat,v8=.int .i64 ((a+j:Nat):Int)∧(j=0∨a+j≤d.log.length)∧OutP B ((List.range' a j).map d.forward) v7 wr∧Below w3.heap.size w3 wr
theorem fw_snoc (d:Nd) (a j:Nat):(List.range' a (j+1)).map d.forward=(List.range' a j).map d.forward++[d.forward (a+j)]:=by rw[List.range'_concat,List.map_append];simp
theorem no_tail (h:NdI w base g C V L d) (ha:0≤d.at_) (ht:d.tail=false):d.at_+1<d.nodes.length:=by
 have:=h.at1
 rcases(show d.at_+1<d.nodes.length∨d.at_=(d.nodes.length:Int)-1 by omega) with h1|h1
 ·exact h1
 ·exfalso
  unfold Nd.tail at ht
  rw[decide_eq_true (show d.at_≥0 by omega),Bool.true_and,h1] at ht
  simp at ht
def Nd.ahead (d:Nd) (f:Int):Bool:=decide (d.at_ > 0) && f == d.to_ (-1)
def Nd.next (d:Nd) (f:Int):Bool:=!d.tail && f == d.to_ 1
theorem q9m (d:Nd) (m:Ms):d.step m=if d.at_<0∨m.epoch≠d.epoch∨m.to_≠d.id then(d,[]) else
 if m.kind=1∧d.ahead m.from_=true then(d,[d.msg 2 (-1) d.log.length]) else
 if m.kind=2∧d.next m.from_=true∧0≤m.n then(d,(List.range' m.n.toNat (d.log.length-m.n.toNat)).map d.forward) else
 if m.kind=3∧d.ahead m.from_=true∧m.n=d.log.length∧m.n<500 then d.grow m.cmd else
 if m.kind=4∧d.next m.from_=true∧0≤m.n∧m.n≤d.log.length then
  ({ d with stable:=max d.stable m.n },if d.at_ > 0 then [d.msg 4 (-1) (max d.stable m.n)] else []) else(d,[]):=rfl
theorem nbr (h:NdI w base g C V L d) (b:Int) (h0:0≤d.at_+b) (h1:d.at_+b<d.nodes.length):∃ gc oc c j,C=.slice (some ⟨gc,oc,none⟩) d.nodes.length c∧(d.at_+b=(j:Nat))∧(j:Int)<d.nodes.length∧gc<w.heap.size∧w.cell? ⟨gc,oc+j,none⟩=some (.int .i64 (d.to_ b))∧IntKind.i64.wrap (d.at_+b)=(j:Int):=by
 obtain⟨A,c,rfl⟩:=h.confV
 have hf:=h.few
 obtain⟨j,hj⟩:∃ j:Nat,d.at_+b=j:=⟨(d.at_+b).toNat,by omega⟩
 obtain⟨gc,oc,x,rfl,hgc,hx,hcx⟩:=rd1 (Rd.of_own h.conf) (j:=j) (by omega)
 have hto:d.to_ b=x:=by unfold Nd.to_;rw[hj];simp[hx]
 exact⟨gc,oc,c,j,rfl,hj,by omega,hgc,by rw[hto];exact hcx,by rw[IntWalk.i64_in _ ⟨by omega,by omega⟩,hj]⟩
theorem q9n {d:Nd} {m:Ms} {ah nx:Bool} {r1 r2 r3 r4:Nd×List Ms} (h1:¬(m.kind=1∧ah=true)) (h2:¬(m.kind=2∧nx=true∧0≤m.n)) (h3:¬(m.kind=3∧ah=true∧m.n=d.log.length∧m.n<500)) (h4:¬(m.kind=4∧nx=true∧0≤m.n∧m.n≤d.log.length)) :
  (if m.kind=1∧ah=true then r1 else if m.kind=2∧nx=true∧0≤m.n then r2 else if m.kind=3∧ah=true∧m.n=d.log.length∧m.n<500 then r3 else if m.kind=4∧nx=true∧0≤m.n∧m.n≤d.log.length then r4 else(d,[]))=(d,[]):=by
 rw[if_neg h1,if_neg h2,if_neg h3,if_neg h4]
theorem step_any (h:NdI w base g C V L d) (m:Ms) (A:Option Addr) (n k:Nat) (hR:q1k w w.heap.size A n m.cmd.writes) (hk:A=none→k=0) (hn:n≤100000) :
  Calls Tryz.prog 51 #[.pointer (some ⟨g,0,none⟩),.agg #[.int .i64 m.kind,.int .i64 m.from_,.int .i64 m.to_,.int .i64 m.epoch,.int .i64 m.n,.int .i64 m.cmd.kind,.int .i64 m.cmd.tx,.int .i64 m.cmd.time,.slice A n k]] w (StepP base g C V L d m w):=by
 have hb1:Below w.heap.size w (w.alloc (.cells (q04 m A n k) 116)):=(Below.refl _ _).alloc (Nat.le_refl _) _
 have h1:=h.tall hb1
 have hk0:Blk (w.alloc (.cells (q04 m A n k) 116)) w.heap.size 116 (q04 m A n k):=Blk.new w _ _
 have hcar:∀ W',Below w.heap.size w W'∧Blk W' w.heap.size 116 (q04 m A n k)→NdI W' base g C V L d∧W'.cell? ⟨w.heap.size,0,none⟩=some (.int .i64 m.kind)∧W'.cell? ⟨w.heap.size,1,none⟩=some (.int .i64 m.from_)∧W'.cell? ⟨w.heap.size,2,none⟩=some (.int .i64 m.to_)∧W'.cell? ⟨w.heap.size,3,none⟩=some (.int .i64 m.epoch)∧W'.cell? ⟨w.heap.size,4,none⟩=some (.int .i64 m.n)∧
   W'.cell? ⟨w.heap.size,5,none⟩=some (.int .i64 m.cmd.kind)∧W'.cell? ⟨w.heap.size,6,none⟩=some (.int .i64 m.cmd.tx)∧W'.cell? ⟨w.heap.size,7,none⟩=some (.int .i64 m.cmd.time)∧W'.cell? ⟨w.heap.size,8,none⟩=some (.slice A n k)∧w.heap.size<W'.heap.size:=fun W' ⟨hW,hB⟩=>⟨h.tall hW,hB.cell 0,hB.cell 1,hB.cell 2,hB.cell 3,hB.cell 4,hB.cell 5,hB.cell 6,hB.cell 7,hB.cell 8,hB.lt⟩
 have HCAR:=LH hcar;clear hcar
 have HRD:=LH (fun W' (hW:Below w.heap.size w W')=>(⟨hR.1,(hR.2.below hW).more hW.size⟩:q1k W' W'.heap.size A n m.cmd.writes));clear hR
 have HI0:=LH h
 have hSt:=LH (show Below w.heap.size w (w.alloc (.cells (q04 m A n k) 116))∧Blk (w.alloc (.cells (q04 m A n k) 116)) w.heap.size 116 (q04 m A n k) from⟨hb1,hk0⟩)
 clear hb1 hk0 h1
 have hll:=h.len_log
 have hle:=h.len
 have hat1:=h.at1
 have hlo:=h.lo
 have hgl:=h.blk.lt
 clear h
 unfold q04 at hSt HCAR
 obtain⟨hN,e0,e1,e2,e3,e4,_,_,_,_,el⟩:=HCAR.out _ hSt.out
 obtain⟨c0,c1,_,c3,_,_,kl⟩:=hN.cells
 clear hN
 by_cases hbad:d.at_<0∨m.epoch≠d.epoch∨m.to_≠d.id
 ·have hst:d.step m=(d,[]):=by rw[q9m,if_pos hbad]
  have HF:=LH (fun W' (hW:Below w.heap.size w W')=>(StepP.of hst (OutP.nil _ _) (HI0.out.tall hW) (Below.fr hW _) (fun _ h=>.inl h):StepP base g C V L d m w (.returned (.slice none 0 0)) W'))
  clear hst
  have hSB:=LH hSt.out.1
  by_cases b1:d.at_<0
  ·have d1:decide (d.at_<0)=true:=decide_eq_true b1
   go_enter Tryz.func51,Tryz.ntmps51
   go_upto_region 1 with (fail)
   go_quiet (fail)
   go_wp2_with fail
   go_ret
   exact HF.out _ (q08 hSB.out _)
  ·have d1:decide (d.at_<0)=false:=decide_eq_false b1
   by_cases b2:m.epoch=d.epoch
   ·have d2:(m.epoch != d.epoch)=false:=by simpa using b2
    have b3:m.to_≠d.id:=by rcases hbad with h|h|h;exact absurd h b1;exact absurd b2 h;exact h
    have d3:(m.to_ != d.id)=true:=by simpa using b3
    clear b2
    go_enter Tryz.func51,Tryz.ntmps51
    go_upto_region 1 with (fail)
    go_quiet (fail)
    go_wp2_with fail
    go_ret
    exact HF.out _ (q08 hSB.out _)
   ·have d2:(m.epoch != d.epoch)=true:=by simpa using b2
    go_enter Tryz.func51,Tryz.ntmps51
    go_upto_region 1 with (fail)
    go_quiet (fail)
    go_wp2_with fail
    go_ret
    exact HF.out _ (q08 hSB.out _)
 ·obtain⟨b1,b2,b3⟩:¬d.at_<0∧m.epoch=d.epoch∧m.to_=d.id:=⟨fun h=>hbad (.inl h),Classical.byContradiction fun h=>hbad (.inr (.inl h)),Classical.byContradiction fun h=>hbad (.inr (.inr h))⟩
  have hst:=q9m d m
  rw[if_neg hbad] at hst
  have HST:=LH hst;clear hst hbad
  have d1:decide (d.at_<0)=false:=decide_eq_false b1
  have d2:(m.epoch != d.epoch)=false:=by simpa using b2
  have d3:(m.to_ != d.id)=false:=by simpa using b3
  have b1':0≤d.at_:=by omega
  clear b2 b3
  go_enter Tryz.func51,Tryz.ntmps51
  go_upto_region 1 with (fail)
  go_quiet (fail)
  go_upto_region 3 with (fail)
  have hs2:Below w.heap.size w ((w.alloc (.cells #[.int .i64 m.kind,.int .i64 m.from_,.int .i64 m.to_,.int .i64 m.epoch,.int .i64 m.n,.int .i64 m.cmd.kind,.int .i64 m.cmd.tx,.int .i64 m.cmd.time,.slice A n k] 116)).drewN nq)∧Blk ((w.alloc (.cells #[.int .i64 m.kind,.int .i64 m.from_,.int .i64 m.to_,.int .i64 m.epoch,.int .i64 m.n,.int .i64 m.cmd.kind,.int .i64 m.cmd.tx,.int .i64 m.cmd.time,.slice A n k] 116)).drewN nq) w.heap.size 116 #[.int .i64 m.kind,.int .i64 m.from_,.int .i64 m.to_,.int .i64 m.epoch,.int .i64 m.n,.int .i64 m.cmd.kind,.int .i64 m.cmd.tx,.int .i64 m.cmd.time,.slice A n k]:=⟨q08 hSt.out.1 _,hSt.out.2⟩
  clear e0 e1 e2 e3 e4 el c0 c1 c3 kl hSt d1 d2 d3
  generalize ((w.alloc _).drewN nq)=w2 at *
  have HS2:=LH hs2;clear hs2
  go_cut [5] (fun v5 wx=>v5=.bool (d.ahead m.from_)∧(Below w.heap.size w wx∧Blk wx w.heap.size 116 #[.int .i64 m.kind,.int .i64 m.from_,.int .i64 m.to_,.int .i64 m.epoch,.int .i64 m.n,.int .i64 m.cmd.kind,.int .i64 m.cmd.tx,.int .i64 m.cmd.time,.slice A n k]))
  case first=>
   obtain⟨hN,_,e1,_,_,_,_,_,_,_,el⟩:=HCAR.out _ HS2.out
   by_cases hp:d.at_ > 0
   ·obtain⟨gc,oc,c,j,rfl,hj,hjn,hgc,hcc,hwr⟩:=nbr hN (-1) (by omega) (by omega)
    obtain⟨_,_,c2,c3,_,_,kl⟩:=hN.cells
    have d1:decide (0<d.at_)=true:=decide_eq_true hp
    have HAH:=LH (show d.ahead m.from_=(m.from_ == d.to_ (-1)) by unfold Nd.ahead;rw[decide_eq_true hp,Bool.true_and])
    have hwr':IntKind.i64.wrap (d.at_-1)=(j:Int):=hwr
    clear hN hwr hj
    go_quiet (fail)
    go_wp2_with fail
    go_meet
    exact⟨by rw[HAH.out],q08 HS2.out.1 _,HS2.out.2⟩
   ·have d1:decide (0<d.at_)=false:=decide_eq_false hp
    obtain⟨_,_,_,c3,_,_,kl⟩:=hN.cells
    have HAH:=LH (show d.ahead m.from_=false by unfold Nd.ahead;rw[decide_eq_false hp,Bool.false_and])
    clear hN
    go_quiet (fail)
    go_wp2_with fail
    go_meet
    exact⟨by rw[HAH.out],q08 HS2.out.1 _,HS2.out.2⟩
  case rest=>
   obtain⟨rfl,hs3⟩:=hcut
   clear HS2
   rename World=>w3
   have HS3:=LH hs3;clear hs3
   go_upto_region 4 with (fail)
   go_cut [6] (fun v6 wx=>v6=.bool (d.next m.from_)∧(Below w.heap.size w wx∧Blk wx w.heap.size 116 #[.int .i64 m.kind,.int .i64 m.from_,.int .i64 m.to_,.int .i64 m.epoch,.int .i64 m.n,.int .i64 m.cmd.kind,.int .i64 m.cmd.tx,.int .i64 m.cmd.time,.slice A n k]))
   case first=>
    obtain⟨hN,_,e1,_,_,_,_,_,_,_,el⟩:=HCAR.out _ HS3.out
    have HTQ:=LH (fun nq=>tail_q (hN.tall (q08 (Below.refl w3.heap.size w3) nq)))
    cases ht:d.tail
    ·have hat:=no_tail hN b1' ht
     rw[ht] at HTQ
     obtain⟨gc,oc,c,j,rfl,hj,hjn,hgc,hcc,hwr⟩:=nbr hN 1 (by omega) (by omega)
     obtain⟨_,_,c2,c3,_,_,kl⟩:=hN.cells
     have HNX:=LH (show d.next m.from_=(m.from_ == d.to_ 1) by unfold Nd.next;rw[ht];rfl)
     clear hN ht hj
     go_quiet ((go_at_call 58;exact Calls.quiet_of (HTQ.out _)))
     go_wp2_with fail
     go_meet
     exact⟨by rw[HNX.out],q08 HS3.out.1 _,HS3.out.2⟩
    ·rw[ht] at HTQ
     have HNX:=LH (show d.next m.from_=false by unfold Nd.next;rw[ht];rfl)
     clear hN ht
     go_quiet ((go_at_call 58;exact Calls.quiet_of (HTQ.out _)))
     go_wp2_with fail
     go_meet
     exact⟨by rw[HNX.out],q08 HS3.out.1 _,HS3.out.2⟩
   case rest=>
    obtain⟨rfl,hs4⟩:=hcut
    clear HS3
    rename World=>w4
    obtain⟨hN4,e0,e1,e2,e3,e4,e5,e6,e7,e8,el⟩:=HCAR.out _ hs4
    have HS4:=LH hs4
    have hap:d.ahead m.from_=true→d.at_ > 0:=fun h=>by unfold Nd.ahead at h;simp only[Bool.and_eq_true,decide_eq_true_eq] at h;exact h.1
    have hnp:d.next m.from_=true→d.at_+1<d.nodes.length:=fun h=>no_tail hN4 b1' (by unfold Nd.next at h;simp only[Bool.and_eq_true,Bool.not_eq_true'] at h;exact h.1)
    generalize d.ahead m.from_=ah at *
    generalize d.next m.from_=nx at *
    have HNIL:=LH (fun W' (hW:Below w.heap.size w W') (hst:d.step m=(d,[]))=>(StepP.of hst (OutP.nil _ _) (HI0.out.tall hW) (Below.fr hW _) (fun _ h=>.inl h):StepP base g C V L d m w (.returned (.slice none 0 0)) W'))
    obtain⟨_,_,c2,c3,c4,c5,kl⟩:=hN4.cells
    obtain⟨AL,cL,rfl⟩:=hN4.logV
    have HN4:=LH hN4;clear hN4
    have hs4:=HS4.out
    clear w2
    by_cases k1:m.kind=1
    ·rw[k1] at e0
     cases ah
     ·have HH:=LH hs4;clear hs4
      have hs4:=HH.out
      go_wp2_with fail
      go_quiet (fail)
      go_wp2_with fail
      go_quiet (fail)
      go_wp2_with fail
      go_ret
      exact HNIL.out _ (q08 (q08 (hs4.1) _) _) (by rw[HST.out];exact q9n (by rintro ⟨h,h'⟩;first|omega|(exact absurd h' (by simp))|(obtain⟨h1,_⟩:=h';exact absurd h1 (by simp))|(obtain⟨_,h2,h3⟩:=h';omega)) (by rintro ⟨h,h'⟩;first|omega|(exact absurd h' (by simp))|(obtain⟨h1,_⟩:=h';exact absurd h1 (by simp))|(obtain⟨_,h2,h3⟩:=h';omega)) (by rintro ⟨h,h'⟩;first|omega|(exact absurd h' (by simp))|(obtain⟨h1,_⟩:=h';exact absurd h1 (by simp))|(obtain⟨_,h2,h3⟩:=h';omega)) (by rintro ⟨h,h'⟩;first|omega|(exact absurd h' (by simp))|(obtain⟨h1,_⟩:=h';exact absurd h1 (by simp))|(obtain⟨_,h2,h3⟩:=h';omega)))
     ·have hpos:=hap rfl
      have HM:=LH (q55 HN4.out 2 (-1) L.length (by omega) (by omega))
      go_wp2_with fail
      refine HM.out.mono ?_
      rintro e w5 ⟨rfl,hb5⟩
      have hst:d.step m=(d,[d.msg 2 (-1) d.log.length]):=by rw[HST.out];simp[k1]
      unfold msgV
      have hb6:Below w5.heap.size w5 (w5.alloc (.cells (q04 (d.msg 2 (-1) d.log.length) none 0 0) 116)):=(Below.refl _ _).alloc (Nat.le_refl _) _
      have hB5:=hs4.1.trans (hb5.mono hs4.1.size)
      have hfin:StepP base g C (.slice AL L.length cL) L d m w (.returned (.slice (some ⟨w5.heap.size,0,none⟩) 1 1)) (w5.alloc (.cells (q04 (d.msg 2 (-1) d.log.length) none 0 0) 116)):=
       StepP.of hst (q7n (A:=none) (n:=0) (k:=0) (q17 (own_one w5 _ _ 9 rfl) hB5.size) (World.ownsRow_nil _ _ _ _) rfl (by omega)) ((HN4.out.tall hb5).tall hb6) (Below.fr (hB5.trans (hb6.mono hB5.size)) _) (fun _ h=>.inl h)
      unfold q04 at hfin
      rw[hll] at hfin
      have HF:=LH hfin;clear hfin hb6 hB5 hb5 hst
      go_wp2_with fail
      go_ret
      exact HF.out
    ·have f1:(m.kind == 1)=false:=by simpa using k1
     by_cases k2:m.kind=2
     ·rw[k2] at e0
      cases nx
      ·have hs4:=hs4
       go_wp2_with fail
       go_quiet (fail)
       go_wp2_with fail
       go_quiet (fail)
       go_wp2_with fail
       go_ret
       exact HNIL.out _ (q08 (q08 (hs4.1) _) _) (by rw[HST.out];exact q9n (by rintro ⟨h,h'⟩;first|omega|(exact absurd h' (by simp))|(obtain⟨h1,_⟩:=h';exact absurd h1 (by simp))|(obtain⟨_,h2,h3⟩:=h';omega)) (by rintro ⟨h,h'⟩;first|omega|(exact absurd h' (by simp))|(obtain⟨h1,_⟩:=h';exact absurd h1 (by simp))|(obtain⟨_,h2,h3⟩:=h';omega)) (by rintro ⟨h,h'⟩;first|omega|(exact absurd h' (by simp))|(obtain⟨h1,_⟩:=h';exact absurd h1 (by simp))|(obtain⟨_,h2,h3⟩:=h';omega)) (by rintro ⟨h,h'⟩;first|omega|(exact absurd h' (by simp))|(obtain⟨h1,_⟩:=h';exact absurd h1 (by simp))|(obtain⟨_,h2,h3⟩:=h';omega)))
      ·by_cases r1:0≤m.n
       ·obtain⟨a,ha⟩:∃ a:Nat,m.n=a:=⟨m.n.toNat,by omega⟩
        have d1:decide (0≤m.n)=true:=decide_eq_true r1
        have hst:d.step m=(d,(List.range' a (d.log.length-a)).map d.forward):=by
         rw[HST.out,if_neg (fun h=>by have:=h.1;omega),if_pos (by refine⟨k2,?_,r1⟩;simp),show m.n.toNat=a by omega]
        have HSTP:=LH hst;clear hst
        rw[ha] at e4 d1
        clear c2 c5 e1 e2 e3 e5 e6 e7 e8
        go_wp2_with fail
        go_loopw [7,8] (FwRel d a w4 w4.heap.size) (fun _ v _=>d.log.length-(intOf v).toNat)
        case atStart=>exact⟨0,rfl,.inl rfl,OutP.nil _ _,Below.refl _ _⟩
        case round=>
         obtain⟨j,rfl,hj,hout,hb⟩:=hrel
         have hN6:=HN4.out.tall hb
         obtain⟨_,_,_,_,c4,_,kl⟩:=hN6.cells
         obtain⟨q,hq⟩:∃ q:Nat,a+j=q:=⟨_,rfl⟩
         rw[hq] at hj ⊢
         by_cases hlt:q<L.length
         ·have dl:decide ((q:Int)<(L.length:Int))=true:=decide_eq_true (by omega)
          have HX:=LH (show L[q]? = some L[q] from List.getElem?_eq_getElem hlt)
          have HFW:=LH (q81 hN6 q _ HX.out b1' (hnp trivial))
          have HOC:=LH (hN6.own _ (List.mem_of_getElem? HX.out))
          have HFQ:=LH (show(d.forward q).cmd=L[q].c by unfold Nd.forward;rw[← hN6.log,csOf,List.getElem?_map,HX.out];rfl)
          have HOUT:=LH hout;clear hout
          have HB6:=LH hb;clear hb hN6
          have HFS:=LH (fw_snoc d a j)
          rw[hq] at HFS
          generalize L[q]=x at *
          generalize d.forward q=fm at *
          go_wp2_with fail
          refine HFW.out.mono ?_
          rintro e w5 ⟨A1,k1',rfl,hown5,hb5⟩
          have hB5:=HB6.out.trans (hb5.mono HB6.out.size)
          have hz5:w4.heap.size≤w5.heap.size:=hB5.size
          obtain⟨A7,c7,M,rfl,hrow,hms,hxs⟩:=HOUT.out.tall hb5
          have hlM:((List.range' a j).map d.forward).length=M.length:=by rw[← hms];simp[msOf]
          have hMj:M.length≤500:=by rw[← hlM];simp;omega
          have hown5:=q17 hown5 HB6.out.size
          rw[hlM] at hrow ⊢
          have HROW:=LH hrow;clear hrow
          have HXS:=LH hxs;clear hxs
          have HMS:=LH hms;clear hms hlM
          have HOWN:=LH hown5;clear hown5
          have HBB:=LH hB5;clear hB5 hb5 HFW HOUT HB6
          unfold msgV
          go_wp2_with (at_builtin;refine stop ?_)
          refine back ?_
          refine q0h w5 _ rfl (.tmp 113) (.tmp 117) 86 rfl w4.heap.size 116 _ 9 88 Tryz.underlying86 q58 rfl (by decide) _ _ _ (q04 fm A1 x.n k1') rfl HROW.out 1 rfl _ rfl rfl (by unfold q04;simp[Value.oneCell']) (by unfold maxLen;omega) (by omega) hz5 ?_
          intro v' w9 hr9 hm9
          have hsn:=OutP.snoc HMS.out HXS.out HROW.out HOWN.out (by rw[HFQ.out];exact HOC.out.2.1) HOC.out.2.2 hr9 hm9
          have hrel9:FwRel d a w4 w4.heap.size v' (.int .i64 ((q+1:Nat):Int)) w9:=by
           refine⟨j+1,by rw[show a+(j+1)=q+1 by omega],.inr (by omega),by rw[HFS.out];exact hsn,HBB.out.trans (hm9.below (fun b hb=>?_) HBB.out.size)⟩
           exact(HROW.out.lt b hb).1
          have HR:=LH hrel9;clear hrel9 hsn hr9 hm9
          clear dl
          go_wp2_with fail
          go_roundw
          case rel=>exact HR.out
          case measure=>simp[intOf];omega
         ·have dl:decide ((q:Int)<(L.length:Int))=false:=decide_eq_false (by omega)
          have hfin:StepP base g C (.slice AL L.length cL) L d m w (.returned u7) wr:=by
           refine StepP.of HSTP.out ?_ hN6 ?_ (fun _ h=>.inl h)
           ·rw[show d.log.length-a=j by omega];exact hout.lower HS4.out.1.size
           ·exact Below.fr (HS4.out.1.trans (hb.mono HS4.out.1.size)) _
          have HF:=LH hfin;clear hfin hb hout hN6
          go_wp2_with fail
          go_ret
          exact HF.out
       ·have d1:decide (0≤m.n)=false:=decide_eq_false (by omega)
        go_wp2_with fail
        go_quiet (fail)
        go_wp2_with fail
        go_quiet (fail)
        go_wp2_with fail
        go_ret
        exact HNIL.out _ (q08 (q08 (hs4.1) _) _) (by rw[HST.out,if_neg (fun h=>by have:=h.1;omega),if_neg (fun h=>by have:=h.2.2;omega),if_neg (fun h=>by have:=h.1;omega),if_neg (fun h=>by have:=h.1;omega)])
     ·by_cases k3:m.kind=3
      ·rw[k3] at e0
       cases ah
       ·have hs4:=hs4
        go_wp2_with fail
        go_quiet (fail)
        go_wp2_with fail
        go_quiet (fail)
        go_wp2_with fail
        go_ret
        exact HNIL.out _ (q08 (q08 (hs4.1) _) _) (by rw[HST.out];exact q9n (by rintro ⟨h,h'⟩;first|omega|(exact absurd h' (by simp))|(obtain⟨h1,_⟩:=h';exact absurd h1 (by simp))|(obtain⟨_,h2,h3⟩:=h';omega)) (by rintro ⟨h,h'⟩;first|omega|(exact absurd h' (by simp))|(obtain⟨h1,_⟩:=h';exact absurd h1 (by simp))|(obtain⟨_,h2,h3⟩:=h';omega)) (by rintro ⟨h,h'⟩;first|omega|(exact absurd h' (by simp))|(obtain⟨h1,_⟩:=h';exact absurd h1 (by simp))|(obtain⟨_,h2,h3⟩:=h';omega)) (by rintro ⟨h,h'⟩;first|omega|(exact absurd h' (by simp))|(obtain⟨h1,_⟩:=h';exact absurd h1 (by simp))|(obtain⟨_,h2,h3⟩:=h';omega)))
       ·by_cases q1:m.n=d.log.length
        ·by_cases q2:m.n<500
         ·have d2:decide (m.n<500)=true:=decide_eq_true q2
          have d3:(m.n == (L.length:Int))=true:=by rw[q1,hll];simp
          go_wp2_with fail
          go_quiet (fail)
          have hl5:L.length<500:=by omega
          have HG:=LH (grow_any (HN4.out.tall (q08 (Below.refl w4.heap.size w4) nq)) ⟨m.cmd,A,n,k⟩ (HRD.out _ (q08 hs4.1 nq)) hk hn hl5 b1')
          go_wp2_with fail
          refine HG.out.mono ?_
          rintro e w5 ⟨V1,V2,x2,rfl,_,ho,hn5,hf5,hft5⟩
          have hst:d.step m=((d.grow m.cmd).1,(d.grow m.cmd).2):=by
           rw[HST.out,if_neg (fun h=>by have:=h.1;omega),if_neg (fun h=>by have:=h.1;omega),if_pos (by refine⟨k3,?_,q1,q2⟩;simp)]
          have hfin:StepP base g C (.slice AL L.length cL) L d m w (.returned V1) w5:=StepP.of hst (ho.lower hs4.1.size) hn5 ((Below.fr (q08 hs4.1 nq) _).trans hf5) (fun q hq=>(hft5 q hq).imp id (fun h=>Nat.le_trans hs4.1.size h))
          have HF:=LH hfin;clear hfin ho hn5 hf5 hft5 hst
          go_wp2_with fail
          go_ret
          exact HF.out
         ·have d2:decide (m.n<500)=false:=decide_eq_false q2
          have d3:(m.n == (L.length:Int))=true:=by rw[q1,hll];simp
          go_wp2_with fail
          go_quiet (fail)
          go_wp2_with fail
          go_quiet (fail)
          go_wp2_with fail
          go_ret
          exact HNIL.out _ (q08 (q08 (hs4.1) _) _) (by rw[HST.out,if_neg (fun h=>by have:=h.1;omega),if_neg (fun h=>by have:=h.1;omega),if_neg (fun h=>by have:=h.2.2.2;omega),if_neg (fun h=>by have:=h.1;omega)])
        ·have d3:(m.n == (L.length:Int))=false:=by rw[← hll];simpa using q1
         go_wp2_with fail
         go_quiet (fail)
         go_wp2_with fail
         go_quiet (fail)
         go_wp2_with fail
         go_ret
         exact HNIL.out _ (q08 (q08 (hs4.1) _) _) (by rw[HST.out,if_neg (fun h=>by have:=h.1;omega),if_neg (fun h=>by have:=h.1;omega),if_neg (fun h=>by have:=h.2.2.1;omega),if_neg (fun h=>by have:=h.1;omega)])
      ·by_cases k4:m.kind=4
       ·rw[k4] at e0
        cases nx
        ·have hs4:=hs4
         go_wp2_with fail
         go_quiet (fail)
         go_wp2_with fail
         go_quiet (fail)
         go_wp2_with fail
         go_ret
         exact HNIL.out _ (q08 (q08 (hs4.1) _) _) (by rw[HST.out,if_neg (fun h=>by have:=h.1;omega),if_neg (fun h=>by have:=h.1;omega),if_neg (fun h=>by have:=h.1;omega),if_neg (fun h=>by have:=h.2.1;simp at this)])
        ·by_cases r1:0≤m.n
         ·by_cases r2:m.n≤d.log.length
          ·
           have d1:decide (0≤m.n)=true:=decide_eq_true r1
           have d2:decide (m.n≤(L.length:Int))=true:=decide_eq_true (by omega)
           go_wp2_with fail
           go_quiet (fail)
           go_wp2_with fail
           go_quiet (fail)
           have f5:=HN4.out.blk.frozen 5
           have hn6:=HN4.out.setStable (k:=max d.stable m.n) (by have:=HN4.out.st0;omega) (by have:=HN4.out.st1;omega)
           have HN6:=LH hn6;clear hn6
           go_upto_region 17 with (fail)
           refine wp_region_any (by kernel_rfl) ?_
           change wpAny _ _ _ _ _ _ _ (World.drew _)
           refine q0e (fun w'=>w'.cell? ⟨g,5,none⟩=some (.int .i64 d.stable)∧w'.cell? ⟨w.heap.size,4,none⟩=some (.int .i64 m.n)) 8 (fun _ _ _ _ _ h=>h) (fun HQP=>?_)
           have HCC:=And.intro c5 e4
           refine nB 0 rfl rfl HQP HCC (fun w' hw'=>by go_simp;rfl) ?_
           refine nB 1 rfl rfl HQP HCC (fun w' hw'=>by go_simp;rfl) ?_
           refine nB 2 rfl rfl HQP HCC (fun w' hw'=>by go_simp;rfl) ?_
           refine nB 3 rfl rfl HQP HCC (fun w' hw'=>by go_simp;rfl) ?_
           refine nB 4 rfl rfl HQP HCC (fun w' hw'=>by obtain⟨q0,q1⟩:=hw';go_simp;rfl) ?_
           refine nB 5 rfl rfl HQP HCC (fun w' hw'=>by go_simp;rfl) ?_
           refine nB 6 rfl rfl HQP HCC (fun w' hw'=>by obtain⟨q0,q1⟩:=hw';go_simp;rfl) ?_
           refine nB 7 rfl rfl HQP HCC (fun w' hw'=>by go_simp;rfl) ?_
           refine nO 8 rfl (fun KK hK=>?_)
           go_simp
           refine hK _ _ (fun h=>absurd h (by decide)) ?_
           clear hK KK
           refine nO 9 rfl (fun KK hK=>?_)
           go_simp
           refine hK _ _ (fun h=>absurd h (by decide)) ?_
           clear hK KK
           refine nO 10 rfl (fun KK hK=>?_)
           go_simp
           refine hK _ _ (fun h=>absurd h (by decide)) ?_
           clear hK KK
           refine ndone (by kernel_rfl) ?_ _
           clear HQP HCC
           have hmx:(if d.stable<m.n then m.n else d.stable)=max d.stable m.n:=by split <;> omega
           try rw[hmx]
           have hst:d.step m=({ d with stable:=max d.stable m.n },if d.at_ > 0 then [d.msg 4 (-1) (max d.stable m.n)] else []):=by
            rw[HST.out,if_neg (fun h=>by have:=h.1;omega),if_neg (fun h=>by have:=h.1;omega),if_neg (fun h=>by have:=h.1;omega),if_pos (by refine⟨k4,?_,r1,r2⟩;simp)]
           have HSTP:=LH hst;clear hst hmx
           generalize hw5:w4.drewN _=w5
           have hb5:Below w4.heap.size w4 w5:=hw5▸q08 (Below.refl _ _) _
           have hn5:=HN4.out.tall hb5
           have HN7:=LH (hn5.setStable (k:=max d.stable m.n) (by have:=hn5.st0;omega) (by have:=hn5.st1;omega))
           have HB5:=LH (hs4.1.trans (hb5.mono hs4.1.size))
           have HF7:=LH ((Below.fr HB5.out (NdF g C (.slice AL L.length cL) L)).trans ((Fr.set1 g w5 5 (.int .i64 (max d.stable m.n))).mono (fun i _ e=>.inl e)))
           clear hw5 hn5 hb5 hs4 c2 c3 c4 c5 kl f5 HN6 e0 e1 e2 e3 e4 e5 e6 e7 e8 el
           generalize max d.stable m.n=ks at *
           generalize (w5.setCell _ _)=w7 at *
           obtain⟨_,_,_,c3,_,c5,kl⟩:=HN7.out.cells
           by_cases hp:d.at_ > 0
           ·have HM:=LH (q55 HN7.out 4 (-1) ks (show 0≤d.at_ + -1 by omega) (show d.at_ + -1<d.nodes.length by omega))
            go_wp2_with fail
            refine HM.out.mono ?_
            rintro e w8 ⟨rfl,hb8⟩
            unfold msgV
            have hb9:Below w8.heap.size w8 (w8.alloc (.cells (q04 (d.msg 4 (-1) ks) none 0 0) 116)):=(Below.refl _ _).alloc (Nat.le_refl _) _
            have hF8:=HF7.out.trans (Below.fr hb8 (NdF g C (.slice AL L.length cL) L))
            have hfin:StepP base g C (.slice AL L.length cL) L d m w (.returned (.slice (some ⟨w8.heap.size,0,none⟩) 1 1)) (w8.alloc (.cells (q04 (d.msg 4 (-1) ks) none 0 0) 116)):=
             StepP.of (by rw[HSTP.out,if_pos hp]) (q7n (A:=none) (n:=0) (k:=0) (q17 (own_one w8 _ _ 9 rfl) hF8.size) (World.ownsRow_nil _ _ _ _) rfl (by omega)) ((HN7.out.tall hb8).tall hb9) (hF8.trans (Below.fr hb9 _)) (fun _ h=>.inl h)
            unfold q04 at hfin
            have HF:=LH hfin;clear hfin hb9 hF8 hb8
            go_wp2_with fail
            go_ret
            exact HF.out
           ·have hfin:StepP base g C (.slice AL L.length cL) L d m w (.returned (.slice none 0 0)) w7:=StepP.of (by rw[HSTP.out,if_neg hp]) (OutP.nil _ _) HN7.out HF7.out (fun _ h=>.inl h)
            have HF:=LH hfin;clear hfin
            go_wp2_with fail
            go_ret
            exact HF.out
          ·have d1:decide (0≤m.n)=true:=decide_eq_true r1
           have d2:decide (m.n≤(L.length:Int))=false:=decide_eq_false (by omega)
           go_wp2_with fail
           go_quiet (fail)
           go_wp2_with fail
           go_quiet (fail)
           go_wp2_with fail
           go_ret
           exact HNIL.out _ (q08 (q08 (hs4.1) _) _) (by rw[HST.out,if_neg (fun h=>by have:=h.1;omega),if_neg (fun h=>by have:=h.1;omega),if_neg (fun h=>by have:=h.1;omega),if_neg (fun h=>by have:=h.2.2.2;omega)])
         ·have d1:decide (0≤m.n)=false:=decide_eq_false r1
          go_wp2_with fail
          go_quiet (fail)
          go_wp2_with fail
          go_quiet (fail)
          go_wp2_with fail
          go_ret
          exact HNIL.out _ (q08 (q08 (hs4.1) _) _) (by rw[HST.out,if_neg (fun h=>by have:=h.1;omega),if_neg (fun h=>by have:=h.1;omega),if_neg (fun h=>by have:=h.1;omega),if_neg (fun h=>by have:=h.2.2.1;omega)])
       ·have f2:(m.kind == 2)=false:=by simpa using k2
        have f3:(m.kind == 3)=false:=by simpa using k3
        have f4:(m.kind == 4)=false:=by simpa using k4
        go_wp2_with fail
        go_quiet (fail)
        go_wp2_with fail
        go_quiet (fail)
        go_wp2_with fail
        go_ret
        exact HNIL.out _ (q08 (q08 (hs4.1) _) _) (by rw[HST.out];exact q9n (by rintro ⟨h,h'⟩;first|omega|(exact absurd h' (by simp))|(obtain⟨h1,_⟩:=h';exact absurd h1 (by simp))|(obtain⟨_,h2,h3⟩:=h';omega)) (by rintro ⟨h,h'⟩;first|omega|(exact absurd h' (by simp))|(obtain⟨h1,_⟩:=h';exact absurd h1 (by simp))|(obtain⟨_,h2,h3⟩:=h';omega)) (by rintro ⟨h,h'⟩;first|omega|(exact absurd h' (by simp))|(obtain⟨h1,_⟩:=h';exact absurd h1 (by simp))|(obtain⟨_,h2,h3⟩:=h';omega)) (by rintro ⟨h,h'⟩;first|omega|(exact absurd h' (by simp))|(obtain⟨h1,_⟩:=h';exact absurd h1 (by simp))|(obtain⟨_,h2,h3⟩:=h';omega)))
end
end Go.Proofs.YtccahlhdifadfaaGreatDoor
