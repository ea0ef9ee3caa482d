/- Part 17 of the texts that the claim rests on (of 19): Pick, Pg1, Kh1, SerPlain, Kh2, Kh3, Kp1, Kp2, Kh4, Kh5, Kh6, Kh7, Kh8, Kh9. -/
import Derived.Test.YtccahlhdifadfaaGreatDoorPk15
import Derived.Test.YtccahlhdifadfaaGreatDoorRows
import Derived.WalkKit
import Derived.WalkSpells
import Derived.WalkLawsBesides
import Derived.IntWalk
import Derived.Below
namespace Go.Proofs.YtccahlhdifadfaaGreatDoor
open Go.RowKit
set_option maxRecDepth 100000
set_option maxHeartbeats 16000000
def pickN (a:Int) (n:Nat):Nat:=((a % 18446744073709551616) % n).toNat
theorem q26 (a:Int) {n:Nat} (h:0<n):pickN a n<n:=by
 unfold pickN
 have h1:0≤(a % 18446744073709551616) % (n:Int):=Int.emod_nonneg _ (by omega)
 have h2:(a % 18446744073709551616) % (n:Int)<n:=Int.emod_lt_of_pos _ (by omega)
 omega
theorem q35 (a:Int) (n:Nat) (h:0<n) (hn:n≤4611686018427387904) (w:World):Calls Tryz.prog 13 #[.int .i64 a,.int .i64 n] w fun e w'=>e=.returned (.int .i64 (pickN a n))∧w=w':=by
 go_enter Tryz.func13,Tryz.ntmps13
 go_wp2_with fail
 go_ret
 refine⟨?_,rfl⟩
 have hw:IntKind.u64.wrap a=a % 18446744073709551616:=by simp[IntKind.wrap,IntKind.bits,IntKind.signed]
 have h1:0≤a % 18446744073709551616:=Int.emod_nonneg _ (by omega)
 have h2:0≤(a % 18446744073709551616) % (n:Int):=Int.emod_nonneg _ (by omega)
 have h3:(a % 18446744073709551616) % (n:Int)<n:=Int.emod_lt_of_pos _ (by omega)
 have e:wrap64 ((IntKind.u64.wrap a).tmod n)=(pickN a n:Int):=by
  rw[hw,Int.tmod_eq_emod_of_nonneg h1,IntWalk.wrap64_in _ (by omega)]
  unfold pickN
  omega
 show Ending.returned (.int .i64 (wrap64 ((IntKind.u64.wrap a).tmod n)))=_
 rw[e]
section
variable {H H':Hs}
theorem get_act (wf:Wf H) (hc:H.c=3) (id:Int) {k:Sx} (hk:k∈names):ActR H (H.get id k).2:=by
 have h:=q5a (id:=id) (mode:=1) wf hc hk (by unfold q16;omega)
 unfold Hs.get
 simp only
 split
 ·exact .star h
 ·split <;> exact .star h
theorem put_act (wf:Wf H) (hc:H.c=3) (id:Int) {p:Pr} (hk:sx p.key∈names):ActR H (H.put id p).2:=by
 unfold Hs.put
 split
 ·exact .star (.refl _)
 ·rename_i hv
  have h:=q5a (id:=id) (mode:=2) wf hc hk (by unfold q16;omega)
  have wf2:Wf (H.lock id (sx p.key) 2).2:=(q4a wf hc hk).1
  have hid:(H.lock id (sx p.key) 2).1=0→1≤id.toNat∧id.toNat≤(H.lock id (sx p.key) 2).2.m:=fun h0=>by
   have hm:=(q4a (mode:=2) (id:=id) wf hc hk).2.m
   by_cases hb:id<1∨H.m<id
   ·rw[q1o hb] at h0;cases h0
   ·rw[hm];omega
  simp only
  split
  ·exact .star h
  ·rename_i h0
   have h0:(H.lock id (sx p.key) 2).1=0:=by simpa using h0
   obtain⟨i1,i2⟩:=hid h0
   split
   ·rename_i l hl
    have hw:=wf2.tx _ i1 i2
    have hp:WfP ⟨p.key,if p.gone then⟨#[]⟩ else p.val,p.gone⟩:=by
     refine⟨hk,?_⟩
     show(if p.gone then(⟨#[]⟩:ByteArray) else p.val).size≤40
     split
     ·decide
     ·omega
    have e:l.length≤20∧∀ q∈l,WfP q:=by
     unfold putPr at hl
     split at hl
     ·injection hl with hl
      subst hl
      refine⟨by rw[List.length_set];exact hw.few,fun q hq=>?_⟩
      rcases List.mem_or_eq_of_mem_set hq with g|g
      ·exact hw.ps q g
      ·rw[g];exact hp
     ·split at hl
      ·cases hl
      ·rename_i h20
       injection hl with hl
       subst hl
       refine⟨by have:=hw.few;simp;omega,fun q hq=>?_⟩
       rcases List.mem_append.1 hq with g|g
       ·exact hw.ps q g
       ·rw[List.mem_singleton.1 g];exact hp
    exact .write h i1 i2 e.1 e.2
   ·exact .star h
theorem end_act {id e:Int} (wf:Wf H) (hc:H.c=3) (r:EndR H id e H'):ActR H H':=by
 cases r with
 | missing=>exact .star (.refl _)
 | state=>exact .star (.refl _)
 | waits=>exact .star (.refl _)
 | ends h h1 h2 r=>exact .ends (i:=id.toNat) (by omega) (by omega) h1 h2 (q2y r (wf.ending (by omega) (by omega)) hc)
theorem drop_act (id:Int):ActR H (H.drop id).2:=.star (drop_star id)
theorem deliver_act {k:Nat} (wf:Wf H) (hc:H.c=3) (r:q1t H k H'):ActR H H':=.star (q46 r wf hc)
theorem lose_act (k:Nat):ActR H (H.lose k):=by
 have:=ActR.net (H:=H) (l:=H.net.l.eraseIdx k) (fun m hm=>List.mem_of_mem_eraseIdx hm)
 exact this
theorem twice_act (k:Nat):ActR H (H.twice k):=by
 unfold Hs.twice
 split
 ·exact .star (.refl _)
 ·rename_i m hm
  have:=ActR.net (H:=H) (l:=(sendS H.net m).l) (fun x hx=>by
   rcases sendS_mem hx with h|⟨h,_⟩
   ·exact h
   ·rw[h];exact List.mem_of_getElem? hm)
  rw[← q5v H.net m] at this
  exact this
theorem tick_act (wf:Wf H) (hc:H.c=3) (r:TickR H H'):ActR H H':=.star (q76 r wf hc)
theorem calm_act {n:Nat} (wf:Wf H) (hc:H.c=3) (r:CalmR n H H'):ActR H H':=.star (calm_star r wf hc)
end
structure Keep (w w1:World) (own:Own) (P:Ptr) (H:Hs):Prop where
 hi:HI w1 own P H
 ns:NoSm own
 bl:Below w.heap.size w w1
 lo:∀ b,own b≠none→w.heap.size≤b
theorem Keep.step {Z:Tg→Prop} {w w1 w2:World} {own own2:Own} {P P':Ptr} {H H':Hs} (k:Keep w w1 own P H) (hi:HI w2 own2 P' H') (hz:HZ Z w1 own w2 own2):Keep w w2 own2 P' H':=by
 refine⟨hi,hz.noSm k.ns,k.bl.trans (hz.fr.below (fun b hb=>k.lo b hb.owned) k.bl.size),fun b hb=>?_⟩
 by_cases e:b<w1.heap.size
 ·rw[hz.ext b e] at hb;exact k.lo b hb
 ·have:=k.bl.size;omega
theorem Keep.gsp {w w1 w2:World} {own:Own} {P:Ptr} {H H':Hs} (k:Keep w w1 own P H) (h:GsP P own H' w1 w2):∃ own2,Keep w w2 own2 P H':=by
 obtain⟨own2,a,b⟩:=h
 exact⟨own2,k.step a b⟩
theorem Keep.below {w w1 w2:World} {own:Own} {P:Ptr} {H:Hs} (k:Keep w w1 own P H) (hb:Below w1.heap.size w1 w2):Keep w w2 own P H:=⟨k.hi.below hb,k.ns,k.bl.trans (hb.mono k.bl.size),k.lo⟩
theorem kA_mem:kA∈names:=by decide
def HousedP (w:World) (e:Ending) (w':World):Prop:=e=.returned (.bool true)∧Below w.heap.size w w'
theorem housed_any (w:World):Calls Tryz.prog 21 #[] w (HousedP w):=by
 obtain⟨hA0,hm0,hn0⟩:=all_hs0 (n:=2) (by omega)
 have HN:=LH (show Calls Tryz.prog 20 #[.int .i64 2,.int .i64 2] w (NewP 2 w) from new_house (w:=w) 2 (by omega) (by omega))
 go_enter Tryz.func21,Tryz.ntmps21
 go_wp2_with fail
 refine HN.out.mono ?_
 rintro e w1 ⟨P,own1,rfl,hI,hns,hb,hg,hlo⟩
 have K1:Keep w w1 own1 P (hs0 2):=⟨hI,hns,hb,hlo⟩
 have HB:=LH (q8e K1.hi (by omega))
 have HK1:=LH K1
 have HA0:=LH hA0
 have HM0:=LH hm0
 unfold BegP at HB
 rw[hm0,show((0+1:Nat):Int)=1 from rfl] at HB
 clear hm0 hn0 hA0 HN hI hns hb hg hlo K1
 unfold pw at *
 go_wp2_with fail
 refine HB.out.mono ?_
 rintro e w2 ⟨rfl,b2,own2,hI2,hZ2⟩
 have hA2:AllI (hs0 2).begin 4:=(HA0.out.act (by omega) (ActR.begin (by rw[HM0.out];omega)) (D:=fun _=>True) (fun _ _ _ _=>trivial)).1
 have K2:=HK1.out.step hI2 hZ2
 have hg2:({ P with gt:=upd P.gt (0+1) b2 } : Ptr).g=P.g:=rfl
 generalize ({ P with gt:=upd P.gt (0+1) b2 } : Ptr)=P2 at *
 have HPU:=LH (hput_all K2.hi hA2.wf K2.ns hA2.c 1 kA kA_mem ⟨#[120]⟩ (by decide) false)
 rw[show(⟨⟨kA.toArray⟩,⟨#[120]⟩,false⟩:Pr)=prA from rfl,q97] at HPU
 have HK2:=LH K2
 have HA2:=LH hA2
 unfold ErP pw kA at HPU
 rw[← hg2]
 clear HB HA0 HM0 HK1 hI2 hZ2 hA2 K2 hg2
 go_wp2_with fail
 refine HPU.out.mono ?_
 rintro e w3 ⟨rfl,hG3⟩
 obtain⟨own3,K3⟩:=HK2.out.gsp hG3
 obtain⟨hs,hm3,hs3,hw3⟩:=q96
 have hc3:hP.c=3:=HA2.out.c
 have hA3:AllI hP 7:=by
  have:=(HA2.out.act (by omega) (put_act (id:=1) (p:=prA) HA2.out.wf HA2.out.c (by decide)) (D:=fun _=>True) (fun _ _ _ _=>trivial)).1
  rw[q97] at this
  exact this
 have HE:=LH (end_any K3.hi hA3.wf hA3.c 1)
 have HK3:=LH K3
 have HA3:=LH hA3
 unfold HEndP pw at HE
 clear HPU HK2 HA2 hG3 hs hm3 hs3 hw3 hc3 K3 hA3
 simp only[erV,if_pos]
 go_wp2_with fail
 refine HE.out.mono ?_
 rintro e w4 ⟨er,H4,rfl,hE4,hG4⟩
 obtain⟨rfl,y,hy,hsy⟩:=housed_end hE4
 obtain⟨own4,K4⟩:=HK3.out.gsp hG4
 have hA4:AllI H4 10:=(HA3.out.act (by omega) (end_act HA3.out.wf HA3.out.c hE4) (D:=fun _=>True) (fun _ _ _ _=>trivial)).1
 have HS:=LH (q51 K4.hi (by have:=hA4.wf.m60;omega) 1)
 rw[housed_state hy hsy] at HS
 have HC:=LH (calm_any K4.hi hA4.wf hA4.c)
 have HK4:=LH K4
 have HA4:=LH hA4
 have HY:=LH (show q8d y=true∧SimH y H4 from⟨hy,hsy⟩)
 unfold CalmP pw at HC
 unfold pw at HS
 clear HE HK3 HA3 hE4 hG4 hy hsy K4 hA4
 simp only[erV,if_pos]
 go_wp2_with fail
 refine HS.out.mono ?_
 rintro e w4 ⟨rfl,rfl⟩
 go_wp2_with fail
 refine HC.out.mono ?_
 rintro e w5 ⟨rfl,H5,hC5,hG5,_,_⟩
 obtain⟨z,hz,hsz⟩:=housed_calm HY.out.1 HY.out.2 hC5
 obtain⟨own5,K5⟩:=HK4.out.gsp hG5
 have hA5:AllI H5 13:=(HA4.out.act (by omega) (calm_act HA4.out.wf HA4.out.c hC5) (D:=fun _=>True) (fun _ _ _ _=>trivial)).1
 have HB:=LH (q8e K5.hi (by rw[hsz.m];omega))
 have HK5:=LH K5
 have HA5:=LH hA5
 have HZ:=LH (show endOk z=true∧SimH z H5 from⟨hz,hsz⟩)
 unfold BegP pw at HB
 rw[hsz.m,show((1+1:Nat):Int)=2 from rfl] at HB
 clear HC HS HK4 HA4 HY hC5 hG5 hz hsz K5 hA5
 go_wp2_with fail
 refine HB.out.mono ?_
 rintro e w6 ⟨rfl,b6,own6,hI6,hZ6⟩
 have hA6:AllI H5.begin 16:=(HA5.out.act (by omega) (ActR.begin (by rw[HZ.out.2.m];omega)) (D:=fun _=>True) (fun _ _ _ _=>trivial)).1
 have K6:=HK5.out.step hI6 hZ6
 have hg6:({ P2 with gt:=upd P2.gt (1+1) b6 } : Ptr).g=P2.g:=rfl
 generalize ({ P2 with gt:=upd P2.gt (1+1) b6 } : Ptr)=P6 at *
 have HGT:=LH (hget_all K6.hi hA6.wf K6.ns hA6.c 2 kA kA_mem)
 have HK6:=LH K6
 have HA6:=LH hA6
 unfold GetP pw kA at HGT
 have hgt:=housed_get HZ.out.1 HZ.out.2
 unfold kA at hgt
 rw[hg6,hgt.1] at HGT
 have HST:=LH hgt.2
 have HG6:=LH hg6
 clear HB HA5 HK5 hI6 hZ6 hA6 K6 hg6 hgt
 go_wp2_with fail
 refine HGT.out.mono ?_
 rintro e w7 ⟨rfl,hG7⟩
 obtain⟨own7,K7⟩:=HK6.out.gsp hG7
 have hA7:AllI (H5.begin.get 2 [97]).2 19:=(HA6.out.act (by omega) (get_act HA6.out.wf HA6.out.c 2 kA_mem) (D:=fun _=>True) (fun _ _ _ _=>trivial)).1
 have HS1:=LH (q51 K7.hi (by have:=hA7.wf.m60;omega) 1)
 have HS2:=LH (q51 K7.hi (by have:=hA7.wf.m60;omega) 2)
 rw[HST.out.1] at HS1
 rw[HST.out.2] at HS2
 unfold pw at HS1 HS2
 rw[HG6.out] at HS1 HS2
 have HF:=LH (show HousedP w (.returned (.bool true)) w7 from⟨rfl,K7.bl⟩)
 clear HGT HK6 HA6 hG7 K7 hA7
 simp only[erV,if_pos]
 go_wp2_with fail
 refine HS1.out.mono ?_
 rintro e w7 ⟨rfl,rfl⟩
 go_wp2_with fail
 refine HS2.out.mono ?_
 rintro e w7 ⟨rfl,rfl⟩
 go_wp2_with fail
 go_ret
 exact HF.out
structure OpP where
 kind:Int
 key:ByteArray
 val:ByteArray
 found:Bool
structure TxP where
 ops:List OpP
 from_:Int
 to_:Int
abbrev Mp:=ByteArray→Option ByteArray
def Mp.empty:Mp:=fun _=>none
def Mp.set (m:Mp) (k:ByteArray) (v:Option ByteArray):Mp:=fun x=>if x=k then v else m x
def getOk (m:Mp) (o:OpP):Prop:=(m o.key).isSome=o.found∧∀ v,m o.key=some v→v=o.val
instance (m:Mp) (o:OpP):Decidable (getOk m o):=by
 unfold getOk
 rcases h:m o.key with _|v
 ·exact decidable_of_iff ((none:Option ByteArray).isSome=o.found) ⟨fun h=>⟨h,fun v e=>by cases e⟩,fun h=>h.1⟩
 ·exact decidable_of_iff (true=o.found∧v=o.val) ⟨fun h=>⟨h.1,fun u e=>by injection e with e;rw[← e];exact h.2⟩,fun h=>⟨h.1,h.2 v rfl⟩⟩
def op1 (m:Mp) (o:OpP):Option Mp:=
 if o.kind=1 then(if getOk m o then some m else none) else if o.kind=2 then some (m.set o.key (some o.val)) else if o.kind=3 then some (m.set o.key none) else some m
def playsP (m:Mp):List OpP→Option Mp
 | []=>some m
 | o::l=>(op1 m o).bind fun m'=>playsP m' l
section
variable (l:List TxP)
def toA (i:Nat):Int:=(l[i]?.map (·.to_)).getD (-1)
def fromA (i:Nat):Int:=(l[i]?.map (·.from_)).getD 0
def opsA (i:Nat):List OpP:=(l[i]?.map (·.ops)).getD []
def mayP (order:List Nat) (i:Nat):Prop:=∀ k,k<l.length→k≠i→k ∉ order→¬(0≤toA l k∧toA l k<fromA l i)
def doneP (order:List Nat):Prop:=∀ k,k<l.length→0≤toA l k→k∈order
instance (order:List Nat) (i:Nat):Decidable (mayP l order i):=by unfold mayP;exact inferInstance
instance (order:List Nat):Decidable (doneP l order):=by unfold doneP;exact inferInstance
def posP (order:List Nat) (k:Nat):Nat:=if k∈order then order.idxOf k+1 else 0
def FitsP (order:List Nat):Prop:=
 order.Nodup∧(∀ k∈order,k<l.length)∧(∀ i,i<l.length→(0≤toA l i→i∈order)∧∀ k,k<l.length→¬(0≤toA l i∧toA l i<fromA l k∧0<posP order k∧posP order k<posP order i))∧
  (playsP Mp.empty (order.flatMap (opsA l))).isSome=true
def cutP (order:List Nat):List TxP:=l.mapIdx fun i t=>if i ∉ order∧0≤t.to_ then { t with to_:=-1 } else t
def StartsP (order:List Nat):Prop:=(∀ i,i<l.length→i ∉ order→0≤toA l i→∀ k∈order,¬toA l i<fromA l k)∧FitsP (cutP l order) order
instance (order:List Nat):Decidable (FitsP l order):=by unfold FitsP;exact inferInstance
instance (order:List Nat):Decidable (StartsP l order):=by unfold StartsP;exact inferInstance
end
structure SxR where
 t:TxP
 V:Value
def q5s (o:OpP):List Value:=[.int .i64 o.kind,.string o.key,.string o.val,.bool o.found]
def q2b (x:SxR):List Value:=[x.V,.int .i64 x.t.from_,.int .i64 x.t.to_]
theorem sx_info:(Tryz.prog.info? 52).map (fun i=>(i.zero,i.size,i.bytes))=some (some (.agg #[.slice none 0 0,.int .i64 0,.int .i64 0]),3,40):=by kernel_rfl
theorem so_info:(Tryz.prog.info? 56).map (fun i=>(i.zero,i.size,i.bytes))=some (some (.agg #[.int .i64 0,.string ⟨#[]⟩,.string ⟨#[]⟩,.bool false]),4,48):=by kernel_rfl
structure StyI (w:World) (g gh:Nat) (V:Value) (L:List SxR) (now:Int) (safe:Bool) (nodes:Int) (B:Nat):Prop where
 blk:Blk w g 37 #[pw gh,V,.int .i64 now,.bool safe,.int .i64 nodes]
 row:w.ownsRow 0 52 3 V L.length (L.flatMap q2b)
 ops:∀ x∈L,w.ownsRow 0 56 4 x.V x.t.ops.length (x.t.ops.flatMap q5s)∧x.t.ops.length≤B∧∀ o∈x.t.ops,True
 apart:∀ (i j:Nat) (x y:SxR),L[i]? = some x→L[j]? = some y→i≠j→∀ b,x.V.ownBlock=some b→y.V.ownBlock≠some b
def StyF (g:Nat) (V:Value) (L:List SxR) (b:Nat):Prop:=b=g∨V.ownBlock=some b∨∃ x∈L,x.V.ownBlock=some b
section
variable {w w':World} {g gh:Nat} {V:Value} {L:List SxR} {now nodes:Int} {safe:Bool} {B:Nat}
theorem StyI.fr {S:Nat→Prop} (h:StyI w g gh V L now safe nodes B) (hf:Fr S w w') (hn:∀ b,StyF g V L b→¬S b):StyI w' g gh V L now safe nodes B:=
 ⟨hf.blk h.blk (hn g (.inl rfl)),hf.own h.row (fun b hb=>hn b (.inr (.inl hb))),fun x hx=>⟨hf.own (h.ops x hx).1 (fun b hb=>hn b (.inr (.inr ⟨x,hx,hb⟩))),(h.ops x hx).2⟩,h.apart⟩
theorem StyI.lt (h:StyI w g gh V L now safe nodes B) {b:Nat} (hb:StyF g V L b):b<w.heap.size:=by
 rcases hb with rfl|hb|⟨x,hx,hb⟩
 ·exact h.blk.lt
 ·exact(h.row.lt b hb).2
 ·exact((h.ops x hx).1.lt b hb).2
end
structure NmI (w:World) (r o k:Nat):Prop where
 var:w.cell? ⟨0,0,none⟩=some (.slice (some ⟨r,o,none⟩) 4 k)
 at_:∀ (q:Nat) (x:Sx),names[q]? = some x→w.cell? ⟨r,o+q,none⟩=some (.string ⟨x.toArray⟩)
 lt0:0<w.heap.size
 lt:r<w.heap.size
theorem NmI.fr {S:Nat→Prop} {w w':World} {r o k:Nat} (h:NmI w r o k) (hf:Fr S w w') (h0:¬S 0) (hr:¬S r):NmI w' r o k:=by
 have hc:∀ b,b<w.heap.size→¬S b→∀ p,w'.cell? ⟨b,p,none⟩=w.cell? ⟨b,p,none⟩:=fun b hb hs p=>hf.cell (p:=⟨b,p,none⟩) hb hs
 exact⟨by rw[hc 0 h.lt0 h0];exact h.var,fun q x hq=>by rw[hc r h.lt hr];exact h.at_ q x hq,Nat.lt_of_lt_of_le h.lt0 hf.size,Nat.lt_of_lt_of_le h.lt hf.size⟩
structure SyC (w:World) (own:Own) (P:Ptr) (F:Nat→Prop) (g r o k:Nat) (H:Hs) (T:List TxP) (now:Int) (safe:Bool) (nodes:Int) (B:Nat):Prop where
 hi:HI w own P H
 ns:NoSm own
 st:∃ V L,StyI w g P.g V L now safe nodes B∧L.map (·.t)=T∧∀ b,StyF g V L b→F b
 nm:NmI w r o k
 o0:own 0=none
 or_:own r=none
 F0:∀ b,F b→own b=none∧b≠0∧b≠r
 Fl:∀ b,F b→b<w.heap.size
structure SyZ (w:World) (own:Own) (F:Nat→Prop) (w':World) (own':Own) (F':Nat→Prop):Prop where
 ext:Ext own own' w.heap.size
 fr:Fr (fun b=>own b≠none∨F b) w w'
 F:∀ b,F' b→F b∨w.heap.size≤b
section
variable {w w1 w2:World} {own own1 own2:Own} {P P':Ptr} {F F1 F2:Nat→Prop} {g r o k:Nat} {H H':Hs} {T:List TxP} {now nodes:Int} {safe:Bool} {B:Nat}
theorem SyZ.refl (w:World) (own:Own) (F:Nat→Prop):SyZ w own F w own F:=⟨Ext.refl _ _,Fr.refl _ _,fun _ h=>.inl h⟩
theorem SyZ.trans (h:SyZ w own F w1 own1 F1) (k:SyZ w1 own1 F1 w2 own2 F2):SyZ w own F w2 own2 F2:=by
 refine⟨h.ext.trans k.ext h.fr.size,h.fr.trans' k.fr (fun b hb e=>?_),fun b hb=>?_⟩
 ·rcases e with e|e
  ·exact .inl (by rw[← h.ext b hb];exact e)
  ·rcases h.F b e with e|e
   ·exact .inr e
   ·omega
 ·rcases k.F b hb with e|e
  ·exact h.F b e
  ·exact .inr (Nat.le_trans h.fr.size e)
theorem SyC.house {Z:Tg→Prop} (c:SyC w own P F g r o k H T now safe nodes B) (hi:HI w1 own1 P' H') (hz:HZ Z w own w1 own1) (hP:P'.g=P.g):SyC w1 own1 P' F g r o k H' T now safe nodes B∧SyZ w own F w1 own1 F:=by
 have hn:∀ b,own b=none→¬OS own Z b:=fun b hb e=>e.owned hb
 have hk:∀ b,b<w.heap.size→own b=none→own1 b=none:=fun b hb e=>by rw[hz.ext b hb];exact e
 refine⟨⟨hi,hz.noSm c.ns,?_,c.nm.fr hz.fr (hn 0 c.o0) (hn r c.or_),hk 0 c.nm.lt0 c.o0,hk r c.nm.lt c.or_,fun b hb=>⟨hk b (c.Fl b hb) (c.F0 b hb).1,(c.F0 b hb).2⟩,fun b hb=>Nat.lt_of_lt_of_le (c.Fl b hb) hz.fr.size⟩,hz.ext,hz.fr.mono (fun b _ e=>.inl e.owned),fun _ h=>.inl h⟩
 obtain⟨V,L,h1,h2,h3⟩:=c.st
 exact⟨V,L,by rw[hP];exact h1.fr hz.fr (fun b hb=>hn b (c.F0 b (h3 b hb)).1),h2,h3⟩
theorem SyC.gsp (c:SyC w own P F g r o k H T now safe nodes B) (h:GsP P own H' w w1):∃ own1,SyC w1 own1 P F g r o k H' T now safe nodes B∧SyZ w own F w1 own1 F:=by
 obtain⟨own1,a,b⟩:=h
 exact⟨own1,c.house a b rfl⟩
theorem SyC.below (c:SyC w own P F g r o k H T now safe nodes B) (hb:Below w.heap.size w w1):SyC w1 own P F g r o k H T now safe nodes B∧SyZ w own F w1 own F:=
 c.house (Z:=fun _=>True) (c.hi.below hb) (HZ.below own hb) rfl
theorem SyC.turn {S:Nat→Prop} {T':List TxP} {now':Int} {B':Nat} (c:SyC w own P F g r o k H T now safe nodes B) (hf:Fr S w w1) (hS:∀ b,b<w.heap.size→S b→F b) {V:Value} {L:List SxR} (hs:StyI w1 g P.g V L now' safe nodes B') (hT:L.map (·.t)=T') (hF:∀ b,StyF g V L b→F b∨w.heap.size≤b) :
  SyC w1 own P (fun b=>F b∨StyF g V L b) g r o k H T' now' safe nodes B'∧SyZ w own F w1 own (fun b=>F b∨StyF g V L b):=by
 have hS2:∀ b,b<w.heap.size→¬F b→¬S b:=fun b hb h e=>h (hS b hb e)
 have hf2:Fr F w w1:=hf.mono (fun b hb e=>hS b hb e)
 have hown:∀ b,w.heap.size≤b→own b=none:=fun b hb=>c.hi.free hb
 have h00:¬F 0:=fun e=>(c.F0 0 e).2.1 rfl
 have h0r:¬F r:=fun e=>(c.F0 r e).2.2 rfl
 refine⟨⟨c.hi.fr0 hf2 (fun b hb e=>hb (c.F0 b e).1),c.ns,⟨V,L,hs,hT,fun b hb=>.inr hb⟩,c.nm.fr hf2 h00 h0r,c.o0,c.or_,fun b hb=>?_,fun b hb=>?_⟩,Ext.refl _ _,hf2.mono (fun b _ e=>.inr e),fun b hb=>?_⟩
 ·have:F b∨w.heap.size≤b:=hb.elim .inl (hF b)
  rcases this with e|e
  ·exact c.F0 b e
  ·have:=c.nm.lt0;have:=c.nm.lt
   exact⟨hown b e,by omega,by omega⟩
 ·rcases hb with e|e
  ·exact Nat.lt_of_lt_of_le (c.Fl b e) hf.size
  ·exact hs.lt e
 ·rcases hb with e|e
  ·exact .inl e
  ·exact hF b e
end
theorem sxset0:∀ (M:List SxR) (i:Nat) (x:SxR) (V:Value) (ops:List OpP),M[i]? = some x→(M.flatMap q2b).set (i*3) V=(M.set i ⟨{ x.t with ops:=ops },V⟩).flatMap q2b
 | [],i,x,V,ops,h=>by simp at h
 | y::M,0,x,V,ops,h=>by
  obtain rfl:y=x:=by simpa using h
  simp[q2b]
 | y::M,i+1,x,V,ops,h=>by
  have ih:=sxset0 M i x V ops (by simpa using h)
  have e0:(i+1)*3=i*3+3:=by omega
  rw[e0,List.set_cons_succ,List.flatMap_cons,List.flatMap_cons,← ih]
  simp[q2b]
theorem sxset2:∀ (M:List SxR) (i:Nat) (x:SxR) (v:Int),M[i]? = some x→(M.flatMap q2b).set (i*3+2) (.int .i64 v)=(M.set i ⟨{ x.t with to_:=v },x.V⟩).flatMap q2b
 | [],i,x,v,h=>by simp at h
 | y::M,0,x,v,h=>by
  obtain rfl:y=x:=by simpa using h
  simp[q2b]
 | y::M,i+1,x,v,h=>by
  have ih:=sxset2 M i x v (by simpa using h)
  have e0:(i+1)*3+2=(i*3+2)+3:=by omega
  rw[e0,List.set_cons_succ,List.flatMap_cons,List.flatMap_cons,← ih]
  simp[q2b]
section
variable {w w':World} {g gh:Nat} {V:Value} {L:List SxR} {now nodes:Int} {safe:Bool} {B:Nat}
theorem StyI.cells (h:StyI w g gh V L now safe nodes B):w.cell? ⟨g,0,none⟩=some (pw gh)∧w.cell? ⟨g,1,none⟩=some V∧w.cell? ⟨g,2,none⟩=some (.int .i64 now)∧w.cell? ⟨g,3,none⟩=some (.bool safe)∧w.cell? ⟨g,4,none⟩=some (.int .i64 nodes)∧g<w.heap.size:=by
 have c0:=h.blk.cell 0
 have c1:=h.blk.cell 1
 have c2:=h.blk.cell 2
 have c3:=h.blk.cell 3
 have c4:=h.blk.cell 4
 simp only[List.getElem?_toArray,List.getElem?_cons_zero,List.getElem?_cons_succ] at c0 c1 c2 c3 c4
 exact⟨c0,c1,c2,c3,c4,h.blk.lt⟩
theorem StyI.hour (h:StyI w g gh V L now safe nodes B) (v:Int):StyI (w.setCell ⟨g,2,none⟩ (.int .i64 v)) g gh V L v safe nodes B∧Fr (fun b=>b=g) w (w.setCell ⟨g,2,none⟩ (.int .i64 v)):=by
 have hf:=Fr.set1 g w 2 (.int .i64 v)
 refine⟨⟨h.blk.set_ 2 _,hf.own h.row (fun b hb e=>q02 h.row h.blk (by decide) (by rw[hb,e])),fun x hx=>⟨hf.own (h.ops x hx).1 (fun b hb e=>q02 (h.ops x hx).1 h.blk (by decide) (by rw[hb,e])),(h.ops x hx).2⟩,h.apart⟩,hf⟩
theorem apart_set {L:List SxR} {i:Nat} {x z:SxR} (hi:L[i]? = some x) (h:∀ (i j:Nat) (x y:SxR),L[i]? = some x→L[j]? = some y→i≠j→∀ b,x.V.ownBlock=some b→y.V.ownBlock≠some b)
  (hz:∀ (j:Nat) (y:SxR),L[j]? = some y→j≠i→∀ b,z.V.ownBlock=some b→y.V.ownBlock≠some b):∀ (j k:Nat) (u y:SxR),(L.set i z)[j]? = some u→(L.set i z)[k]? = some y→j≠k→∀ b,u.V.ownBlock=some b→y.V.ownBlock≠some b:=by
 intro j k u y hu hy hjk b hb hb2
 obtain⟨hl,_⟩:=List.getElem?_eq_some_iff.1 hi
 rw[List.getElem?_set] at hu hy
 by_cases e1:i=j
 ·subst e1
  rw[if_pos rfl,if_pos hl] at hu
  rw[if_neg hjk] at hy
  injection hu with hu
  subst hu
  exact hz k y hy (Ne.symm hjk) b hb hb2
 ·rw[if_neg e1] at hu
  by_cases e2:i=k
  ·subst e2
   rw[if_pos rfl,if_pos hl] at hy
   injection hy with hy
   subst hy
   exact hz j u hu (Ne.symm e1) b hb2 hb
  ·rw[if_neg e2] at hy
   exact h j k u y hu hy hjk b hb hb2
theorem q7r {α:Type} {L:List α} {i:Nat} {x z y:α} (hi:L[i]? = some x) (hy:y∈L.set i z):y=z∨∃ j,L[j]? = some y∧j≠i:=by
 obtain⟨j,hj⟩:=List.getElem?_of_mem hy
 obtain⟨hl,_⟩:=List.getElem?_eq_some_iff.1 hi
 rw[List.getElem?_set] at hj
 by_cases e:i=j
 ·subst e
  rw[if_pos rfl,if_pos hl] at hj
  injection hj with hj
  exact .inl hj.symm
 ·rw[if_neg e] at hj
  exact .inr ⟨j,hj,Ne.symm e⟩
theorem StyI.pushOp (h:StyI w g gh V L now safe nodes B) {i gV cap:Nat} {x:SxR} (hi:L[i]? = some x) (hV:V=.slice (some ⟨gV,0,none⟩) L.length cap) {o:OpP} (_ho:True) {V':Value} (hm:Moved w w' x.V.ownBlock V'.ownBlock)
  (hr:w'.ownsRow 0 56 4 V' (x.t.ops.length+1) (x.t.ops.flatMap q5s++q5s o)) :
  StyI (w'.setCell ⟨gV,i*3,none⟩ V') g gh V (L.set i ⟨{ x.t with ops:=x.t.ops++[o] },V'⟩) now safe nodes (B+1)∧Fr (fun b=>some b=x.V.ownBlock∨some b=V.ownBlock) w (w'.setCell ⟨gV,i*3,none⟩ V')∧
   ∀ b,StyF g V (L.set i ⟨{ x.t with ops:=x.t.ops++[o] },V'⟩) b→StyF g V L b∨w.heap.size≤b:=by
 obtain⟨hl,_⟩:=List.getElem?_eq_some_iff.1 hi
 have hxm:=List.mem_of_getElem? hi
 have hVo:V.ownBlock=some gV:=by rw[hV];rfl
 have hx:=h.ops x hxm
 have hrow1:w'.ownsRow 0 52 3 V L.length (L.flatMap q2b):=hm.1.own h.row (fun b hb e=>q0i h.row hx.1 (by decide) hb e.symm)
 have hblk1:=hm.1.blk h.blk (fun e=>q02 hx.1 h.blk (by decide) e.symm)
 have hVlt:gV<w.heap.size:=(h.row.lt gV hVo).2
 have hgV:V'.ownBlock≠some gV:=fun e=>by
  rcases hm.2 with e2|⟨b,e2,hb⟩
  ·exact q0i h.row hx.1 (by decide) hVo (by rw[← e2];exact e)
  ·rw[e2] at e;injection e with e;omega
 have hf2:=Fr.set1 gV w' (i*3) V'
 have hS:Fr (fun b=>some b=x.V.ownBlock∨some b=V.ownBlock) w (w'.setCell ⟨gV,i*3,none⟩ V'):=(hm.1.mono (fun b _ e=>.inl e)).trans' hf2 (fun b _ (e:b=gV)=>.inr (by rw[e,hVo]))
 refine⟨⟨?_,?_,fun y hy=>?_,?_⟩,hS,fun b hb=>?_⟩
 ·exact hf2.blk hblk1 (fun e=>q02 h.row h.blk (by decide) (by rw[hVo];exact congrArg some e.symm))
 ·have:=hrow1
  rw[hV] at this ⊢
  rw[List.length_set,← sxset0 L i x V' (x.t.ops++[o]) hi]
  exact(this.stored _ _).1
 ·rcases q7r hi hy with rfl|⟨j,hj,e⟩
  rotate_left
  ·have hym:=List.mem_of_getElem? hj
   have hne:∀ b,y.V.ownBlock=some b→x.V.ownBlock≠some b:=fun b hb=>h.apart j i y x hj hi e b hb
   have h1:=hm.1.own (h.ops y hym).1 (fun b hb e=>hne b hb e.symm)
   exact⟨hf2.own h1 (fun b hb (e:b=gV)=>q0i h1 hrow1 (by decide) hb (by rw[hVo,e])),by have:=(h.ops y hym).2.1;omega,(h.ops y hym).2.2⟩
  ·refine⟨?_,by have:=hx.2.1;simp;omega,fun q hq=>?_⟩
   ·have:=hf2.own hr (fun b hb (e:b=gV)=>hgV (by rw[hb,e]))
    simpa [List.length_append,List.flatMap_append] using this
   ·trivial
 ·refine apart_set hi h.apart (fun j y hj hne b hb=>?_)
  rcases hm.2 with e2|⟨b',e2,hlb⟩
  ·exact h.apart i j x y hi hj (Ne.symm hne) b (by rw[← e2];exact hb)
  ·intro hyb
   have e3:b'=b:=by
    have:V'.ownBlock=some b:=hb
    rw[e2] at this;injection this
   have:=((h.ops y (List.mem_of_getElem? hj)).1.lt b hyb).2
   omega
 ·rcases hb with hb|hb|⟨y,hy,hb⟩
  ·exact .inl (.inl hb)
  ·exact .inl (.inr (.inl hb))
  ·rcases List.mem_or_eq_of_mem_set hy with hy|rfl
   ·exact .inl (.inr (.inr ⟨y,hy,hb⟩))
   ·rcases hm.2 with e2|⟨b',e2,hlb⟩
    ·exact .inl (.inr (.inr ⟨x,hxm,by rw[← e2];exact hb⟩))
    ·have hb:V'.ownBlock=some b:=hb
     rw[e2] at hb;injection hb with hb
     exact .inr (by omega)
theorem StyI.setTo (h:StyI w g gh V L now safe nodes B) {i gV cap:Nat} {x:SxR} (hi:L[i]? = some x) (hV:V=.slice (some ⟨gV,0,none⟩) L.length cap) (v:Int) :
  StyI (w.setCell ⟨gV,i*3+2,none⟩ (.int .i64 v)) g gh V (L.set i ⟨{ x.t with to_:=v },x.V⟩) now safe nodes B∧Fr (fun b=>some b=V.ownBlock) w (w.setCell ⟨gV,i*3+2,none⟩ (.int .i64 v))∧
   ∀ b,StyF g V (L.set i ⟨{ x.t with to_:=v },x.V⟩) b→StyF g V L b:=by
 have hxm:=List.mem_of_getElem? hi
 have hVo:V.ownBlock=some gV:=by rw[hV];rfl
 have hf2:=Fr.set1 gV w (i*3+2) (.int .i64 v)
 have hops:∀ y∈L,(w.setCell ⟨gV,i*3+2,none⟩ (.int .i64 v)).ownsRow 0 56 4 y.V y.t.ops.length (y.t.ops.flatMap q5s):=fun y hy=>hf2.own (h.ops y hy).1 (fun b hb (e:b=gV)=>q0i (h.ops y hy).1 h.row (by decide) hb (by rw[hVo,e]))
 refine⟨⟨?_,?_,fun y hy=>?_,?_⟩,hf2.mono (fun b _ (e:b=gV)=>by rw[e,hVo]),fun b hb=>?_⟩
 ·exact hf2.blk h.blk (fun e=>q02 h.row h.blk (by decide) (by rw[hVo];exact congrArg some e.symm))
 ·have:=h.row
  rw[hV] at this ⊢
  rw[List.length_set,← sxset2 L i x v hi]
  exact(this.stored _ _).1
 ·rcases q7r hi hy with rfl|⟨j,hj,e⟩
  ·exact⟨hops x hxm,(h.ops x hxm).2⟩
  ·exact⟨hops y (List.mem_of_getElem? hj),(h.ops y (List.mem_of_getElem? hj)).2⟩
 ·exact apart_set hi h.apart (fun j y hj hne b hb=>h.apart i j x y hi hj (Ne.symm hne) b hb)
 ·rcases hb with hb|hb|⟨y,hy,hb⟩
  ·exact .inl hb
  ·exact .inr (.inl hb)
  ·rcases q7r hi hy with rfl|⟨j,hj,e⟩
   ·exact .inr (.inr ⟨x,hxm,hb⟩)
   ·exact .inr (.inr ⟨y,List.mem_of_getElem? hj,hb⟩)
theorem StyI.pushTx (h:StyI w g gh V L now safe nodes B) {fr:Int} {V':Value} (hm:Moved w w' V.ownBlock V'.ownBlock)
  (hr:w'.ownsRow 0 52 3 V' (L.length+1) (L.flatMap q2b++[.slice none 0 0,.int .i64 fr,.int .i64 (-1)])) :
  StyI (w'.setCell ⟨g,1,none⟩ V') g gh V' (L++[⟨⟨[],fr,-1⟩,.slice none 0 0⟩]) now safe nodes B∧Fr (fun b=>some b=V.ownBlock∨b=g) w (w'.setCell ⟨g,1,none⟩ V')∧
   ∀ b,StyF g V' (L++[⟨⟨[],fr,-1⟩,.slice none 0 0⟩]) b→StyF g V L b∨w.heap.size≤b:=by
 have hblk1:=hm.1.blk h.blk (fun e=>q02 h.row h.blk (by decide) e.symm)
 have hf2:=Fr.set1 g w' 1 V'
 have hz:(Value.slice none 0 0).ownBlock=none:=rfl
 refine⟨⟨hblk1.set_ 1 _,?_,fun y hy=>?_,?_⟩,(hm.1.mono (fun b _ e=>.inl e)).trans' hf2 (fun b _ e=>.inr e),fun b hb=>?_⟩
 ·have:=hf2.own hr (fun b hb (e:b=g)=>q02 hr hblk1 (by decide) (by rw[hb,e]))
  rw[List.length_append,List.flatMap_append]
  exact this
 ·rcases List.mem_append.1 hy with hy|hy
  ·have h1:=hm.1.own (h.ops y hy).1 (fun b hb e=>q0i (h.ops y hy).1 h.row (by decide) hb e.symm)
   exact⟨hf2.own h1 (fun b hb (e:b=g)=>q02 h1 hblk1 (by decide) (by rw[hb,e])),(h.ops y hy).2⟩
  ·rw[List.mem_singleton.1 hy]
   exact⟨World.ownsRow_nil _ _ _ _,Nat.zero_le _,fun o ho=>(by cases ho)⟩
 ·intro i j x y hi hj hij b hb hb2
  rw[List.getElem?_append] at hi hj
  by_cases e1:i<L.length
  ·rw[if_pos e1] at hi
   by_cases e2:j<L.length
   ·rw[if_pos e2] at hj
    exact h.apart i j x y hi hj hij b hb hb2
   ·rw[if_neg e2] at hj
    have:=List.mem_of_getElem? hj
    rw[List.mem_singleton.1 this] at hb2
    cases hb2
  ·rw[if_neg e1] at hi
   have:=List.mem_of_getElem? hi
   rw[List.mem_singleton.1 this] at hb
   cases hb
 ·rcases hb with hb|hb|⟨y,hy,hb⟩
  ·exact .inl (.inl hb)
  ·rcases hm.2 with e2|⟨b',e2,hlb⟩
   ·exact .inl (.inr (.inl (by rw[← e2];exact hb)))
   ·rw[e2] at hb;injection hb with hb;exact .inr (by omega)
  ·rcases List.mem_append.1 hy with hy|hy
   ·exact .inl (.inr (.inr ⟨y,hy,hb⟩))
   ·rw[List.mem_singleton.1 hy] at hb;cases hb
end
structure ActX where
 what:Int
 tx:Int
 a:Int
 val:ByteArray
def idT (T:List TxP) (tx:Int):Int:=if T.length=0 then 0 else((1+pickN tx T.length:Nat):Int)
def keyT (a:Int):Sx:=names.getD (pickN a 4) []
def cutV (v:ByteArray):ByteArray:=if 9<v.size then v.extract 0 9 else v
def addOp (T:List TxP) (id:Int) (o:OpP):List TxP:=match T[id.toNat-1]? with
 | some t=>if 0<id then T.set (id.toNat-1) { t with ops:=t.ops++[o] } else T
 | none=>T
def Hs.failS (H:Hs) (safe:Bool) (s j:Nat):Hs:=if 1<((H.sh s).liveIx H.n).length∨safe=false then H.fail (10*s+j) else H
def opG (a:Int) (r:(Int×Sx×Bool)×Hs):OpP:=⟨1,⟨(keyT a).toArray⟩,⟨r.1.2.1.toArray⟩,r.1.2.2⟩
def opP (x:ActX):OpP:=⟨x.what,⟨(keyT x.a).toArray⟩,cutV x.val,false⟩
def prX (x:ActX):Pr:=⟨⟨(keyT x.a).toArray⟩,cutV x.val,x.what == 3⟩
inductive MidR (safe:Bool) (nodes:Nat) (now:Int) (x:ActX) (H:Hs) (T:List TxP):Hs→List TxP→Prop where
 | begin (h:x.what=0) (h7:T.length<7):MidR safe nodes now x H T H.begin (T++[⟨[],now,-1⟩])
 | full (h:x.what=0) (h7:¬T.length<7):MidR safe nodes now x H T H T
 | get (h:x.what=1) (he:(H.get (idT T x.tx) (keyT x.a)).1.1=0):MidR safe nodes now x H T (H.get (idT T x.tx) (keyT x.a)).2 (addOp T (idT T x.tx) (opG x.a (H.get (idT T x.tx) (keyT x.a))))
 | getE (h:x.what=1) (he:(H.get (idT T x.tx) (keyT x.a)).1.1≠0):MidR safe nodes now x H T (H.get (idT T x.tx) (keyT x.a)).2 T
 | put (h:x.what=2∨x.what=3) (he:(H.put (idT T x.tx) (prX x)).1=0):MidR safe nodes now x H T (H.put (idT T x.tx) (prX x)).2 (addOp T (idT T x.tx) (opP x))
 | putE (h:x.what=2∨x.what=3) (he:(H.put (idT T x.tx) (prX x)).1≠0):MidR safe nodes now x H T (H.put (idT T x.tx) (prX x)).2 T
 | ends (h:x.what=4) {e:Int} {H':Hs} (r:EndR H (idT T x.tx) e H'):MidR safe nodes now x H T H' T
 | drop (h:x.what=5) (h4:x.a.tmod 4=0):MidR safe nodes now x H T (H.drop (idT T x.tx)).2 T
 | dropE (h:x.what=5) (h4:x.a.tmod 4≠0):MidR safe nodes now x H T H T
 | deliver (h:x.what=6) (hn:0<H.net.l.length) {H':Hs} (r:q1t H (pickN x.a H.net.l.length) H'):MidR safe nodes now x H T H' T
 | lose (h:x.what=7) (hn:0<H.net.l.length):MidR safe nodes now x H T (H.lose (pickN x.a H.net.l.length)) T
 | twice (h:x.what=8) (hn:0<H.net.l.length):MidR safe nodes now x H T (H.twice (pickN x.a H.net.l.length)) T
 | none (h:6≤x.what∧x.what≤8) (hn:¬0<H.net.l.length):MidR safe nodes now x H T H T
 | tick (h:x.what=9) {H':Hs} (r:TickR H H'):MidR safe nodes now x H T H' T
 | fail (h:x.what=10):MidR safe nodes now x H T (H.failS safe (pickN x.a 3) (pickN x.tx nodes)) T
 | fix (h:x.what=11) {H':Hs} (r:FixR H H'):MidR safe nodes now x H T H' T
 | calm (h:x.what=12) {H':Hs} (r:CalmR 4 H H'):MidR safe nodes now x H T H' T
 | other (h:x.what<0∨12<x.what):MidR safe nodes now x H T H T
def late1 (H:Hs) (now:Int) (i:Nat) (t:TxP):TxP:=if t.to_<0∧H.state (i+1)=3 then { t with to_:=now } else t
def lateT (H:Hs) (now:Int) (T:List TxP):List TxP:=T.mapIdx (late1 H now)
theorem q2v (a:Int):keyT a∈names:=by
 have h:=q26 a (n:=4) (by omega)
 unfold keyT
 rw[List.getD_eq_getElem?_getD]
 have:pickN a 4<names.length:=h
 rw[List.getElem?_eq_getElem this]
 exact List.getElem_mem this
theorem keyT_at (a:Int):names[pickN a 4]? = some (keyT a):=by
 have h:pickN a 4<names.length:=q26 a (n:=4) (by omega)
 unfold keyT
 rw[List.getD_eq_getElem?_getD,List.getElem?_eq_getElem h];rfl
theorem cutV_size (v:ByteArray):(cutV v).size≤9:=by
 unfold cutV
 split
 ·rw[ByteArray.size_extract];omega
 ·omega
theorem idT_le (T:List TxP) (tx:Int):0≤idT T tx∧idT T tx≤T.length:=by
 unfold idT
 split
 ·omega
 ·have:=q26 tx (n:=T.length) (by omega)
  omega
theorem MidR.act {safe:Bool} {nodes:Nat} {now:Int} {x:ActX} {H H':Hs} {T T':List TxP} (h:MidR safe nodes now x H T H' T') (wf:Wf H) (hc:H.c=3) (hm:H.m<60):ActR H H':=by
 cases h with
 | begin=>exact .begin hm
 | full|none|dropE|other=>exact .star (.refl _)
 | get|getE=>exact get_act wf hc _ (q2v _)
 | put|putE=>exact put_act wf hc _ (q2v _)
 | ends _ r=>exact end_act wf hc r
 | drop=>exact drop_act _
 | deliver _ _ r=>exact deliver_act wf hc r
 | lose=>exact lose_act _
 | twice=>exact twice_act _
 | tick _ r=>exact tick_act wf hc r
 | fail=>
  unfold Hs.failS
  split
  ·exact .fail _
  ·exact .star (.refl _)
 | fix _ r=>exact .fix r
 | calm _ r=>exact calm_act wf hc r
section
variable {H H':Hs}
theorem get_sm (wf:Wf H) (hc:H.c=3) (id:Int) {k:Sx} (hk:k∈names):Sm H (H.get id k).2:=by
 have h:=(q5a (id:=id) (mode:=1) wf hc hk (by unfold q16;omega)).sm
 unfold Hs.get
 simp only
 split
 ·exact h
 ·split <;> exact h
theorem put_sm (wf:Wf H) (hc:H.c=3) (id:Int) {p:Pr} (hk:sx p.key∈names):Sm H (H.put id p).2:=by
 unfold Hs.put
 split
 ·exact .refl _
 ·have h:=(q5a (id:=id) (mode:=2) wf hc hk (by unfold q16;omega)).sm
  simp only
  split
  ·exact h
  ·split
   ·exact⟨h.n,h.c,h.m⟩
   ·exact h
theorem fix_sm {B:Int} (h:AllI H B) (hB:B≤999000) (r:FixR H H'):Sm H H':=by
 have f1:=h.fix1 (s:=0) (by omega) (by omega)
 have f2:=f1.1.fix1 (s:=1) (by omega) (by omega)
 have key:∀ {H:Hs} {B:Int} (s:Nat),s<3→AllI H B→B≤1000000→Sm H (H.fix1 s):=fun {H B} s hs h hB=>by
  unfold Hs.fix1
  split
  ·exact .refl _
  ·obtain⟨_,_,_,f⟩:=h.fix hB hs
   exact⟨f.n,f.c,f.m⟩
 have g:=fixr_star r h hB
 have k0:=key 0 (by omega) h (by omega)
 have k1:=key 1 (by omega) f1.1 (by omega)
 have k2:=key 2 (by omega) f2.1 (by omega)
 exact((k0.trans k1).trans k2).trans g.sm
theorem addOp_len (T:List TxP) (id:Int) (o:OpP):(addOp T id o).length=T.length:=by
 unfold addOp
 split
 ·split
  ·exact List.length_set
  ·rfl
 ·rfl
theorem MidR.cnt {safe:Bool} {nodes:Nat} {now:Int} {x:ActX} {T T':List TxP} {B:Int} (h:MidR safe nodes now x H T H' T') (ha:AllI H B) (hB:B≤999000) (hm:H.m=T.length) (h7:T.length≤7):H'.m=T'.length∧T'.length≤7∧H'.n=H.n:=by
 have wf:=ha.wf
 have hc:=ha.c
 have fin:∀ {H2:Hs} {T2:List TxP},Sm H H2→T2.length=T.length→H2.m=T2.length∧T2.length≤7∧H2.n=H.n:=fun s e=>⟨by rw[s.m,e];exact hm,by omega,s.n⟩
 cases h with
 | begin _ h6=>exact⟨by show H.m+1=_;rw[hm];simp,by simp;omega,rfl⟩
 | full|none|dropE|other=>exact fin (.refl _) rfl
 | get=>exact fin (get_sm wf hc _ (q2v _)) (addOp_len _ _ _)
 | getE=>exact fin (get_sm wf hc _ (q2v _)) rfl
 | put=>exact fin (put_sm wf hc _ (q2v _)) (addOp_len _ _ _)
 | putE=>exact fin (put_sm wf hc _ (q2v _)) rfl
 | ends _ r=>
  refine fin ?_ rfl
  cases r with
  | missing=>exact .refl _
  | state=>exact .refl _
  | waits=>exact .refl _
  | ends h h1 h2 r=>
   have:=(q2y r (wf.ending (by omega) (by omega)) hc).sm
   exact⟨this.n,this.c,this.m⟩
 | drop=>exact fin (drop_star _).sm rfl
 | deliver _ _ r=>exact fin (q46 r wf hc).sm rfl
 | lose=>exact fin ⟨rfl,rfl,rfl⟩ rfl
 | twice=>
  refine fin ?_ rfl
  unfold Hs.twice
  split <;> exact⟨rfl,rfl,rfl⟩
 | tick _ r=>exact fin (q76 r wf hc).sm rfl
 | fail=>
  refine fin ?_ rfl
  unfold Hs.failS Hs.fail
  split
  ·split <;> exact⟨rfl,rfl,rfl⟩
  ·exact .refl _
 | fix _ r=>exact fin (fix_sm ha hB r) rfl
 | calm _ r=>exact fin (calm_star r wf hc).sm rfl
theorem lateT_len (H:Hs) (now:Int) (T:List TxP):(lateT H now T).length=T.length:=by unfold lateT;simp
end
def SyP (w:World) (own:Own) (F:Nat→Prop) (g r o k:Nat) (safe:Bool) (nodes:Int) (R:Hs→List TxP→Int→Nat→Prop) (e:Ending) (w':World):Prop:=
 e=.returned (.tuple #[])∧∃ own' P' F' H' T' now' B',SyC w' own' P' F' g r o k H' T' now' safe nodes B'∧SyZ w own F w' own' F'∧R H' T' now' B'
section
variable {w w':World} {own own':Own} {P:Ptr} {F:Nat→Prop} {g r o k:Nat} {H:Hs} {T:List TxP} {now nodes:Int} {safe:Bool} {B:Nat}
theorem SyC.cells (c:SyC w own P F g r o k H T now safe nodes B):∃ V L,StyI w g P.g V L now safe nodes B∧L.map (·.t)=T∧(∀ b,StyF g V L b→F b)∧w.cell? ⟨g,0,none⟩=some (pw P.g)∧w.cell? ⟨g,1,none⟩=some V∧w.cell? ⟨g,2,none⟩=some (.int .i64 now)∧w.cell? ⟨g,3,none⟩=some (.bool safe)∧w.cell? ⟨g,4,none⟩=some (.int .i64 nodes)∧g<w.heap.size:=by
 obtain⟨V,L,h1,h2,h3⟩:=c.st
 exact⟨V,L,h1,h2,h3,h1.cells⟩
theorem fails_any (c:SyC w own P F g r o k H T now safe nodes B) (wf:Wf H) (hc:H.c=3) {s j:Nat} (hs:s<3) (hj:j<10):Calls Tryz.prog 32 #[pw g,.int .i64 s,.int .i64 j] w
  (SyP w own F g r o k safe nodes fun H' T' now' B'=>H'=H.failS safe s j∧T'=T∧now'=now∧B'=B):=by
 obtain⟨V,L,hst,hT,hF,c0,c1,c2,c3,c4,gl⟩:=c.cells
 have HL:=LH (logs_any c.hi wf hc hs)
 have HC:=LH c
 have HWF:=LH wf
 have hl4:((H.sh s).liveIx H.n).length≤4:=by have:=q1r (H.sh s) H.n;have:=wf.n4;omega
 clear c hst hT hF wf c1 c2 c4
 unfold LogsP LogsQ at HL
 unfold pw at *
 go_enter Tryz.func32,Tryz.ntmps32
 go_wp2_with fail
 refine HL.out.mono ?_
 rintro e w1 ⟨V1,Ls,rfl,hlen,hso⟩
 obtain⟨A1,k1,rfl,_,_⟩:=q01 hso.1
 obtain⟨hC1,hZ1⟩:=HC.out.below hso.2.2
 have d3:=(hso.2.2.cell (p:=⟨g,3,none⟩) gl).trans c3
 have d0:=(hso.2.2.cell (p:=⟨g,0,none⟩) gl).trans c0
 have gl1:=Nat.lt_of_lt_of_le gl hso.2.2.size
 have HC1:=LH hC1
 have HZ1:=LH hZ1
 have HFA:=LH (fail_any hC1.hi HWF.out hc (10*(s:Int)+j))
 clear hC1 hZ1 hso c3 c0 gl HL HC
 have hll:Ls.length≤4:=by omega
 by_cases hy:1<((H.sh s).liveIx H.n).length∨safe=false
 ·have hfs:H.failS safe s j=H.fail (10*(s:Int)+j):=if_pos hy
  have HFS:=LH hfs
  have hmul:IntKind.i64.wrap (10*(s:Int))=10*(s:Int):=IntWalk.i64_in _ ⟨by omega,by omega⟩
  have hadd:IntKind.i64.wrap (10*(s:Int)+j)=10*(s:Int)+j:=IntWalk.i64_in _ ⟨by omega,by omega⟩
  unfold ErP pw at HFA
  have hfin:∀ W,GsP P own (H.fail (10*(s:Int)+j)) w1 W→SyP w own F g r o k safe nodes (fun H' T' now' B'=>H'=H.failS safe s j∧T'=T∧now'=now∧B'=B) (.returned (.tuple #[])) W:=fun W hG=>by
   obtain⟨own2,hC2,hZ2⟩:=HC1.out.gsp hG
   exact⟨rfl,own2,P,F,_,T,now,B,hC2,HZ1.out.trans hZ2,HFS.out.symm,rfl,rfl,rfl⟩
  have HFIN:=LH hfin
  clear hfs hfin
  by_cases h1:1<Ls.length
  ·have hd:decide ((1:Int)<Ls.length)=true:=decide_eq_true (by omega)
   go_wp2_with fail
   refine HFA.out.mono ?_
   rintro e w2 ⟨rfl,hG⟩
   have HX:=LH (HFIN.out w2 hG)
   clear hG
   go_wp2_with fail
   go_end0
   exact HX.out
  ·have hd:decide ((1:Int)<Ls.length)=false:=decide_eq_false (by omega)
   have hsf:safe=false:=hy.elim (fun e=>absurd e (by omega)) id
   subst hsf
   go_wp2_with fail
   refine HFA.out.mono ?_
   rintro e w2 ⟨rfl,hG⟩
   have HX:=LH (HFIN.out w2 hG)
   clear hG
   go_wp2_with fail
   go_end0
   exact HX.out
 ·have hfs:H.failS safe s j=H:=if_neg hy
  have h1:¬1<Ls.length:=fun e=>hy (.inl (by omega))
  have hd:decide ((1:Int)<Ls.length)=false:=decide_eq_false (by omega)
  have hsf:safe=true:=by cases safe with
   | true=>rfl
   | false=>exact absurd (.inr rfl) hy
  have HX:=LH (show SyP w own F g r o k safe nodes (fun H' T' now' B'=>H'=H.failS safe s j∧T'=T∧now'=now∧B'=B) (.returned (.tuple #[])) w1 from⟨rfl,own,P,F,H,T,now,B,HC1.out,HZ1.out,hfs.symm,rfl,rfl,rfl⟩)
  clear hfs hy
  subst hsf
  go_wp2_with fail
  go_end0
  exact HX.out
end
def actV (x:ActX):Value:=.agg #[.int .i64 x.what,.int .i64 x.tx,.int .i64 x.a,.string x.val]
def actC (x:ActX):Array Value:=#[.int .i64 x.what,.int .i64 x.tx,.int .i64 x.a,.string x.val]
def PlC (w:World) (own:Own) (P:Ptr) (F:Nat→Prop) (g r o k:Nat) (H:Hs) (T:List TxP) (now:Int) (safe:Bool) (nodes:Int) (B ab:Nat) (x:ActX) (W:World):Prop:=
 ∃ F',SyC W own P F' g r o k H T now safe nodes B∧SyZ w own F W own F'∧Blk W ab 34 (actC x)∧own ab=none∧¬F' ab
def PlM (w:World) (own:Own) (F:Nat→Prop) (g r o k:Nat) (H:Hs) (T:List TxP) (now:Int) (safe:Bool) (nodes:Nat) (B:Nat) (x:ActX) (W:World):Prop:=
 ∃ own' P' F' H' T' B',SyC W own' P' F' g r o k H' T' now safe nodes B'∧SyZ w own F W own' F'∧MidR safe nodes now x H T H' T'∧B'≤B+1
section
variable {w w':World} {own own':Own} {P:Ptr} {F:Nat→Prop} {g r o k:Nat} {H:Hs} {T:List TxP} {now:Int} {nodes:Nat} {safe:Bool} {B:Nat}
theorem PlC.below {nodes:Int} {ab:Nat} {x:ActX} {W W':World} (h:PlC w own P F g r o k H T now safe nodes B ab x W) (hb:Below W.heap.size W W'):PlC w own P F g r o k H T now safe nodes B ab x W':=by
 obtain⟨F',a,b,c,d,e⟩:=h
 obtain⟨a2,b2⟩:=a.below hb
 exact⟨F',a2,b.trans b2,(q06 hb).blk c (fun hs=>by have:=c.lt;omega),d,e⟩
theorem PlC.start {nodes:Int} (c:SyC w own P F g r o k H T now safe nodes B) (x:ActX) (v:Int):PlC w own P F g r o k H T v safe nodes B w.heap.size x ((w.setCell ⟨g,2,none⟩ (.int .i64 v)).alloc (.cells (actC x) 34)):=by
 obtain⟨V,L,h1,h2,h3⟩:=c.st
 obtain⟨h4,hf⟩:=h1.hour v
 obtain⟨c1,z1⟩:=c.turn hf (fun b hb e=>h3 b (.inl e)) h4 h2 (fun b hb=>.inl (h3 b hb))
 have hsz:(w.setCell ⟨g,2,none⟩ (.int .i64 v)).heap.size=w.heap.size:=by simp
 obtain⟨c2,z2⟩:=c1.below ((Below.refl (w.setCell ⟨g,2,none⟩ (.int .i64 v)).heap.size (w.setCell ⟨g,2,none⟩ (.int .i64 v))).alloc (Nat.le_refl _) (.cells (actC x) 34))
 have hb:=Blk.new (w.setCell ⟨g,2,none⟩ (.int .i64 v)) 34 (actC x)
 rw[hsz] at hb
 refine⟨_,c2,z1.trans z2,hb,c.hi.free (Nat.le_refl _),fun e=>?_⟩
 have e:F w.heap.size:=e.elim id (h3 _)
 exact Nat.lt_irrefl _ (c.Fl _ e)
theorem acts (W:World) (ab:Nat) (x:ActX) (h:Blk W ab 34 (actC x)):W.cell? ⟨ab,0,none⟩=some (.int .i64 x.what)∧W.cell? ⟨ab,1,none⟩=some (.int .i64 x.tx)∧W.cell? ⟨ab,2,none⟩=some (.int .i64 x.a)∧W.cell? ⟨ab,3,none⟩=some (.string x.val)∧ab<W.heap.size:=by
 have c0:=h.cell 0
 have c1:=h.cell 1
 have c2:=h.cell 2
 have c3:=h.cell 3
 unfold actC at c0 c1 c2 c3
 simp only[List.getElem?_toArray,List.getElem?_cons_zero,List.getElem?_cons_succ] at c0 c1 c2 c3
 exact⟨c0,c1,c2,c3,h.lt⟩
theorem idT_0 {T:List TxP} {tx:Int} (h:T.length=0):idT T tx=0:=if_pos h
theorem idT_1 {T:List TxP} {tx:Int} (h:T.length≠0):idT T tx=1+(pickN tx T.length:Int):=by unfold idT;rw[if_neg h];omega
end
def lkF:List Value→Nat→Value
 | [],_=>undef
 | v::_,0=>v
 | _::l,k+1=>lkF l k
def frP (s0 s1 s3 s4 s5:Value) (u:Nat→Value):Act:={ tmps:=#[s0,s1,undef,s3,s4,s5,u 6,u 7,u 8,u 9,u 10,u 11,u 12,u 13,undef,u 15,u 16,u 17,u 18,u 19,u 20,u 21,u 22,u 23,u 24,u 25,u 26,u 27,u 28,u 29,u 30,u 31,u 32,u 33,u 34,u 35,u 36,u 37,u 38,u 39,u 40,u 41,u 42,u 43,u 44,u 45,u 46,u 47,u 48,u 49,u 50,u 51,u 52,u 53,u 54,u 55,u 56,u 57,u 58,u 59,u 60,u 61,u 62,u 63,u 64,u 65,u 66,u 67,u 68,u 69,u 70,u 71,u 72,u 73,u 74,u 75,u 76,u 77,u 78,u 79,u 80,u 81,u 82,u 83,u 84,u 85,u 86,u 87,u 88,u 89,u 90,u 91,u 92,u 93,u 94,u 95,u 96,u 97,u 98,u 99,u 100,u 101,u 102,u 103,u 104,u 105,u 106,u 107,u 108,u 109,u 110,u 111,u 112,u 113,u 114,u 115,u 116,u 117,u 118,u 119,u 120,u 121,u 122,u 123,u 124,u 125,u 126,u 127,u 128,u 129,u 130,u 131,u 132,u 133,u 134,u 135,u 136,u 137,u 138,u 139,u 140,u 141,u 142,u 143,u 144,u 145,u 146,u 147,u 148,u 149,u 150,u 151,u 152,u 153,u 154,u 155,u 156,u 157,u 158,u 159,u 160,u 161,u 162,u 163,u 164,u 165,u 166,u 167,u 168,u 169,u 170,u 171,u 172,u 173,u 174,u 175,u 176,u 177,u 178,u 179,u 180,u 181,u 182,u 183,u 184,u 185,u 186,u 187,u 188,u 189,u 190,u 191,u 192,u 193,u 194,u 195,u 196,u 197,u 198,u 199,u 200,u 201,u 202,u 203,u 204,u 205,u 206,u 207,u 208,u 209,u 210,u 211,u 212,u 213,u 214,u 215,u 216,u 217,u 218,u 219,u 220,u 221,u 222,u 223,u 224,u 225,u 226,u 227,u 228,u 229,u 230,u 231,u 232,u 233,u 234,u 235,u 236,u 237,u 238,u 239,u 240,u 241,u 242,u 243,u 244,u 245,u 246,u 247,u 248,u 249,u 250,u 251,u 252,u 253,u 254,u 255,u 256,u 257,u 258,u 259,u 260,u 261,u 262,u 263,u 264,u 265,u 266,u 267,u 268,u 269,u 270,u 271,u 272,u 273,u 274,u 275,u 276,u 277,u 278,u 279,u 280,u 281,u 282,u 283,u 284,u 285,u 286,u 287,u 288,u 289,u 290,u 291,u 292,u 293,u 294,u 295,u 296,u 297,u 298,u 299,u 300,u 301,u 302,u 303,u 304,u 305,u 306,u 307,u 308,u 309,u 310,u 311,u 312,u 313,u 314,u 315,u 316,u 317,u 318],defers:=[] }
def PlFr (s0 s1 s3 s4 s5:Value) (a:Act):Prop:=∃ u,a=frP s0 s1 s3 s4 s5 u
theorem PlFr.mk' {s0 s1 s3 s4 s5:Value} (t:Array Value) (h:({ tmps:=t,defers:=[] } : Act)=frP s0 s1 s3 s4 s5 (fun k=>lkF t.toList k)):PlFr s0 s1 s3 s4 s5 { tmps:=t,defers:=[] }:=⟨_,h⟩
def cL:Code→Code | .seq a _=>a|c=>c
def cR:Code→Code | .seq _ b=>b|c=>c
def cT:Code→Code | .cond _ a _=>a|c=>c
def cE:Code→Code | .cond _ _ b=>b|c=>c
def cB:Code→Code | .block _ b=>b|c=>c
noncomputable def plB:Code:=(Tryz.f10.body).getD .skip
noncomputable def plX:Code:=cR (cR (cR (cR (cR plB))))
noncomputable def plBlk:Code:=cR (cL plX)
noncomputable def pl0:Code:=cB plBlk
noncomputable def pl1:Code:=cE (cR pl0)
noncomputable def pl2:Code:=cE (cR pl1)
noncomputable def pl4:Code:=cE (cR pl2)
noncomputable def pl5:Code:=cE (cR pl4)
noncomputable def pl6:Code:=cE (cR pl5)
noncomputable def pl9:Code:=cE (cR pl6)
noncomputable def pl10:Code:=cE (cR pl9)
noncomputable def pl11:Code:=cE (cR pl10)
noncomputable def pl12:Code:=cE (cR pl11)
noncomputable def wy (c:Code):Code:=cT (cR c)
section
variable {w w':World} {own own':Own} {P:Ptr} {F:Nat→Prop} {g r o k:Nat} {H:Hs} {T:List TxP} {now:Int} {nodes:Nat} {safe:Bool} {B:Nat}
theorem way_end {Bd:Int} {ab:Nat} {x:ActX} {W:World} {s1 s5:Value} {a0:Act} {Q:Exit→Act→World→Prop} (hp:PlC w own P F g r o k H T now safe nodes B ab x W) (ha:AllI H Bd) (_hBd:Bd≤999000) (hx:x.what=4)
  (h0:PlFr (pw g) s1 (pw ab) (.int .i64 (idT T x.tx)) s5 a0) (hQ:∀ a' W',PlFr (pw g) s1 (pw ab) (.int .i64 (idT T x.tx)) s5 a'→PlM w own F g r o k H T now safe nodes B x W'→Q .normal a' W'):Code.wp Tryz.prog (wy pl4) Q a0 W:=by
 have HP2:=LH hp
 obtain⟨F2,hC2,hZ2,hA2,ho2,hF2⟩:=hp
 obtain⟨V2,L2,hst2,hT2,hF3,c0,c1,c2,_,c4,gl⟩:=hC2.cells
 obtain⟨x0,x1,x2,x3,xl⟩:=acts _ _ _ hA2
 have HC2:=LH hC2
 have HZ2:=LH hZ2
 have HA:=LH ha
 have HQ:=LH hQ
 have HE:=LH (end_any hC2.hi ha.wf ha.c (idT T x.tx))
 clear x0 x1 x2 x3 c1 c2 c4
 obtain⟨u,rfl⟩:=h0
 clear hC2 hZ2 hA2 ho2 hF2 hQ ha hst2 hT2 hF3
 unfold pw frP at *
 simp only[wy,pl4,pl2,pl1,pl0,plBlk,plX,plB,cL,cR,cT,cE,cB,Tryz.f10,Option.getD]
 go_wp2_with fail
 refine HE.out.mono ?_
 rintro e w3 ⟨er,H3,rfl,hE3,hG3⟩
 obtain⟨own3,hC3,hZ3⟩:=HC2.out.gsp hG3
 have HX:=LH (show PlM w own F g r o k H T now safe nodes B x w3 from⟨own3,P,F2,H3,T,B,hC3,HZ2.out.trans hZ3,.ends hx hE3,Nat.le_succ _⟩)
 clear hC3 hZ3 HE
 go_wp2_with fail
 exact HQ.out _ _ (PlFr.mk' _ rfl) HX.out
theorem way_tick {Bd:Int} {ab:Nat} {x:ActX} {W:World} {s1 s5:Value} {a0:Act} {Q:Exit→Act→World→Prop} (hp:PlC w own P F g r o k H T now safe nodes B ab x W) (ha:AllI H Bd) (_hBd:Bd≤999000) (hx:x.what=9)
  (h0:PlFr (pw g) s1 (pw ab) (.int .i64 (idT T x.tx)) s5 a0) (hQ:∀ a' W',PlFr (pw g) s1 (pw ab) (.int .i64 (idT T x.tx)) s5 a'→PlM w own F g r o k H T now safe nodes B x W'→Q .normal a' W'):Code.wp Tryz.prog (wy pl9) Q a0 W:=by
 have HP2:=LH hp
 obtain⟨F2,hC2,hZ2,hA2,ho2,hF2⟩:=hp
 obtain⟨V2,L2,hst2,hT2,hF3,c0,c1,c2,_,c4,gl⟩:=hC2.cells
 obtain⟨x0,x1,x2,x3,xl⟩:=acts _ _ _ hA2
 have HC2:=LH hC2
 have HZ2:=LH hZ2
 have HA:=LH ha
 have HQ:=LH hQ
 have HE:=LH (htick_all hC2.hi ha.wf ha.c)
 clear x0 x1 x2 x3 c1 c2 c4
 obtain⟨u,rfl⟩:=h0
 clear hC2 hZ2 hA2 ho2 hF2 hQ ha hst2 hT2 hF3
 unfold pw frP at *
 simp only[wy,pl9,pl6,pl5,pl4,pl2,pl1,pl0,plBlk,plX,plB,cL,cR,cT,cE,cB,Tryz.f10,Option.getD]
 go_wp2_with fail
 refine HE.out.mono ?_
 rintro e w3 ⟨rfl,H3,hE3,hG3⟩
 obtain⟨own3,hC3,hZ3⟩:=HC2.out.gsp hG3
 have HX:=LH (show PlM w own F g r o k H T now safe nodes B x w3 from⟨own3,P,F2,H3,T,B,hC3,HZ2.out.trans hZ3,.tick hx hE3,Nat.le_succ _⟩)
 clear hC3 hZ3 HE
 go_wp2_with fail
 exact HQ.out _ _ (PlFr.mk' _ rfl) HX.out
theorem way_fix {Bd:Int} {ab:Nat} {x:ActX} {W:World} {s1 s5:Value} {a0:Act} {Q:Exit→Act→World→Prop} (hp:PlC w own P F g r o k H T now safe nodes B ab x W) (ha:AllI H Bd) (hBd:Bd≤999000) (hx:x.what=11)
  (h0:PlFr (pw g) s1 (pw ab) (.int .i64 (idT T x.tx)) s5 a0) (hQ:∀ a' W',PlFr (pw g) s1 (pw ab) (.int .i64 (idT T x.tx)) s5 a'→PlM w own F g r o k H T now safe nodes B x W'→Q .normal a' W'):Code.wp Tryz.prog (wy pl11) Q a0 W:=by
 have HP2:=LH hp
 obtain⟨F2,hC2,hZ2,hA2,ho2,hF2⟩:=hp
 obtain⟨V2,L2,hst2,hT2,hF3,c0,c1,c2,_,c4,gl⟩:=hC2.cells
 obtain⟨x0,x1,x2,x3,xl⟩:=acts _ _ _ hA2
 have HC2:=LH hC2
 have HZ2:=LH hZ2
 have HA:=LH ha
 have HQ:=LH hQ
 have HE:=LH (hfixs_any hC2.hi ha hBd hC2.ns)
 clear x0 x1 x2 x3 c1 c2 c4
 obtain⟨u,rfl⟩:=h0
 clear hC2 hZ2 hA2 ho2 hF2 hQ ha hst2 hT2 hF3
 unfold pw frP at *
 simp only[wy,pl11,pl10,pl9,pl6,pl5,pl4,pl2,pl1,pl0,plBlk,plX,plB,cL,cR,cT,cE,cB,Tryz.f10,Option.getD]
 go_wp2_with fail
 refine HE.out.mono ?_
 rintro e w3 ⟨rfl,H3,hE3,hG3⟩
 obtain⟨own3,hC3,hZ3⟩:=HC2.out.gsp hG3
 have HX:=LH (show PlM w own F g r o k H T now safe nodes B x w3 from⟨own3,P,F2,H3,T,B,hC3,HZ2.out.trans hZ3,.fix hx hE3,Nat.le_succ _⟩)
 clear hC3 hZ3 HE
 go_wp2_with fail
 exact HQ.out _ _ (PlFr.mk' _ rfl) HX.out
theorem way_calm {Bd:Int} {ab:Nat} {x:ActX} {W:World} {s1 s5:Value} {a0:Act} {Q:Exit→Act→World→Prop} (hp:PlC w own P F g r o k H T now safe nodes B ab x W) (ha:AllI H Bd) (_hBd:Bd≤999000) (hx:x.what=12)
  (h0:PlFr (pw g) s1 (pw ab) (.int .i64 (idT T x.tx)) s5 a0) (hQ:∀ a' W',PlFr (pw g) s1 (pw ab) (.int .i64 (idT T x.tx)) s5 a'→PlM w own F g r o k H T now safe nodes B x W'→Q .normal a' W'):Code.wp Tryz.prog (wy pl12) Q a0 W:=by
 have HP2:=LH hp
 obtain⟨F2,hC2,hZ2,hA2,ho2,hF2⟩:=hp
 obtain⟨V2,L2,hst2,hT2,hF3,c0,c1,c2,_,c4,gl⟩:=hC2.cells
 obtain⟨x0,x1,x2,x3,xl⟩:=acts _ _ _ hA2
 have HC2:=LH hC2
 have HZ2:=LH hZ2
 have HA:=LH ha
 have HQ:=LH hQ
 have HE:=LH (calm_any hC2.hi ha.wf ha.c)
 clear x0 x1 x2 x3 c1 c2 c4
 obtain⟨u,rfl⟩:=h0
 clear hC2 hZ2 hA2 ho2 hF2 hQ ha hst2 hT2 hF3
 unfold pw frP at *
 simp only[wy,pl12,pl11,pl10,pl9,pl6,pl5,pl4,pl2,pl1,pl0,plBlk,plX,plB,cL,cR,cT,cE,cB,Tryz.f10,Option.getD]
 go_wp2_with fail
 refine HE.out.mono ?_
 rintro e w3 ⟨rfl,H3,hE3,hG3,_,_⟩
 obtain⟨own3,hC3,hZ3⟩:=HC2.out.gsp hG3
 have HX:=LH (show PlM w own F g r o k H T now safe nodes B x w3 from⟨own3,P,F2,H3,T,B,hC3,HZ2.out.trans hZ3,.calm hx hE3,Nat.le_succ _⟩)
 clear hC3 hZ3 HE
 go_wp2_with fail
 exact HQ.out _ _ (PlFr.mk' _ rfl) HX.out
end
section
variable {w w':World} {own own':Own} {P:Ptr} {F:Nat→Prop} {g r o k:Nat} {H:Hs} {T:List TxP} {now:Int} {nodes:Nat} {safe:Bool} {B:Nat}
theorem way_drop0 {Bd:Int} {ab:Nat} {x:ActX} {W:World} {s1 s5:Value} {a0:Act} {Q:Exit→Act→World→Prop} (hp:PlC w own P F g r o k H T now safe nodes B ab x W) (ha:AllI H Bd) (_hBd:Bd≤999000) (hx:x.what=5) (h4:x.a.tmod 4=0)
  (h0:PlFr (pw g) s1 (pw ab) (.int .i64 (idT T x.tx)) s5 a0) (hQ:∀ a' W',PlFr (pw g) s1 (pw ab) (.int .i64 (idT T x.tx)) s5 a'→PlM w own F g r o k H T now safe nodes B x W'→Q .normal a' W'):Code.wp Tryz.prog (wy pl5) Q a0 W:=by
 have HP2:=LH hp
 obtain⟨F2,hC2,hZ2,hA2,ho2,hF2⟩:=hp
 obtain⟨V2,L2,hst2,hT2,hF3,c0,c1,c2,_,c4,gl⟩:=hC2.cells
 obtain⟨x0,x1,x2,x3,xl⟩:=acts _ _ _ hA2
 have HC2:=LH hC2
 have HZ2:=LH hZ2
 have HA:=LH ha
 have HQ:=LH hQ
 have HE:=LH (drop_any hC2.hi ha.wf ha.c (idT T x.tx))
 have hw4:IntKind.i64.wrap (x.a.tmod 4)=x.a.tmod 4:=IntWalk.i64_in _ (by have:=Int.tmod_lt_of_pos x.a (show(0:Int)<4 by omega);have:=Int.lt_tmod_of_pos x.a (show(0:Int)<4 by omega);constructor <;> omega)
 have he4:(x.a.tmod 4 == 0)=true:=by simpa using h4
 clear x0 x1 x3 c1 c2 c4
 unfold ErP at HE
 obtain⟨u,rfl⟩:=h0
 clear hC2 hZ2 hA2 ho2 hF2 hQ ha hst2 hT2 hF3
 unfold pw frP at *
 simp only[wy,pl5,pl4,pl2,pl1,pl0,plBlk,plX,plB,cL,cR,cT,cE,cB,Tryz.f10,Option.getD]
 go_wp2_with fail
 refine HE.out.mono ?_
 rintro e w3 ⟨rfl,hG3⟩
 obtain⟨own3,hC3,hZ3⟩:=HC2.out.gsp hG3
 have HX:=LH (show PlM w own F g r o k H T now safe nodes B x w3 from⟨own3,P,F2,_,T,B,hC3,HZ2.out.trans hZ3,.drop hx h4,Nat.le_succ _⟩)
 clear hC3 hZ3 HE
 go_wp2_with fail
 exact HQ.out _ _ (PlFr.mk' _ rfl) HX.out
theorem way_drop1 {Bd:Int} {ab:Nat} {x:ActX} {W:World} {s1 s5:Value} {a0:Act} {Q:Exit→Act→World→Prop} (hp:PlC w own P F g r o k H T now safe nodes B ab x W) (ha:AllI H Bd) (_hBd:Bd≤999000) (hx:x.what=5) (h4:x.a.tmod 4≠0)
  (h0:PlFr (pw g) s1 (pw ab) (.int .i64 (idT T x.tx)) s5 a0) (hQ:∀ a' W',PlFr (pw g) s1 (pw ab) (.int .i64 (idT T x.tx)) s5 a'→PlM w own F g r o k H T now safe nodes B x W'→Q .normal a' W'):Code.wp Tryz.prog (wy pl5) Q a0 W:=by
 have HP2:=LH hp
 obtain⟨F2,hC2,hZ2,hA2,ho2,hF2⟩:=hp
 obtain⟨V2,L2,hst2,hT2,hF3,c0,c1,c2,_,c4,gl⟩:=hC2.cells
 obtain⟨x0,x1,x2,x3,xl⟩:=acts _ _ _ hA2
 have HC2:=LH hC2
 have HZ2:=LH hZ2
 have HA:=LH ha
 have HQ:=LH hQ
 have hw4:IntKind.i64.wrap (x.a.tmod 4)=x.a.tmod 4:=IntWalk.i64_in _ (by have:=Int.tmod_lt_of_pos x.a (show(0:Int)<4 by omega);have:=Int.lt_tmod_of_pos x.a (show(0:Int)<4 by omega);constructor <;> omega)
 have he4:(x.a.tmod 4 == 0)=false:=by simpa using h4
 clear x0 x1 x3 c1 c2 c4
 obtain⟨u,rfl⟩:=h0
 clear hC2 hZ2 hA2 ho2 hF2 hQ ha hst2 hT2 hF3
 unfold pw frP at *
 simp only[wy,pl5,pl4,pl2,pl1,pl0,plBlk,plX,plB,cL,cR,cT,cE,cB,Tryz.f10,Option.getD]
 have HX:=LH (show PlM w own F g r o k H T now safe nodes B x W from⟨own,P,F2,_,T,B,HC2.out,HZ2.out,.dropE hx h4,Nat.le_succ _⟩)
 go_wp2_with fail
 exact HQ.out _ _ (PlFr.mk' _ rfl) HX.out
theorem way_deliver {Bd:Int} {ab:Nat} {x:ActX} {W:World} {s1 s5:Value} {a0:Act} {Q:Exit→Act→World→Prop} (hp:PlC w own P F g r o k H T now safe nodes B ab x W) (ha:AllI H Bd) (_hBd:Bd≤999000) (hx:x.what=6) (hn:0<H.net.l.length)
  (h0:PlFr (pw g) s1 (pw ab) (.int .i64 (idT T x.tx)) s5 a0) (hQ:∀ a' W',PlFr (pw g) s1 (pw ab) (.int .i64 (idT T x.tx)) s5 a'→PlM w own F g r o k H T now safe nodes B x W'→Q .normal a' W'):Code.wp Tryz.prog (wy pl6) Q a0 W:=by
 have HP2:=LH hp
 obtain⟨F2,hC2,hZ2,hA2,ho2,hF2⟩:=hp
 obtain⟨V2,L2,hst2,hT2,hF3,c0,c1,c2,_,c4,gl⟩:=hC2.cells
 obtain⟨x0,x1,x2,x3,xl⟩:=acts _ _ _ hA2
 have HC2:=LH hC2
 have HZ2:=LH hZ2
 have HA:=LH ha
 have HQ:=LH hQ
 have HM:=LH (q5e hC2.hi)
 have hn200:H.net.l.length≤200:=hC2.hi.netLen
 have HPK:=LH (q35 x.a H.net.l.length hn (by omega) W)
 have hpl:=q26 x.a (n:=H.net.l.length) hn
 have HE:=LH (q87 hC2.hi ha.wf ha.c hpl)
 rw[hx] at x0
 clear x1 x3 c1 c2 c4 hpl
 unfold pw at HM
 obtain⟨u,rfl⟩:=h0
 clear hC2 hZ2 hA2 ho2 hF2 hQ ha hst2 hT2 hF3
 unfold pw frP at *
 simp only[wy,pl6,pl5,pl4,pl2,pl1,pl0,plBlk,plX,plB,cL,cR,cT,cE,cB,Tryz.f10,Option.getD]
 have hg0:decide ((0:Int)<H.net.l.length)=true:=decide_eq_true (by omega)
 have hg1:decide (0<H.net.l.length)=true:=decide_eq_true hn
 go_wp2_with fail
 refine HM.out.mono ?_
 rintro e w2 ⟨rfl,rfl⟩
 go_wp2_with fail
 refine HPK.out.mono ?_
 rintro e w2 ⟨rfl,rfl⟩
 go_wp2_with fail
 refine HE.out.mono ?_
 rintro e w3 ⟨rfl,H3,hE3,hG3⟩
 obtain⟨own3,hC3,hZ3⟩:=HC2.out.gsp hG3
 have HX:=LH (show PlM w own F g r o k H T now safe nodes B x w3 from⟨own3,P,F2,H3,T,B,hC3,HZ2.out.trans hZ3,.deliver hx hn hE3,Nat.le_succ _⟩)
 clear hC3 hZ3 HE
 go_wp2_with fail
 exact HQ.out _ _ (PlFr.mk' _ rfl) HX.out
theorem way_lose {Bd:Int} {ab:Nat} {x:ActX} {W:World} {s1 s5:Value} {a0:Act} {Q:Exit→Act→World→Prop} (hp:PlC w own P F g r o k H T now safe nodes B ab x W) (ha:AllI H Bd) (_hBd:Bd≤999000) (hx:x.what=7) (hn:0<H.net.l.length)
  (h0:PlFr (pw g) s1 (pw ab) (.int .i64 (idT T x.tx)) s5 a0) (hQ:∀ a' W',PlFr (pw g) s1 (pw ab) (.int .i64 (idT T x.tx)) s5 a'→PlM w own F g r o k H T now safe nodes B x W'→Q .normal a' W'):Code.wp Tryz.prog (wy pl6) Q a0 W:=by
 have HP2:=LH hp
 obtain⟨F2,hC2,hZ2,hA2,ho2,hF2⟩:=hp
 obtain⟨V2,L2,hst2,hT2,hF3,c0,c1,c2,_,c4,gl⟩:=hC2.cells
 obtain⟨x0,x1,x2,x3,xl⟩:=acts _ _ _ hA2
 have HC2:=LH hC2
 have HZ2:=LH hZ2
 have HA:=LH ha
 have HQ:=LH hQ
 have HM:=LH (q5e hC2.hi)
 have hn200:H.net.l.length≤200:=hC2.hi.netLen
 have HPK:=LH (q35 x.a H.net.l.length hn (by omega) W)
 have hpl:=q26 x.a (n:=H.net.l.length) hn
 have HE:=LH (hlose_any hC2.hi hpl)
 rw[hx] at x0
 clear x1 x3 c1 c2 c4 hpl
 unfold pw at HM
 obtain⟨u,rfl⟩:=h0
 clear hC2 hZ2 hA2 ho2 hF2 hQ ha hst2 hT2 hF3
 unfold pw frP at *
 simp only[wy,pl6,pl5,pl4,pl2,pl1,pl0,plBlk,plX,plB,cL,cR,cT,cE,cB,Tryz.f10,Option.getD]
 have hg0:decide ((0:Int)<H.net.l.length)=true:=decide_eq_true (by omega)
 have hg1:decide (0<H.net.l.length)=true:=decide_eq_true hn
 go_wp2_with fail
 refine HM.out.mono ?_
 rintro e w2 ⟨rfl,rfl⟩
 go_wp2_with fail
 refine HPK.out.mono ?_
 rintro e w2 ⟨rfl,rfl⟩
 go_wp2_with fail
 refine HE.out.mono ?_
 rintro e w3 ⟨rfl,hG3⟩
 obtain⟨own3,hC3,hZ3⟩:=HC2.out.gsp hG3
 have HX:=LH (show PlM w own F g r o k H T now safe nodes B x w3 from⟨own3,P,F2,_,T,B,hC3,HZ2.out.trans hZ3,.lose hx hn,Nat.le_succ _⟩)
 clear hC3 hZ3 HE
 go_wp2_with fail
 exact HQ.out _ _ (PlFr.mk' _ rfl) HX.out
theorem way_twice {Bd:Int} {ab:Nat} {x:ActX} {W:World} {s1 s5:Value} {a0:Act} {Q:Exit→Act→World→Prop} (hp:PlC w own P F g r o k H T now safe nodes B ab x W) (ha:AllI H Bd) (_hBd:Bd≤999000) (hx:x.what=8) (hn:0<H.net.l.length)
  (h0:PlFr (pw g) s1 (pw ab) (.int .i64 (idT T x.tx)) s5 a0) (hQ:∀ a' W',PlFr (pw g) s1 (pw ab) (.int .i64 (idT T x.tx)) s5 a'→PlM w own F g r o k H T now safe nodes B x W'→Q .normal a' W'):Code.wp Tryz.prog (wy pl6) Q a0 W:=by
 have HP2:=LH hp
 obtain⟨F2,hC2,hZ2,hA2,ho2,hF2⟩:=hp
 obtain⟨V2,L2,hst2,hT2,hF3,c0,c1,c2,_,c4,gl⟩:=hC2.cells
 obtain⟨x0,x1,x2,x3,xl⟩:=acts _ _ _ hA2
 have HC2:=LH hC2
 have HZ2:=LH hZ2
 have HA:=LH ha
 have HQ:=LH hQ
 have HM:=LH (q5e hC2.hi)
 have hn200:H.net.l.length≤200:=hC2.hi.netLen
 have HPK:=LH (q35 x.a H.net.l.length hn (by omega) W)
 have hpl:=q26 x.a (n:=H.net.l.length) hn
 have HE:=LH (htwice_any hC2.hi ha.wf hpl)
 rw[hx] at x0
 clear x1 x3 c1 c2 c4 hpl
 unfold pw at HM
 obtain⟨u,rfl⟩:=h0
 clear hC2 hZ2 hA2 ho2 hF2 hQ ha hst2 hT2 hF3
 unfold pw frP at *
 simp only[wy,pl6,pl5,pl4,pl2,pl1,pl0,plBlk,plX,plB,cL,cR,cT,cE,cB,Tryz.f10,Option.getD]
 have hg0:decide ((0:Int)<H.net.l.length)=true:=decide_eq_true (by omega)
 have hg1:decide (0<H.net.l.length)=true:=decide_eq_true hn
 go_wp2_with fail
 refine HM.out.mono ?_
 rintro e w2 ⟨rfl,rfl⟩
 go_wp2_with fail
 refine HPK.out.mono ?_
 rintro e w2 ⟨rfl,rfl⟩
 go_wp2_with fail
 refine HE.out.mono ?_
 rintro e w3 ⟨rfl,hG3⟩
 obtain⟨own3,hC3,hZ3⟩:=HC2.out.gsp hG3
 have HX:=LH (show PlM w own F g r o k H T now safe nodes B x w3 from⟨own3,P,F2,_,T,B,hC3,HZ2.out.trans hZ3,.twice hx hn,Nat.le_succ _⟩)
 clear hC3 hZ3 HE
 go_wp2_with fail
 exact HQ.out _ _ (PlFr.mk' _ rfl) HX.out
theorem q74 {Bd:Int} {ab:Nat} {x:ActX} {W:World} {s1 s5:Value} {a0:Act} {Q:Exit→Act→World→Prop} (hp:PlC w own P F g r o k H T now safe nodes B ab x W) (ha:AllI H Bd) (_hBd:Bd≤999000) (hx:6≤x.what∧x.what≤8) (hn:¬0<H.net.l.length)
  (h0:PlFr (pw g) s1 (pw ab) (.int .i64 (idT T x.tx)) s5 a0) (hQ:∀ a' W',PlFr (pw g) s1 (pw ab) (.int .i64 (idT T x.tx)) s5 a'→PlM w own F g r o k H T now safe nodes B x W'→Q .normal a' W'):Code.wp Tryz.prog (wy pl6) Q a0 W:=by
 have HP2:=LH hp
 obtain⟨F2,hC2,hZ2,hA2,ho2,hF2⟩:=hp
 obtain⟨V2,L2,hst2,hT2,hF3,c0,c1,c2,_,c4,gl⟩:=hC2.cells
 obtain⟨x0,x1,x2,x3,xl⟩:=acts _ _ _ hA2
 have HC2:=LH hC2
 have HZ2:=LH hZ2
 have HA:=LH ha
 have HQ:=LH hQ
 have HM:=LH (q5e hC2.hi)
 have hn200:H.net.l.length≤200:=hC2.hi.netLen
 clear x0 x1 x3 x2 c1 c2 c4
 unfold pw at HM
 obtain⟨u,rfl⟩:=h0
 clear hC2 hZ2 hA2 ho2 hF2 hQ ha hst2 hT2 hF3
 unfold pw frP at *
 simp only[wy,pl6,pl5,pl4,pl2,pl1,pl0,plBlk,plX,plB,cL,cR,cT,cE,cB,Tryz.f10,Option.getD]
 have HX:=LH (show PlM w own F g r o k H T now safe nodes B x W from⟨own,P,F2,_,T,B,HC2.out,HZ2.out,.none hx hn,Nat.le_succ _⟩)
 go_wp2_with fail
 refine HM.out.mono ?_
 rintro e w2 ⟨rfl,rfl⟩
 go_wp2_with fail
 exact HQ.out _ _ (PlFr.mk' _ rfl) HX.out
end
section
variable {w w':World} {own own':Own} {P:Ptr} {F:Nat→Prop} {g r o k:Nat} {H:Hs} {T:List TxP} {now:Int} {nodes:Nat} {safe:Bool} {B:Nat}
theorem way_fail {Bd:Int} {ab:Nat} {x:ActX} {W:World} {s1 s5:Value} {a0:Act} {Q:Exit→Act→World→Prop} (hp:PlC w own P F g r o k H T now safe nodes B ab x W) (ha:AllI H Bd) (_hBd:Bd≤999000) (hx:x.what=10) (hnd:1≤nodes∧nodes≤3) (hQP:∀ c a d v W,Q (.panic c) (Act.put a (some d) v) W→Q (.panic c) a W)
  (h0:PlFr (pw g) s1 (pw ab) (.int .i64 (idT T x.tx)) s5 a0) (hQ:∀ a' W',PlFr (pw g) s1 (pw ab) (.int .i64 (idT T x.tx)) s5 a'→PlM w own F g r o k H T now safe nodes B x W'→Q .normal a' W'):Code.wp Tryz.prog (wy pl10) Q a0 W:=by
 have HP2:=LH hp
 obtain⟨F2,hC2,hZ2,hA2,ho2,hF2⟩:=hp
 obtain⟨V2,L2,hst2,hT2,hF3,c0,c1,c2,_,c4,gl⟩:=hC2.cells
 obtain⟨x0,x1,x2,x3,xl⟩:=acts _ _ _ hA2
 have HC2:=LH hC2
 have HZ2:=LH hZ2
 have HA:=LH ha
 have HQ:=LH hQ
 have HDR:=LH (hC2.below (Below.refl W.heap.size W).drew)
 have hp3:=q26 x.a (n:=3) (by omega)
 have hpn:=q26 x.tx (n:=nodes) (by omega)
 have HP1:=LH (show Calls Tryz.prog 13 #[.int .i64 x.a,.int .i64 3] W.drew fun e w'=>e=.returned (.int .i64 (pickN x.a 3))∧W.drew=w' from q35 x.a 3 (by omega) (by omega) W.drew)
 have HPN:=LH (q35 x.tx nodes (by omega) (by omega) W.drew)
 have HE:=LH (fails_any HDR.out.1 ha.wf ha.c hp3 (show pickN x.tx nodes<10 by omega))
 clear hp3 hpn x0 x3 c0 c1 c2
 obtain⟨u,rfl⟩:=h0
 clear hC2 hZ2 hA2 ho2 hF2 hQ ha hst2 hT2 hF3
 unfold pw frP at *
 simp only[wy,pl10,pl9,pl6,pl5,pl4,pl2,pl1,pl0,plBlk,plX,plB,cL,cR,cT,cE,cB,Tryz.f10,Option.getD]
 unfold SyP at HE
 go_upto_region 43 with (fail)
 refine wp_region_any (by kernel_rfl) ?_
 change wpAny _ _ _ _ _ _ _ (World.drew _)
 refine q0e (fun W=>W.cell? ⟨ab,2,none⟩=some (.int .i64 x.a)∧W.cell? ⟨ab,1,none⟩=some (.int .i64 x.tx)∧W.cell? ⟨g,4,none⟩=some (.int .i64 nodes)) 11 hQP (fun HQP=>?_)
 have HCC:(fun W=>W.cell? ⟨ab,2,none⟩=some (.int .i64 x.a)∧W.cell? ⟨ab,1,none⟩=some (.int .i64 x.tx)∧W.cell? ⟨g,4,none⟩=some (.int .i64 nodes)) W.drew:=⟨x2,x1,c4⟩
 refine nA 0 [11] rfl rfl HQP HCC (fun w' hw'=>by go_simp;rfl) ?_
 refine nA 1 [2,3,10,11] rfl rfl HQP HCC (fun w' hw'=>by go_simp;rfl) ?_
 refine nA 2 [3,10,11] rfl rfl HQP HCC (fun w' hw'=>by obtain⟨p0,p1,p2⟩:=hw';go_simp;rfl) ?_
 refine nA 4 [5,10,11] rfl rfl HQP HCC (fun w' hw'=>by go_simp;rfl) ?_
 refine nA 5 [10,11] rfl rfl HQP HCC (fun w' hw'=>by obtain⟨p0,p1,p2⟩:=hw';go_simp;rfl) ?_
 refine nA 6 [7,8,9,10,11] rfl rfl HQP HCC (fun w' hw'=>by go_simp;rfl) ?_
 refine nA 7 [8,9,10,11] rfl rfl HQP HCC (fun w' hw'=>by go_simp;rfl) ?_
 refine nA 8 [9,10,11] rfl rfl HQP HCC (fun w' hw'=>by go_simp;rfl) ?_
 refine nA 9 [10,11] rfl rfl HQP HCC (fun w' hw'=>by obtain⟨p0,p1,p2⟩:=hw';go_simp;rfl) ?_
 refine nO 3 rfl (fun KK hK=>?_)
 go_simp
 refine HP1.out.mono ?_
 rintro e w2 ⟨rfl,rfl⟩
 go_simp
 refine hK _ _ (fun _=>HCC) ?_
 clear hK KK
 refine nO 10 rfl (fun KK hK=>?_)
 go_simp
 refine HPN.out.mono ?_
 rintro e w2 ⟨rfl,rfl⟩
 go_simp
 refine hK _ _ (fun _=>HCC) ?_
 clear hK KK HCC
 refine nO 11 rfl (fun KK hK=>?_)
 go_simp
 refine HE.out.mono ?_
 rintro e w3 ⟨rfl,own3,P3,F3,H3,T3,now3,B3,hC3,hZ3,rfl,rfl,rfl,rfl⟩
 have HX:=LH (show PlM w own F g r o k H T3 now3 safe nodes B3 x w3 from⟨own3,P3,F3,_,T3,B3,hC3,HZ2.out.trans (HDR.out.2.trans hZ3),.fail hx,Nat.le_succ _⟩)
 clear hC3 hZ3
 go_simp
 refine hK _ _ (fun h=>absurd h (by decide)) ?_
 clear hK KK
 refine ndone (by kernel_rfl) ?_ _
 clear HQP
 go_wp2_with fail
 exact HQ.out _ _ (PlFr.mk' _ rfl) HX.out
end
section
variable {w w':World} {own own':Own} {P:Ptr} {F:Nat→Prop} {g r o k:Nat} {H:Hs} {T:List TxP} {now:Int} {nodes:Nat} {safe:Bool} {B:Nat}
theorem addOp_at {T:List TxP} {L:List SxR} {i:Nat} {x:SxR} (hT:L.map (·.t)=T) (hi:L[i]? = some x) (o:OpP) (V:Value):(L.set i ⟨{ x.t with ops:=x.t.ops++[o] },V⟩).map (·.t)=addOp T ((i:Int)+1) o:=by
 unfold addOp
 have e:((i:Int)+1).toNat-1=i:=by omega
 rw[e]
 have ht:T[i]? = some x.t:=by rw[← hT,List.getElem?_map,hi];rfl
 rw[ht]
 simp only
 rw[if_pos (by omega),← hT,List.map_set]
theorem get_id0 {H:Hs} {T:List TxP} {x:ActX} (_hm:H.m=T.length) (he:(H.get (idT T x.tx) (keyT x.a)).1.1=0):∃ i:Nat,idT T x.tx=(i:Int)+1∧i<T.length:=by
 have h:=idT_le T x.tx
 by_cases h0:idT T x.tx<1
 ·exfalso
  have e:(H.get (idT T x.tx) (keyT x.a)).1.1=7:=by
   have hl:=q1o (H:=H) (id:=idT T x.tx) (k:=keyT x.a) (mode:=1) (.inl h0)
   unfold Hs.get
   simp only[hl]
   rfl
  omega
 ·exact⟨(idT T x.tx).toNat-1,by omega,by omega⟩
theorem SyC.pushOp {w3 w6:World} {F3:Nat→Prop} {nodes:Int} (c:SyC w3 own P F3 g r o k H T now safe nodes B) {V:Value} {L:List SxR} (hst:StyI w3 g P.g V L now safe nodes B) (hT:L.map (·.t)=T) (hF:∀ b,StyF g V L b→F3 b) {i gV cap:Nat} {x:SxR} (hi:L[i]? = some x) (hV:V=.slice (some ⟨gV,0,none⟩) L.length cap) {op:OpP} (ho:True) {V':Value} (hm:Moved w3 w6 x.V.ownBlock V'.ownBlock)
  (hr:w6.ownsRow 0 56 4 V' (x.t.ops.length+1) (x.t.ops.flatMap q5s++q5s op)):∃ F',SyC (w6.setCell ⟨gV,i*3,none⟩ V') own P F' g r o k H (addOp T ((i:Int)+1) op) now safe nodes (B+1)∧SyZ w3 own F3 (w6.setCell ⟨gV,i*3,none⟩ V') own F':=by
 obtain⟨a1,a2,a3⟩:=hst.pushOp hi hV ho hm hr
 have hxm:=List.mem_of_getElem? hi
 obtain⟨b1,b2⟩:=c.turn a2 (fun b hb e=>hF b (e.elim (fun e=>.inr (.inr ⟨x,hxm,e.symm⟩)) (fun e=>.inr (.inl e.symm)))) a1 (addOp_at hT hi op V') (fun b hb=>(a3 b hb).imp (hF b) id)
 exact⟨_,b1,b2⟩
theorem q3x {w:World} {base n:Nat} {e:TypeId} {size:Nat} {V:Value} {xs:List Value} (h:w.ownsRow base e size V n xs) (hn:0<n):∃ gV cap,V=.slice (some ⟨gV,0,none⟩) n cap∧(∀ q,w.frozen? ⟨gV,q,none⟩=false)∧gV<w.heap.size:=by
 rcases h.2 with ⟨_,e⟩|⟨g6,cap6,cur6,hs6,_,hb6,_⟩
 ·omega
 ·exact⟨g6,cap6,hs6,fun q=>Blk.frozen (show Blk w g6 _ cur6 from hb6) q,(h.lt g6 (by rw[hs6];rfl)).2⟩
theorem sxat:∀ (M:List SxR) (i:Nat) (x:SxR),M[i]? = some x→(M.flatMap q2b)[i*3]? = some x.V∧(M.flatMap q2b)[i*3+2]? = some (.int .i64 x.t.to_)
 | [],i,x,h=>by simp at h
 | y::M,0,x,h=>by
  obtain rfl:y=x:=by simpa using h
  exact⟨rfl,rfl⟩
 | y::M,i+1,x,h=>by
  have ih:=sxat M i x (by simpa using h)
  have e0:(i+1)*3=i*3+3:=by omega
  have e2:(i+1)*3+2=(i*3+2)+3:=by omega
  rw[e2,e0,List.flatMap_cons]
  exact ih
theorem sx_cell {w:World} {g gh:Nat} {V:Value} {L:List SxR} {nodes:Int} (h:StyI w g gh V L now safe nodes B) {i gV cap:Nat} {x:SxR} (hi:L[i]? = some x) (hV:V=.slice (some ⟨gV,0,none⟩) L.length cap):w.cell? ⟨gV,i*3,none⟩=some x.V∧w.cell? ⟨gV,i*3+2,none⟩=some (.int .i64 x.t.to_):=by
 have hr:=h.row
 rw[hV] at hr
 obtain⟨hl,_⟩:=List.getElem?_eq_some_iff.1 hi
 obtain⟨c0,c2⟩:=sxat L i x hi
 obtain⟨g2,off,e,_,hc⟩:=(Rd.of_own hr).2 (by omega)
 injection e with e
 injection e with e1 e2
 subst e1 e2
 have d0:=hc _ _ c0
 have d2:=hc _ _ c2
 rw[Nat.zero_add] at d0 d2
 exact⟨d0,d2⟩
theorem way_get {Bd:Int} {ab:Nat} {x:ActX} {W:World} {s1 _s5:Value} {a0:Act} {Q:Exit→Act→World→Prop} (hp:PlC w own P F g r o k H T now safe nodes B ab x W) (ha:AllI H Bd) (_hBd:Bd≤999000) (hx:x.what=1) (hm:H.m=T.length) (h7:T.length≤7) (hB:B≤1000) (hQP:∀ c a d v W,Q (.panic c) (Act.put a (some d) v) W→Q (.panic c) a W)
  (h0:PlFr (pw g) s1 (pw ab) (.int .i64 (idT T x.tx)) (.string ⟨(keyT x.a).toArray⟩) a0) (hQ:∀ a' W',PlFr (pw g) s1 (pw ab) (.int .i64 (idT T x.tx)) (.string ⟨(keyT x.a).toArray⟩) a'→PlM w own F g r o k H T now safe nodes B x W'→Q .normal a' W'):Code.wp Tryz.prog (wy pl1) Q a0 W:=by
 have HP2:=LH hp
 obtain⟨F2,hC2,hZ2,hA2,ho2,hF2⟩:=hp
 obtain⟨V2,L2,hst2,hT2,hF3,c0,c1,c2,_,c4,gl⟩:=hC2.cells
 obtain⟨x0,x1,x2,x3,xl⟩:=acts _ _ _ hA2
 have HC2:=LH hC2
 have HZ2:=LH hZ2
 have HA:=LH ha
 have HQ:=LH hQ
 have HE:=LH (hget_all hC2.hi ha.wf hC2.ns ha.c (idT T x.tx) (keyT x.a) (q2v _))
 have HYE:=LH (fun he=>get_id0 (H:=H) (T:=T) (x:=x) hm he)
 have HM0:=LH (fun he=>MidR.get (safe:=safe) (nodes:=nodes) (now:=now) (H:=H) (T:=T) (x:=x) hx he)
 have HM1:=LH (fun he=>MidR.getE (safe:=safe) (nodes:=nodes) (now:=now) (H:=H) (T:=T) (x:=x) hx he)
 have HKS:=LH (q1n (q2v x.a))
 clear x0 x1 x2 x3 xl c1 c2 c4
 unfold GetP at HE
 obtain⟨u,rfl⟩:=h0
 clear hC2 hZ2 hA2 ho2 hF2 hQ ha hst2 hT2 hF3
 unfold pw frP at *
 simp only[wy,pl1,pl0,plBlk,plX,plB,cL,cR,cT,cE,cB,Tryz.f10,Option.getD]
 generalize idT T x.tx=idv at *
 obtain⟨r0,hr⟩:∃ r0,H.get idv (keyT x.a)=r0:=⟨_,rfl⟩
 rw[hr] at HE HYE HM0 HM1
 obtain⟨⟨er,v,b⟩,H3⟩:=r0
 clear hr
 go_wp2_with fail
 refine HE.out.mono ?_
 rintro e w3 ⟨rfl,hG3⟩
 obtain⟨own3,hC3,hZ3⟩:=HC2.out.gsp hG3
 have HC3:=LH hC3
 have HZ3:=LH (HZ2.out.trans hZ3)
 clear hG3 hZ3 HE HC2 HZ2
 by_cases he:er=0
 ·subst he
  obtain⟨i,hi,hil⟩:=HYE.out rfl
  have HMM:=LH (HM0.out rfl)
  subst hi
  obtain⟨V3,L3,hst3,hT3,hF3,_,c1,_,_,_,gl3⟩:=hC3.cells
  have hlen:L3.length=T.length:=by rw[← hT3,List.length_map]
  have hil3:i<L3.length:=by omega
  obtain⟨y,hy⟩:∃ y,L3[i]? = some y:=⟨_,List.getElem?_eq_getElem hil3⟩
  have hym:=List.mem_of_getElem? hy
  obtain⟨gV,cap,hV3,hfz,hgV⟩:=q3x hst3.row (show 0<L3.length by omega)
  obtain⟨A3,k3,hyV,_,_⟩:=q01 (hst3.ops y hym).1
  obtain⟨d0,_⟩:=sx_cell hst3 hy hV3
  rw[hyV] at d0
  rw[hV3] at c1
  have hyn:=(hst3.ops y hym).2.1
  have hrow:=(hst3.ops y hym).1
  rw[hyV] at hrow
  have HROW:=LH hrow
  have HST:=LH hst3
  have HT3:=LH hT3
  have HF3:=LH hF3
  have HY:=LH hy
  have HYV:=LH hyV
  have HV3:=LH hV3
  have hw1:IntKind.i64.wrap ((i:Int)+1-1)=i:=by rw[show(i:Int)+1-1=i by omega];exact IntWalk.i64_in _ ⟨by omega,by omega⟩
  have hw2:IntKind.i64.wrap (i:Int)=i:=IntWalk.i64_in _ ⟨by omega,by omega⟩
  have hgt:decide ((0:Int)<(i:Int)+1)=true:=decide_eq_true (by omega)
  clear hst3 hT3 hF3 hy hyV hV3 hrow hC3 HYE HM0 HM1
  simp only[erV,if_pos]
  have hii:(i:Int)<L3.length:=by omega
  go_upto_region 15 with (fail)
  refine wp_region_any (by kernel_rfl) ?_
  change wpAny _ _ _ _ _ _ _ (World.drew _)
  refine q0e (fun W=>W.cell? ⟨g,1,none⟩=some (.slice (some ⟨gV,0,none⟩) L3.length cap)∧W.cell? ⟨gV,i*3,none⟩=some (.slice A3 y.t.ops.length k3)) 21 hQP (fun HQP=>?_)
  have HCC:(fun W=>W.cell? ⟨g,1,none⟩=some (.slice (some ⟨gV,0,none⟩) L3.length cap)∧W.cell? ⟨gV,i*3,none⟩=some (.slice A3 y.t.ops.length k3)) w3.drew:=⟨c1,d0⟩
  refine nA 0 [1,2,3,21,22,23] rfl rfl HQP HCC (fun w' hw'=>by go_simp;rfl) ?_
  refine nA 1 [2,3,21,22,23] rfl rfl HQP HCC (fun w' hw'=>by go_simp;rfl) ?_
  refine nA 2 [3,21,22,23] rfl rfl HQP HCC (fun w' hw'=>by go_simp;rfl) ?_
  refine nA 3 [21,22,23] rfl rfl HQP HCC (fun w' hw'=>by obtain⟨p0,p1⟩:=hw';go_simp;rfl) ?_
  refine nA 4 [5,21,22,23] rfl rfl HQP HCC (fun w' hw'=>by go_simp;rfl) ?_
  refine nA 5 [21,22,23] rfl rfl HQP HCC (fun w' hw'=>by go_simp;rfl) ?_
  refine nA 6 [7,8,9,12,13,14,20,21,22,23] rfl rfl HQP HCC (fun w' hw'=>by go_simp;rfl) ?_
  refine nA 7 [8,9,12,13,14,20,21,22,23] rfl rfl HQP HCC (fun w' hw'=>by go_simp;rfl) ?_
  refine nA 8 [9,12,13,14,20,21,22,23] rfl rfl HQP HCC (fun w' hw'=>by go_simp;rfl) ?_
  refine nA 9 [12,13,14,20,21,22,23] rfl rfl HQP HCC (fun w' hw'=>by obtain⟨p0,p1⟩:=hw';go_simp;rfl) ?_
  refine nA 10 [11,12,13,14,20,21,22,23] rfl rfl HQP HCC (fun w' hw'=>by go_simp;rfl) ?_
  refine nA 11 [12,13,14,20,21,22,23] rfl rfl HQP HCC (fun w' hw'=>by go_simp;rfl) ?_
  refine nA 12 [13,14,20,21,22,23] rfl rfl HQP HCC (fun w' hw'=>by go_simp;rfl) ?_
  refine nA 13 [14,20,21,22,23] rfl rfl HQP HCC (fun w' hw'=>by go_simp;rfl) ?_
  refine nA 14 [20,21,22,23] rfl rfl HQP HCC (fun w' hw'=>by obtain⟨p0,p1⟩:=hw';go_simp;rfl) ?_
  refine nA 15 [18,19,20,21,22,23] rfl rfl HQP HCC (fun w' hw'=>by go_simp;rfl) ?_
  refine nA 16 [18,19,20,21,22,23] rfl rfl HQP HCC (fun w' hw'=>by go_simp;rfl) ?_
  refine nA 17 [18,19,20,21,22,23] rfl rfl HQP HCC (fun w' hw'=>by go_simp;rfl) ?_
  refine nA 18 [19,20,21,22,23] rfl rfl HQP HCC (fun w' hw'=>by go_simp;rfl) ?_
  have hkeep:∀ o q p,q<w3.heap.size→(w3.alloc o).cell? ⟨q,p,none⟩=w3.cell? ⟨q,p,none⟩:=fun o q p hq=>World.cell?_alloc_lt w3 o ⟨q,p,none⟩ hq
  refine nO 19 rfl (fun KK hK=>?_)
  go_simp
  refine hK _ _ (fun _=>⟨(hkeep _ _ _ gl3).trans HCC.1,(hkeep _ _ _ hgV).trans HCC.2⟩) ?_
  clear hK KK HCC hkeep
  refine nO 20 rfl (fun KK hK=>?_)
  refine q1g w3.drew w3.heap.size rfl _ (.tmp 122) (.tmp 127) 50 rfl 0 56 _ 4 48 Tryz.underlying50 so_info rfl (by decide) _ _ _ #[.int .i64 1,.string ⟨(keyT x.a).toArray⟩,.string ⟨v.toArray⟩,.bool b] rfl HROW.out 1 rfl _ rfl rfl (by simp[Value.oneCell']) (by unfold maxLen;omega) (by omega) (Nat.zero_le _) ?_
  intro V6 w6 hrow6 hm6
  have hm6':Moved w3 w6 y.V.ownBlock V6.ownBlock:=by rw[HYV.out];exact⟨⟨hm6.1.os,hm6.1.tape,hm6.1.output,hm6.1.size,hm6.1.block⟩,hm6.2⟩
  obtain⟨F6,hC6,hZ6⟩:=SyC.pushOp (op:=opG x.a ((0,v,b),H3)) HC3.out HST.out HT3.out HF3.out HY.out HV3.out trivial hm6' hrow6
  have HX:=LH (show PlM w own F g r o k H T now safe nodes B x (w6.setCell ⟨gV,i*3,none⟩ V6) from⟨own3,P,F6,H3,_,B+1,hC6,HZ3.out.trans hZ6,HMM.out,Nat.le_refl _⟩)
  have hrv:=hm6'.1.own HST.out.row (fun b hb e=>q0i HST.out.row (HST.out.ops y hym).1 (by decide) hb e.symm)
  obtain⟨gV',cap',hV',hfz6,hgV6⟩:=q3x hrv (show 0<L3.length by omega)
  rw[HV3.out] at hV'
  injection hV' with hV' _ _
  injection hV' with hV'
  injection hV' with hV' _ _
  subst hV'
  have hf6:=hfz6 (i*3)
  have HC6:=LH (show(fun W=>W.cell? ⟨g,1,none⟩=some (.slice (some ⟨gV,0,none⟩) L3.length cap)∧W.cell? ⟨gV,i*3,none⟩=some (.slice A3 y.t.ops.length k3)) w6 from⟨(hm6'.1.cell (p:=⟨g,1,none⟩) gl3 (fun e=>q02 (HST.out.ops y hym).1 HST.out.blk (by decide) e.symm)).trans c1,(hm6'.1.cell (p:=⟨gV,i*3,none⟩) hgV (fun e=>q0i HST.out.row (HST.out.ops y hym).1 (by decide) (by rw[HV3.out];rfl) e.symm)).trans d0⟩)
  have y0:=HC6.out.2
  obtain⟨A7,c7,hV7,_,_⟩:=q01 hrow6
  subst hV7
  clear hm6 hm6' hrow6 hrv hC6 hZ6 hfz6
  go_simp
  refine hK _ _ (fun _=>HC6.out) ?_
  clear hK KK
  refine nO 21 rfl (fun KK hK=>?_)
  go_simp
  refine hK _ _ (fun h=>absurd h (by decide)) ?_
  clear hK KK
  refine nO 22 rfl (fun KK hK=>?_)
  go_simp
  refine hK _ _ (fun h=>absurd h (by decide)) ?_
  clear hK KK
  refine nO 23 rfl (fun KK hK=>?_)
  go_simp
  refine hK _ _ (fun h=>absurd h (by decide)) ?_
  clear hK KK
  refine ndone (by kernel_rfl) ?_ _
  clear HQP
  go_wp2_with fail
  exact HQ.out _ _ (PlFr.mk' _ rfl) HX.out

 ·have HX:=LH (show PlM w own F g r o k H T now safe nodes B x w3 from⟨own3,P,F2,H3,T,B,HC3.out,HZ3.out,HM1.out he,Nat.le_succ _⟩)
  have hev:erV er=.iface 79 (.int .i64 er):=if_neg he
  simp only[hev]
  clear hC3 HYE HM0 HM1
  go_wp2_with fail
  exact HQ.out _ _ (PlFr.mk' _ rfl) HX.out
end
end Go.Proofs.YtccahlhdifadfaaGreatDoor
