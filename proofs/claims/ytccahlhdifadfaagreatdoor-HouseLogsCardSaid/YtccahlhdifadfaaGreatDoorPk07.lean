/- Part 8 of the texts that the claim rests on (of 19): HsM, Hf1, HsU, HsW, HsX, IxW, IxC, Hf2, Hf3, Hf4. -/
import Derived.Test.YtccahlhdifadfaaGreatDoorPk06
namespace Go.Proofs.YtccahlhdifadfaaGreatDoor
open Go.RowKit
set_option maxRecDepth 100000
set_option maxHeartbeats 16000000
inductive Tg where
 | hs|net|shr|txr
 | sb (s:Nat)|ndr (s:Nat)|dd (s:Nat)|tab (s:Nat)|sto (s:Nat)
 | nd (s j:Nat)|tx (i:Nat)|sm (i:Nat)
deriving DecidableEq
abbrev Own:=Nat→Option Tg
structure Ptr where
 g:Nat
 gs:Nat→Nat
 gn:Nat→Nat→Nat
 gt:Nat→Nat
def Ext (own own':Own) (n:Nat):Prop:=∀ b,b<n→own' b=own b
def paint (own:Own) (n n':Nat) (t:Tg):Own:=fun b=>if b<n then own b else if b<n' then some t else none
theorem paint_ext (own:Own) (n n':Nat) (t:Tg):Ext own (paint own n n' t) n:=fun b h=>by unfold paint;rw[if_pos h]
theorem paint_new {own:Own} {n n' b:Nat} {t:Tg} (h1:n≤b) (h2:b<n'):paint own n n' t b=some t:=by unfold paint;rw[if_neg (by omega),if_pos h2]
theorem paint_lt {own:Own} {n n' b:Nat} {t:Tg} (hn:n≤n') (h:paint own n n' t b≠none):b<n':=by
 unfold paint at h
 split at h
 ·omega
 ·split at h
  ·assumption
  ·exact absurd rfl h
theorem Ext.refl (own:Own) (n:Nat):Ext own own n:=fun _ _=>rfl
theorem Ext.trans {a b c:Own} {n m:Nat} (h:Ext a b n) (k:Ext b c m) (hm:n≤m):Ext a c n:=fun i hi=>(k i (Nat.lt_of_lt_of_le hi hm)).trans (h i hi)
def OS (own:Own) (Z:Tg→Prop) (b:Nat):Prop:=∃ t,own b=some t∧Z t
theorem OS.tag {own:Own} {Z:Tg→Prop} {b:Nat} {t:Tg} (h:OS own Z b) (e:own b=some t):Z t:=by
 obtain⟨u,h1,h2⟩:=h
 rw[e] at h1
 injection h1 with h1
 rw[h1];exact h2
def pw (g:Nat):Value:=.pointer (some ⟨g,0,none⟩)
def NdC (w:World) (own:Own) (t:Tg) (g:Nat) (d:Nd):Prop:=∃ C V L,NdI w 0 g C V L d∧∀ b,NdF g C V L b→own b=some t
theorem NdC.keep {w w':World} {own own':Own} {Z:Tg→Prop} {t:Tg} {g:Nat} {d:Nd} (h:NdC w own t g d) (hf:Fr (OS own Z) w w') (he:Ext own own' w.heap.size) (hz:¬Z t):NdC w' own' t g d:=by
 obtain⟨C,V,L,h1,h2⟩:=h
 exact⟨C,V,L,h1.fr hf (fun b hb hs=>hz (hs.tag (h2 b hb))),fun b hb=>(he b (h1.foot_lt hb).2).trans (h2 b hb)⟩
structure ShV where
 Vn:Value
 bd:Nat
 mt:Option Nat
 loct:Sx→KLoc
 ms:Option Nat
 locs:Sx→Value
def q13 (v:ShV) (x:Shd):Array Value:=#[v.Vn,.map (some v.bd),.int .i64 x.epoch,.int .i64 x.size,.map v.mt,.map v.ms,.int .i64 0,.int .i64 x.done]
def ddM (dead:Int→Bool):Int→Option Value:=fun i=>if dead i then some (.bool true) else none
structure ShI (w:World) (own:Own) (n s g:Nat) (gn:Nat→Nat) (v:ShV) (x:Shd):Prop where
 row:w.ownsRow 0 108 1 v.Vn n ((List.range n).map fun j=>pw (gn j))
 rowt:∀ b,v.Vn.ownBlock=some b→own b=some (.ndr s)
 dd:MapG q05 w v.bd 100 (ddM x.dead)
 ddt:own v.bd=some (.dd s)
 tab:TabI w 0 100 g 4 105 (q13 v x) v.mt v.loct x.tab
 tabt:∀ b,TFoot v.mt v.loct x.tab b→own b=some (.tab s)
 sto:StI w 0 100 g 5 105 (q13 v x) v.ms v.locs x.sto 0
 stot:∀ b,SFoot v.ms v.locs x.sto b→own b=some (.sto s)
 gt:own g=some (.sb s)
def ShC (w:World) (own:Own) (n s g:Nat) (gn:Nat→Nat) (x:Shd):Prop:=∃ v,ShI w own n s g gn v x
def shTag (s:Nat) (t:Tg):Prop:=t=.sb s∨t=.ndr s∨t=.dd s∨t=.tab s∨t=.sto s
theorem ShI.keep {w w':World} {own own':Own} {Z:Tg→Prop} {n s g:Nat} {gn:Nat→Nat} {v:ShV} {x:Shd} (h:ShI w own n s g gn v x) (hf:Fr (OS own Z) w w') (he:Ext own own' w.heap.size) (hz:∀ t,shTag s t→¬Z t):ShI w' own' n s g gn v x:=by
 have hgs:¬OS own Z g:=fun hs=>hz _ (.inl rfl) (hs.tag h.gt)
 exact⟨hf.own h.row (fun b hb hs=>hz _ (.inr (.inl rfl)) (hs.tag (h.rowt b hb))),fun b hb=>(he b (h.row.lt b hb).2).trans (h.rowt b hb),
  h.dd.fr hf (fun hs=>hz _ (.inr (.inr (.inl rfl))) (hs.tag h.ddt)),(he _ h.dd.lt).trans h.ddt,
  h.tab.fr hf hgs (fun b hb hs=>hz _ (.inr (.inr (.inr (.inl rfl)))) (hs.tag (h.tabt b hb))),fun b hb=>(he b (h.tab.foot_lt hb).2).trans (h.tabt b hb),
  h.sto.fr hf (fun b hb hs=>hb.elim (fun e=>hgs (e▸hs)) (fun hb=>hz _ (.inr (.inr (.inr (.inr rfl)))) (hs.tag (h.stot b hb)))),fun b hb=>(he b (h.sto.foot_lt (.inr hb)).2).trans (h.stot b hb),
  (he g h.tab.blk.lt).trans h.gt⟩
theorem ShC.keep {w w':World} {own own':Own} {Z:Tg→Prop} {n s g:Nat} {gn:Nat→Nat} {x:Shd} (h:ShC w own n s g gn x) (hf:Fr (OS own Z) w w') (he:Ext own own' w.heap.size) (hz:∀ t,shTag s t→¬Z t):ShC w' own' n s g gn x:=by
 obtain⟨v,h⟩:=h
 exact⟨v,h.keep hf he hz⟩
def q0r (a:Sx×Int):List Value:=[.string ⟨a.1.toArray⟩,.int .i64 a.2]
def inM (f:Int→Option Int):Int→Option Value:=fun i=>(f i).map (Value.int .i64)
structure TxV where
 Vw:Value
 bs:Nat
 bp:Nat
 bt:Value
 dc:Value
 Vx:Value
def q28 (v:TxV) (i:Nat) (t:Txn):Array Value:=#[.int .i64 i,.int .i64 t.state,v.Vw,.map (some v.bs),.map (some v.bp),.int .i64 t.time,v.dc,v.bt,v.Vx]
structure TxI (w:World) (own:Own) (i g:Nat) (v:TxV) (t:Txn):Prop where
 blk:Blk w g 78 (q28 v i t)
 writes:w.ownsRow 0 45 3 v.Vw t.writes.length (t.writes.flatMap q0g)
 shards:MapG q05 w v.bs 100 (inM t.shards)
 places:MapG q05 w v.bp 100 (inM t.places)
 wants:w.ownsRow 0 129 2 v.Vx t.wants.length (t.wants.flatMap q0r)
 ne:v.bs≠v.bp
 gt:own g=some (.tx i)
 wt:∀ b,v.Vw.ownBlock=some b→own b=some (.tx i)
 st:own v.bs=some (.tx i)∨own v.bs=some (.sm i)
 pt:own v.bp=some (.tx i)
 xt:∀ b,v.Vx.ownBlock=some b→own b=some (.tx i)
def TxC (w:World) (own:Own) (i g:Nat) (t:Txn):Prop:=∃ v,TxI w own i g v t
theorem TxI.keep {w w':World} {own own':Own} {Z:Tg→Prop} {i g:Nat} {v:TxV} {t:Txn} (h:TxI w own i g v t) (hf:Fr (OS own Z) w w') (he:Ext own own' w.heap.size) (hz:¬Z (.tx i)) (hz2:¬Z (.sm i)):TxI w' own' i g v t:=by
 have hn:∀ b,own b=some (.tx i)→¬OS own Z b:=fun b hb hs=>hz (hs.tag hb)
 have hns:¬OS own Z v.bs:=fun hs=>h.st.elim (fun e=>hz (hs.tag e)) (fun e=>hz2 (hs.tag e))
 exact⟨hf.blk h.blk (hn _ h.gt),hf.own h.writes (fun b hb=>hn b (h.wt b hb)),h.shards.fr hf hns,h.places.fr hf (hn _ h.pt),hf.own h.wants (fun b hb=>hn b (h.xt b hb)),h.ne,
  (he _ h.blk.lt).trans h.gt,fun b hb=>(he b (h.writes.lt b hb).2).trans (h.wt b hb),h.st.imp (fun e=>(he _ h.shards.lt).trans e) (fun e=>(he _ h.shards.lt).trans e),(he _ h.places.lt).trans h.pt,fun b hb=>(he b (h.wants.lt b hb).2).trans (h.xt b hb)⟩
theorem TxC.keep {w w':World} {own own':Own} {Z:Tg→Prop} {i g:Nat} {t:Txn} (h:TxC w own i g t) (hf:Fr (OS own Z) w w') (he:Ext own own' w.heap.size) (hz:¬Z (.tx i)) (hz2:¬Z (.sm i)):TxC w' own' i g t:=by
 obtain⟨v,h⟩:=h
 exact⟨v,h.keep hf he hz hz2⟩
structure HsV where
 Vn:Value
 D:Option Nat
 L:List MsR
 lost:Int
 Vr:Value
 Vt:Value
def q2e (v:HsV) (time:Int):Array Value:=#[v.Vn,.map v.D,.int .i64 v.lost,v.Vr,v.Vt,.int .i64 time]
def NetF (v:HsV) (b:Nat):Prop:=v.Vn.ownBlock=some b∨v.D=some b∨∃ x∈v.L,(Value.slice x.A x.n x.k).ownBlock=some b
structure HsI (w:World) (own:Own) (P:Ptr) (c m:Nat) (net:NetS) (time:Int) (v:HsV):Prop where
 nt:NetI w 0 P.g 0 92 (q2e v time) v.Vn v.D 100 v.L net.dead v.lost
 msgs:msOf v.L=net.l
 nett:∀ b,NetF v b→own b=some .net
 few:∀ x∈v.L,x.n≤100000
 shr:w.ownsRow 0 80 1 v.Vr c ((List.range c).map fun s=>pw (P.gs s))
 shrt:∀ b,v.Vr.ownBlock=some b→own b=some .shr
 txr:w.ownsRow 0 74 1 v.Vt m ((List.range' 1 m).map fun i=>pw (P.gt i))
 txrt:∀ b,v.Vt.ownBlock=some b→own b=some .txr
 gt:own P.g=some .hs
def HsC (w:World) (own:Own) (P:Ptr) (c m:Nat) (net:NetS) (time:Int):Prop:=∃ v,HsI w own P c m net time v
def hsTag (t:Tg):Prop:=t=.hs∨t=.net∨t=.shr∨t=.txr
theorem NetI.foot_lt {w:World} {base g off nd:Nat} {T:TypeId} {cs:Array Value} {V:Value} {D:Option Nat} {L:List MsR} {dead:Int→Bool} {lost:Int} (h:NetI w base g off T cs V D nd L dead lost) {b:Nat} (hb:V.ownBlock=some b∨D=some b∨∃ x∈L,(Value.slice x.A x.n x.k).ownBlock=some b):b<w.heap.size:=by
 rcases hb with hb|hb|⟨x,hx,hb⟩
 ·exact h.vlt hb
 ·have:=h.down;rw[hb] at this;exact this.lt
 ·exact((h.own x hx).1.lt b hb).2
theorem NetI.frF {w w':World} {S:Nat→Prop} {base g off nd:Nat} {T:TypeId} {cs:Array Value} {V:Value} {D:Option Nat} {L:List MsR} {dead:Int→Bool} {lost:Int} (h:NetI w base g off T cs V D nd L dead lost) (hf:Fr S w w') (hg:¬S g) (hn:∀ b,(V.ownBlock=some b∨D=some b∨∃ x∈L,(Value.slice x.A x.n x.k).ownBlock=some b)→¬S b):NetI w' base g off T cs V D nd L dead lost:=
 ⟨hf.blk h.blk hg,h.c0,h.c1,h.c2,hf.own h.row (fun b hb=>hn b (.inl hb)),fun x hx=>⟨hf.own (h.own x hx).1 (fun b hb=>hn b (.inr (.inr ⟨x,hx,hb⟩))),(h.own x hx).2⟩,h.down.fr hf (fun b hb=>hn b (.inr (.inl hb))),h.len,h.ne,Nat.le_trans h.bg hf.size⟩
theorem HsI.keep {w w':World} {own own':Own} {Z:Tg→Prop} {P:Ptr} {c m:Nat} {net:NetS} {time:Int} {v:HsV} (h:HsI w own P c m net time v) (hf:Fr (OS own Z) w w') (he:Ext own own' w.heap.size) (hz:∀ t,hsTag t→¬Z t):HsI w' own' P c m net time v:=
 ⟨h.nt.frF hf (fun hs=>hz _ (.inl rfl) (hs.tag h.gt)) (fun b hb hs=>hz _ (.inr (.inl rfl)) (hs.tag (h.nett b hb))),h.msgs,fun b hb=>(he b (h.nt.foot_lt hb)).trans (h.nett b hb),h.few,
  hf.own h.shr (fun b hb hs=>hz _ (.inr (.inr (.inl rfl))) (hs.tag (h.shrt b hb))),fun b hb=>(he b (h.shr.lt b hb).2).trans (h.shrt b hb),
  hf.own h.txr (fun b hb hs=>hz _ (.inr (.inr (.inr rfl))) (hs.tag (h.txrt b hb))),fun b hb=>(he b (h.txr.lt b hb).2).trans (h.txrt b hb),(he _ h.nt.blk.lt).trans h.gt⟩
theorem HsC.keep {w w':World} {own own':Own} {Z:Tg→Prop} {P:Ptr} {c m:Nat} {net:NetS} {time:Int} (h:HsC w own P c m net time) (hf:Fr (OS own Z) w w') (he:Ext own own' w.heap.size) (hz:∀ t,hsTag t→¬Z t):HsC w' own' P c m net time:=by
 obtain⟨v,h⟩:=h
 exact⟨v,h.keep hf he hz⟩
structure HI (w:World) (own:Own) (P:Ptr) (H:Hs):Prop where
 lt:∀ b,own b≠none→b<w.heap.size
 hs:HsC w own P H.c H.m H.net H.time
 sh:∀ s,s<H.c→ShC w own H.n s (P.gs s) (P.gn s) (H.sh s)
 nd:∀ s j,s<H.c→j<H.n→NdC w own (.nd s j) (P.gn s j) ((H.sh s).nd j)
 tx:∀ i,1≤i→i≤H.m→TxC w own i (P.gt i) (H.tx i)
structure HZ (Z:Tg→Prop) (w:World) (own:Own) (w':World) (own':Own):Prop where
 ext:Ext own own' w.heap.size
 fr:Fr (OS own Z) w w'
 sm:∀ b i,own' b=some (.sm i)→own b=some (.sm i)
def StTag (t:Tg):Prop:=t≠.txr∧t≠.shr∧∀ i,t≠.sm i
def NoSm (own:Own):Prop:=∀ b i,own b≠some (.sm i)
abbrev HStep:=HZ StTag
theorem HZ.refl (Z:Tg→Prop) (w:World) (own:Own):HZ Z w own w own:=⟨Ext.refl _ _,Fr.refl _ _,fun _ _ h=>h⟩
theorem HZ.mono {Z Z':Tg→Prop} {w w':World} {own own':Own} (h:HZ Z w own w' own') (hz:∀ t,Z t→Z' t):HZ Z' w own w' own':=⟨h.ext,h.fr.mono (fun _ _ ⟨t,a,b⟩=>⟨t,a,hz t b⟩),h.sm⟩
theorem HZ.trans {Z:Tg→Prop} {w w1 w2:World} {own own1 own2:Own} (h:HZ Z w own w1 own1) (k:HZ Z w1 own1 w2 own2):HZ Z w own w2 own2:=
 ⟨h.ext.trans k.ext h.fr.size,h.fr.trans' k.fr (fun i hi ⟨t,a,b⟩=>⟨t,by rw[← h.ext i hi];exact a,b⟩),fun b i e=>h.sm b i (k.sm b i e)⟩
theorem HZ.noSm {Z:Tg→Prop} {w w':World} {own own':Own} (h:HZ Z w own w' own') (hn:NoSm own):NoSm own':=fun b i e=>hn b i (h.sm b i e)
theorem OS.owned {own:Own} {Z:Tg→Prop} {b:Nat} (h:OS own Z b):own b≠none:=by obtain⟨t,h,_⟩:=h;rw[h];simp
theorem q4g {w w':World} (own:Own) (hb:Below w.heap.size w w'):Fr (OS own (fun _=>False)) w w':=⟨hb.os,hb.tape,hb.output,hb.size,fun k hk _=>hb.block k hk⟩
section
variable {w w':World} {own own':Own} {P:Ptr} {H:Hs}
theorem HI.below (h:HI w own P H) (hb:Below w.heap.size w w'):HI w' own P H:=
 have hf:=q4g own hb
 have he:=Ext.refl own w.heap.size
 ⟨fun b hn=>Nat.lt_of_lt_of_le (h.lt b hn) hb.size,h.hs.keep hf he (fun _ _ h=>h),fun s hs=>(h.sh s hs).keep hf he (fun _ _ h=>h),fun s j hs hj=>(h.nd s j hs hj).keep hf he (fun h=>h),fun i h1 h2=>(h.tx i h1 h2).keep hf he (fun h=>h) (fun h=>h)⟩
theorem HZ.below {Z:Tg→Prop} (own:Own) (hb:Below w.heap.size w w'):HZ Z w own w' own:=⟨Ext.refl _ _,(q4g own hb).mono (fun _ _ ⟨t,a,b⟩=>⟨t,a,b.elim⟩),fun _ _ h=>h⟩
end
section
variable {w w':World} {own own':Own} {P:Ptr} {H:Hs}
theorem HsI.cells {c m:Nat} {net:NetS} {time:Int} {v:HsV} (h:HsI w own P c m net time v):w.cell? ⟨P.g,0,none⟩=some v.Vn∧w.cell? ⟨P.g,3,none⟩=some v.Vr∧w.cell? ⟨P.g,4,none⟩=some v.Vt∧w.cell? ⟨P.g,5,none⟩=some (.int .i64 time)∧P.g<w.heap.size:=by
 have c0:=h.nt.blk.cell 0
 have c3:=h.nt.blk.cell 3
 have c4:=h.nt.blk.cell 4
 have c5:=h.nt.blk.cell 5
 unfold q2e at c0 c3 c4 c5
 simp only[List.getElem?_toArray,List.getElem?_cons_zero,List.getElem?_cons_succ] at c0 c3 c4 c5
 exact⟨c0,c3,c4,c5,h.nt.blk.lt⟩
theorem q2g {base k n:Nat} {e:TypeId} {V:Value} {xs:List Value} (h:w.ownsRow base e 1 V n xs) (hk:k<n):∃ g c,V=.slice (some ⟨g,0,none⟩) n c∧g<w.heap.size∧∃ u,xs[k]? = some u∧w.cell? ⟨g,k,none⟩=some u:=by
 obtain⟨A,c,rfl,_,_⟩:=q01 h
 obtain⟨g,off,u,rfl,hg,hu,hc⟩:=(Rd.of_own h).at1 hk
 rcases h.2 with ⟨h1,_⟩|⟨g',cap,cur,h1,_⟩
 ·cases h1
 ·injection h1 with h1 _ _
  injection h1 with h1
  injection h1 with h1 h2 _
  subst h2
  exact⟨g,c,rfl,hg,u,hu,by rw[Nat.zero_add] at hc;exact hc⟩
theorem HsI.txAt {c m:Nat} {net:NetS} {time:Int} {v:HsV} (h:HsI w own P c m net time v) {i:Nat} (h1:1≤i) (hi:i≤m):∃ g k,v.Vt=.slice (some ⟨g,0,none⟩) m k∧g<w.heap.size∧w.cell? ⟨g,i-1,none⟩=some (pw (P.gt i)):=by
 obtain⟨g,k,e,hg,u,hu,hc⟩:=q2g h.txr (k:=i-1) (by omega)
 refine⟨g,k,e,hg,?_⟩
 rw[List.getElem?_map,List.getElem?_range' (by omega)] at hu
 simp only[Option.map_some,Option.some.injEq] at hu
 rw[hc,← hu,show 1+1*(i-1)=i by omega]
theorem HsI.shAt {c m:Nat} {net:NetS} {time:Int} {v:HsV} (h:HsI w own P c m net time v) {s:Nat} (hs:s<c):∃ g k,v.Vr=.slice (some ⟨g,0,none⟩) c k∧g<w.heap.size∧w.cell? ⟨g,s,none⟩=some (pw (P.gs s)):=by
 obtain⟨g,k,e,hg,u,hu,hc⟩:=q2g h.shr (k:=s) (by omega)
 refine⟨g,k,e,hg,?_⟩
 rw[List.getElem?_map,List.getElem?_range (by omega)] at hu
 simp only[Option.map_some,Option.some.injEq] at hu
 rw[hc,← hu]
def findV (P:Ptr) (m:Nat) (id:Int):Value:=if id<1∨m<id then .pointer none else pw (P.gt id.toNat)
theorem q3o (h:HI w own P H) (hm:H.m≤1000) (id:Int):Calls Tryz.prog 34 #[pw P.g,.int .i64 id] w fun e w'=>e=.returned (findV P H.m id)∧w=w':=by
 obtain⟨v,h⟩:=h.hs
 obtain⟨_,_,c4,_,gl⟩:=h.cells
 unfold findV pw
 by_cases b1:id<1
 ·rw[if_pos (.inl b1)]
  have d1:decide (id<1)=true:=decide_eq_true b1
  clear c4 h
  go_enter Tryz.func34,Tryz.ntmps34
  go_wp2_with fail
  go_ret
  exact⟨rfl,rfl⟩
 ·have d1:decide (id<1)=false:=decide_eq_false b1
  by_cases b2:(H.m:Int)<id
  ·rw[if_pos (.inr b2)]
   have d2:decide (id > (H.m:Int))=true:=decide_eq_true b2
   obtain⟨A,c,hV,_,_⟩:=q01 h.txr
   rw[hV] at c4
   clear h hV
   go_enter Tryz.func34,Tryz.ntmps34
   go_wp2_with fail
   go_ret
   exact⟨rfl,rfl⟩
  ·rw[if_neg (by omega)]
   have d2:decide (id > (H.m:Int))=false:=decide_eq_false b2
   obtain⟨i,rfl⟩:∃ i:Nat,id=i:=⟨id.toNat,by omega⟩
   obtain⟨g,k,hV,hg,hc⟩:=h.txAt (i:=i) (by omega) (by omega)
   rw[hV] at c4
   rw[show((i:Int)).toNat=i from rfl]
   obtain⟨j,rfl⟩:∃ j,i=j+1:=⟨i-1,by omega⟩
   have hw:IntKind.i64.wrap (((j+1:Nat):Int)-1)=(j:Int):=by rw[IntWalk.i64_in _ ⟨by omega,by omega⟩];omega
   rw[Nat.add_sub_cancel] at hc
   unfold pw at hc
   have hj:j<H.m:=by omega
   clear h hV
   go_enter Tryz.func34,Tryz.ntmps34
   go_wp2_with fail
   go_ret
   exact⟨rfl,rfl⟩
end
section
variable {w w':World} {own own':Own} {P:Ptr} {H:Hs}
theorem HI.setTx' (h:HI w own P H) {i:Nat} {t':Txn} (hf:Fr (OS own (fun t=>t=.tx i)) w w') (he:Ext own own' w.heap.size) (hlt:∀ b,own' b≠none→b<w'.heap.size)
  (ht:TxC w' own' i (P.gt i) t'):HI w' own' P (H.setTx i t'):=by
 refine⟨hlt,h.hs.keep hf he (fun t ht=>by rintro rfl;rcases ht with h|h|h|h <;> cases h),fun s hs=>(h.sh s hs).keep hf he (fun t ht=>by rintro rfl;rcases ht with h|h|h|h|h <;> cases h),fun s j hs hj=>(h.nd s j hs hj).keep hf he (by simp),fun k h1 h2=>?_⟩
 show TxC w' own' k (P.gt k) (upd H.tx i t' k)
 by_cases e:k=i
 ·subst e;rw[q03];exact ht
 ·rw[q07 e];exact(h.tx k h1 h2).keep hf he (fun e2=>by injection e2 with e2;exact e e2) (fun e2=>by cases e2)
theorem HI.setSh' (h:HI w own P H) {s:Nat} {x':Shd} (hnd:x'.nd=(H.sh s).nd) (hf:Fr (OS own (shTag s)) w w') (he:Ext own own' w.heap.size) (hlt:∀ b,own' b≠none→b<w'.heap.size)
  (hx:ShC w' own' H.n s (P.gs s) (P.gn s) x'):HI w' own' P (H.setSh s x'):=by
 refine⟨hlt,h.hs.keep hf he (fun t ht ht2=>by rcases ht with h|h|h|h <;> subst h <;> rcases ht2 with h|h|h|h|h <;> cases h),fun k hk=>?_,fun k j hk hj=>?_,fun k h1 h2=>(h.tx k h1 h2).keep hf he (fun ht2=>by rcases ht2 with h|h|h|h|h <;> cases h) (fun ht2=>by rcases ht2 with h|h|h|h|h <;> cases h)⟩
 ·show ShC w' own' H.n k (P.gs k) (P.gn k) (upd H.sh s x' k)
  by_cases e:k=s
  ·subst e;rw[q03];exact hx
  ·rw[q07 e]
   exact(h.sh k hk).keep hf he (fun t ht ht2=>by rcases ht with h|h|h|h|h <;> subst h <;> rcases ht2 with h|h|h|h|h <;> first|(injection h with h;exact e h)|cases h)
 ·have:=(h.nd k j hk hj).keep hf he (fun ht2=>by rcases ht2 with h|h|h|h|h <;> cases h)
  show NdC w' own' (.nd k j) (P.gn k j) ((upd H.sh s x' k).nd j)
  by_cases e:k=s
  ·subst e;rw[q03,hnd];exact this
  ·rw[q07 e];exact this
theorem ShC.setNd {n s g:Nat} {gn:Nat→Nat} {x:Shd} (h:ShC w own n s g gn x) (f:Nat→Nd):ShC w own n s g gn { x with nd:=f }:=by
 obtain⟨v,h⟩:=h
 exact⟨v,h.row,h.rowt,h.dd,h.ddt,h.tab,h.tabt,h.sto,h.stot,h.gt⟩
theorem HI.setNd' (h:HI w own P H) {s j:Nat} {d':Nd} (hf:Fr (OS own (fun t=>t=.nd s j)) w w') (he:Ext own own' w.heap.size) (hlt:∀ b,own' b≠none→b<w'.heap.size)
  (hd:NdC w' own' (.nd s j) (P.gn s j) d'):HI w' own' P (H.setNd s j d'):=by
 refine⟨hlt,h.hs.keep hf he (fun t ht=>by rintro rfl;rcases ht with h|h|h|h <;> cases h),fun k hk=>?_,fun k i hk hi=>?_,fun k h1 h2=>(h.tx k h1 h2).keep hf he (by simp) (by simp)⟩
 ·have:=(h.sh k hk).keep hf he (fun t ht=>by rintro rfl;rcases ht with h|h|h|h|h <;> cases h)
  show ShC w' own' H.n k (P.gs k) (P.gn k) (upd H.sh s { H.sh s with nd:=upd (H.sh s).nd j d' } k)
  by_cases e:k=s
  ·subst e;rw[q03];exact this.setNd _
  ·rw[q07 e];exact this
 ·show NdC w' own' (.nd k i) (P.gn k i) ((upd H.sh s { H.sh s with nd:=upd (H.sh s).nd j d' } k).nd i)
  by_cases e:k=s
  ·subst e
   rw[q03]
   show NdC w' own' (.nd k i) (P.gn k i) (upd (H.sh k).nd j d' i)
   by_cases e2:i=j
   ·subst e2;rw[q03];exact hd
   ·rw[q07 e2];exact(h.nd k i hk hi).keep hf he (fun e3=>by injection e3 with _ e3;exact e2 e3)
  ·rw[q07 e];exact(h.nd k i hk hi).keep hf he (fun e3=>by injection e3 with e3;exact e e3)
theorem HI.setHs' (h:HI w own P H) {net':NetS} {time':Int} (hf:Fr (OS own hsTag) w w') (he:Ext own own' w.heap.size) (hlt:∀ b,own' b≠none→b<w'.heap.size)
  (hx:HsC w' own' P H.c H.m net' time'):HI w' own' P { H with net:=net',time:=time' }:=
 ⟨hlt,hx,fun k hk=>(h.sh k hk).keep hf he (fun t ht ht2=>by rcases ht with h|h|h|h|h <;> subst h <;> rcases ht2 with h|h|h|h <;> cases h),
  fun k j hk hj=>(h.nd k j hk hj).keep hf he (fun ht2=>by rcases ht2 with h|h|h|h <;> cases h),fun k h1 h2=>(h.tx k h1 h2).keep hf he (fun ht2=>by rcases ht2 with h|h|h|h <;> cases h) (fun ht2=>by rcases ht2 with h|h|h|h <;> cases h)⟩
theorem HI.congrTx (h:HI w own P H) (f:Nat→Txn) (hf:∀ i,1≤i→i≤H.m→f i=H.tx i):HI w own P { H with tx:=f }:=
 ⟨h.lt,h.hs,h.sh,h.nd,fun i h1 h2=>by show TxC w own i (P.gt i) (f i);rw[hf i h1 h2];exact h.tx i h1 h2⟩
end
def names:List Sx:=[[97],[98],[99],[100]]
theorem q1n {x:Sx} (h:x∈names):x.length≤20:=by
 unfold names at h
 simp only[List.mem_cons,List.not_mem_nil,or_false] at h
 rcases h with rfl|rfl|rfl|rfl <;> decide
structure WfKx (k:Kx):Prop where
 hold:∀ o m,k.h o=some m→1≤o∧o≤60
 wait:∀ w∈k.ws,1≤w.1∧w.1≤60
 sort:k.ws.Pairwise (·.1 < ·.1)
def WfT (T:Tb):Prop:=∀ x k,T x=some k→x∈names∧WfKx k
theorem WfT.none_:WfT (fun _=>none):=fun _ _ h=>by cases h
theorem WfKx.zero:WfKx k0:=⟨fun _ _ h=>(nomatch h),fun _ h=>(nomatch h),List.Pairwise.nil⟩
theorem WfT.at_ {T:Tb} (h:WfT T) (x:Sx):WfKx (atT T x):=by
 unfold atT
 cases e:T x with
 | none=>exact WfKx.zero
 | some k=>exact(h x k e).2
theorem q5y (ok:Int→Prop):∀ (ws left:List (Int×Int)) (h:Int→Option Int),(∀ o m,h o=some m→ok o)→(∀ w∈left++ws,ok w.1)→(left++ws).Pairwise (·.1 < ·.1)→
  (∀ o m,(q0p h left ws).1 o=some m→ok o)∧(∀ w∈(q0p h left ws).2.1,w∈left++ws)∧(q0p h left ws).2.1.Pairwise (·.1 < ·.1)
 | [],left,h,h1,_,h3=>by rw[q30];exact⟨h1,fun w hw=>List.mem_append_left _ hw,by simpa using h3⟩
 | w::ws,left,h,h1,h2,h3=>by
  rcases hf:freeB h w.1 w.2 left with _|_
  ·rw[q5z hf]
   have e:left++w::ws=(left++[w])++ws:=by simp
   rw[e] at h2 h3
   obtain⟨a,b,c⟩:=q5y ok ws (left++[w]) h h1 h2 h3
   exact⟨a,fun v hv=>by rw[e];exact b v hv,c⟩
  ·rw[q4o hf]
   have hsub:(left++ws).Sublist (left++w::ws):=List.Sublist.append_left (List.sublist_cons_self _ _) left
   obtain⟨a,b,c⟩:=q5y ok ws left (gainH h w.1 w.2) (fun o m e=>by
    unfold gainH setH at e
    split at e
    ·rename_i e1;rw[e1];exact h2 w (by simp)
    ·exact h1 o m e) (fun v hv=>h2 v (hsub.subset hv)) (h3.sublist hsub)
   exact⟨a,fun v hv=>hsub.subset (b v hv),c⟩
theorem WfKx.rel {k:Kx} (h:WfKx k) (tx:Int):WfKx (relK k tx).1:=by
 have hs:(offW k.ws tx).Sublist k.ws:=List.filter_sublist
 obtain⟨a,b,c⟩:=q5y (fun o=>1≤o∧o≤60) (offW k.ws tx) [] (setH k.h tx none) (fun o m e=>by
  unfold setH at e
  split at e
  ·cases e
  ·exact h.hold o m e) (fun w hw=>h.wait w (hs.subset (by simpa using hw))) (by simpa using h.sort.sublist hs)
 exact⟨a,fun w hw=>h.wait w (hs.subset (by simpa using b w hw)),c⟩
theorem WfT.rel {T:Tb} (h:WfT T) (tx:Int):WfT (relT T tx):=fun x k hk=>by
 unfold relT at hk
 cases e:T x with
 | none=>rw[e] at hk;cases hk
 | some k0=>
  rw[e] at hk
  have hk':relO k0 tx=some k:=hk
  unfold relO at hk'
  split at hk'
  ·cases hk'
  ·injection hk' with hk'
   rw[← hk']
   exact⟨(h x k0 e).1,(h x k0 e).2.rel tx⟩
theorem WfT.put {T:Tb} (h:WfT T) {x:Sx} {k:Kx} (hx:x∈names) (hk:WfKx k):WfT (putT T x (some k)):=fun y k' e=>by
 unfold putT at e
 split at e
 ·rename_i e1;injection e with e;rw[e1,← e];exact⟨hx,hk⟩
 ·exact h y k' e
theorem WfT.lock {T:Tb} (h:WfT T) {tx:Int} (ht:1≤tx∧tx≤60) {x:Sx} (hx:x∈names) (mode:Int):WfT (lockT T tx x mode):=by
 have ha:=h.at_ x
 unfold lockT
 rcases hw:q0w (atT T x).ws tx with _|_
 ·rw[if_neg (by simp)]
  rcases hf:freeB (atT T x).h tx mode (atT T x).ws with _|_
  ·rw[if_neg (by simp)]
   split
   ·exact h
   ·refine h.put hx ⟨ha.hold,fun w hw2=>?_,q7y ha.sort (fun v hv=>?_)⟩
    ·rcases q9x.1 hw2 with rfl|hw2
     ·exact ht
     ·exact ha.wait w hw2
    ·unfold q0w at hw
     rw[List.any_eq_false] at hw
     have:=hw v hv
     simpa using this
  ·rw[if_pos rfl]
   refine h.put hx ⟨fun o m e=>?_,ha.wait,ha.sort⟩
   have e:gainH (atT T x).h tx mode o=some m:=e
   unfold gainH setH at e
   split at e
   ·rename_i e1;rw[e1];exact ht
   ·exact ha.hold o m e
 ·rw[if_pos rfl];exact h
def kI61:List Int:=(List.range 61).map Int.ofNat
theorem q1s {o:Int} (h0:0≤o) (h1:o≤60):o∈kI61:=List.mem_map.2 ⟨o.toNat,List.mem_range.2 (by omega),by show(o.toNat:Int)=o;omega⟩
theorem q2h:kI61.length=61:=by unfold kI61;simp
def bs4:List ByteArray:=names.map fun x=>⟨x.toArray⟩
theorem bs4_mem {s:ByteArray} (h:sx s∈names):s∈bs4:=List.mem_map.2 ⟨sx s,h,mk_sx s⟩
section
variable {w w':World} {base n g off:Nat} {ty:TypeId} {cs:Array Value}
theorem TabI.tight {mb:Option Nat} {loc:Sx→KLoc} {T:Tb} (h:TabI w base n g off ty cs mb loc T) (wf:WfT T):TabI w base 100 g off ty cs mb loc T:=by
 refine⟨h.blk,h.c0,?_,fun x k hx=>?_,h.apart,h.small,h.ne,h.mlo,h.mdis,h.bg⟩
 ·have hm:=h.map
  unfold TabM at hm ⊢
  rcases mb with _|b
  ·exact hm
  ·refine(MapG.tight (C:=kS) hm bs4 (fun s _ hs=>bs4_mem ?_)).mono (by decide)
   unfold mapOf at hs
   cases e:T (sx s) with
   | none=>rw[e] at hs;exact absurd rfl hs
   | some k=>exact(wf _ _ e).1
 ·have hk:=h.keys x k hx
  have hwk:=(wf x k hx).2
  refine⟨hk.blk,(hk.holds.tight kI61 (fun o _ ho=>?_)).mono (by rw[q2h];omega),hk.row,hk.log,hk.loh,hk.okh,hk.okw,hk.len⟩
  cases e:k.h o with
  | none=>exact absurd (by unfold hM;rw[e];rfl) ho
  | some m=>have:=hwk.hold o m e;exact q1s (by omega) this.2
def WfS (K:Kp):Prop:=∀ x v,v∈K x→x∈names∧0≤v.t∧v.t≤60
theorem WfS.none_:WfS (fun _=>[]):=fun _ _ h=>by cases h
theorem WfS.len {K:Kp} (h:WfS K) (hs:∀ x,q2o (K x)) (x:Sx):(K x).length≤61:=by
 have h1:((K x).map (·.t)).length≤kI61.length:=by
  refine List.Nodup.length_le_of_subset ?_ (fun t ht=>?_)
  ·rw[List.Nodup,List.pairwise_map]
   exact(hs x).imp (fun h e=>by omega)
  ·obtain⟨v,hv,rfl⟩:=List.mem_map.1 ht
   exact q1s (h x v hv).2.1 (h x v hv).2.2
 rw[List.length_map,q2h] at h1
 exact h1
theorem StI.tight {mb:Option Nat} {loc:Sx→Value} {K:Kp} {low:Int} (h:StI w base n g off ty cs mb loc K low) (wf:WfS K):StI w base 100 g off ty cs mb loc K low:=by
 refine⟨h.blk,h.c0,h.c1,h.ne,?_,h.rows,h.apart,h.small,h.times,h.sorted,fun x=>Nat.le_trans (wf.len h.sorted x) (by omega),h.low0,h.lowm,h.mlo,h.lo⟩
 have hm:=h.map
 unfold StM at hm ⊢
 rcases mb with _|b
 ·exact hm
 ·refine(MapG.tight (C:=kV) hm bs4 (fun s _ hs=>bs4_mem ?_)).mono (by decide)
  unfold vmap at hs
  rcases e:K (sx s) with _|⟨v,l⟩
  ·rw[e] at hs;exact absurd rfl hs
  ·exact(wf (sx s) v (by rw[e];exact List.mem_cons_self ..)).1
theorem WfS.put {K:Kp} (h:WfS K) {r:Rx} (hk:r.key∈names) (h0:0≤r.t) (h1:r.t≤60):WfS (putS K 0 r).2:=by
 unfold putS
 split
 ·exact h
 ·split
  ·exact h
  ·split
   ·exact h
   ·split
    ·exact h
    ·intro x v hv
     have hv:v∈putK K r.key (insV (K r.key) (ofR r)) x:=hv
     unfold putK at hv
     split at hv
     ·rename_i e
      rw[e]
      rcases insV_mem.1 hv with rfl|hv
      ·exact⟨hk,h0,h1⟩
      ·exact h _ v hv
     ·exact h x v hv
def WfP (p:Pr):Prop:=sx p.key∈names∧p.val.size≤40
theorem WfS.puts {t:Int} (h0:0≤t) (h1:t≤60):∀ (ps:List Pr) {K:Kp},WfS K→(∀ p∈ps,WfP p)→WfS (putsK K t ps)
 | [],_,h,_=>h
 | p::ps,_K,h,hp=>WfS.puts h0 h1 ps (h.put (r:=⟨sx p.key,sx p.val,p.gone,t⟩) (hp p (List.mem_cons_self ..)).1 h0 h1) (fun q hq=>hp q (List.mem_cons_of_mem _ hq))
structure WfC (c:Cm):Prop where
 tx:1≤c.tx∧c.tx≤60
 time:0≤c.time∧c.time≤60
 few:c.writes.length≤20
 ps:∀ p∈c.writes,WfP p
theorem WfS.comm {c:Cm} (hc:WfC c):∀ (l:List Cm) {K:Kp},WfS K→(∀ a∈l,WfC a)→WfS (commK K l c)
 | [],_,h,_=>h
 | a::l,K,h,hl=>by
  show WfS (commK (if a.kind=2∧a.tx=c.tx then putsK K c.time a.writes else K) l c)
  refine WfS.comm hc l ?_ (fun b hb=>hl b (List.mem_cons_of_mem _ hb))
  split
  ·exact WfS.puts hc.time.1 hc.time.2 _ h (hl a (List.mem_cons_self ..)).ps
  ·exact h
theorem WfT.prep {tx:Int} (ht:1≤tx∧tx≤60):∀ (ps:List Pr) {T:Tb},WfT T→(∀ p∈ps,WfP p)→WfT (prepT T tx ps)
 | [],_,h,_=>h
 | p::ps,_T,h,hp=>WfT.prep ht ps (h.lock ht (hp p (List.mem_cons_self ..)).1 2) (fun q hq=>hp q (List.mem_cons_of_mem _ hq))
theorem q0j {i:Int} (h0:-1000000≤i) (h1:i≤1000000):okI i:=by
 simp only[okI,Lit.wf,Bool.and_eq_true,decide_eq_true_eq]
 have e1:IntKind.i64.min = -9223372036854775808:=by decide
 have e2:IntKind.i64.max=9223372036854775807:=by decide
 rw[e1,e2]
 omega
end
section
variable {w w' w2:World} {own own':Own} {i g:Nat} {v:TxV} {t:Txn}
theorem TxI.rows_ne (h:TxI w own i g v t):v.Vw.ownBlock≠some g∧v.Vx.ownBlock≠some g∧v.bs≠g∧v.bp≠g∧v.Vw.ownBlock≠some v.bs∧v.Vw.ownBlock≠some v.bp∧v.Vx.ownBlock≠some v.bs∧v.Vx.ownBlock≠some v.bp:=
 ⟨q02 h.writes h.blk (by decide),q02 h.wants h.blk (by decide),h.shards.notBlk h.blk,h.places.notBlk h.blk,h.shards.notOwn h.writes,h.places.notOwn h.writes,h.shards.notOwn h.wants,h.places.notOwn h.wants⟩
theorem TxI.reblk (h:TxI w own i g v t) {t':Txn} {v':TxV} (hb:Blk w' g 78 (q28 v' i t')) (hf:Fr (fun k=>k=g) w w') (e1:v'.Vw=v.Vw) (e2:v'.bs=v.bs) (e3:v'.bp=v.bp) (e4:v'.Vx=v.Vx) (f1:t'.writes=t.writes) (f2:t'.shards=t.shards) (f3:t'.places=t.places) (f4:t'.wants=t.wants) :
  TxI w' own i g v' t':=by
 obtain⟨n1,n2,n3,n4,_⟩:=h.rows_ne
 refine⟨hb,?_,?_,?_,?_,by rw[e2,e3];exact h.ne,h.gt,by rw[e1];exact h.wt,by rw[e2];exact h.st,by rw[e3];exact h.pt,by rw[e4];exact h.xt⟩
 ·rw[e1,f1];exact hf.own h.writes (fun b hb e=>n1 (by rw[hb,e]))
 ·rw[e2,f2];exact h.shards.fr hf n3
 ·rw[e3,f3];exact h.places.fr hf n4
 ·rw[e4,f4];exact hf.own h.wants (fun b hb e=>n2 (by rw[hb,e]))
theorem TxI.setState (h:TxI w own i g v t) (s:Int):TxI (w.setCell ⟨g,1,none⟩ (.int .i64 s)) own i g v { t with state:=s }:=
 h.reblk (h.blk.set_ 1 _) (Fr.set1 g w 1 _) rfl rfl rfl rfl rfl rfl rfl rfl
theorem TxI.setTime (h:TxI w own i g v t) (s:Int):TxI (w.setCell ⟨g,5,none⟩ (.int .i64 s)) own i g v { t with time:=s }:=
 h.reblk (h.blk.set_ 5 _) (Fr.set1 g w 5 _) rfl rfl rfl rfl rfl rfl rfl rfl
theorem TxI.setWants (h:TxI w own i g v t) {V':Value} {l':List (Sx×Int)} (he:Ext own own' w.heap.size) (hf:Fr (fun k=>v.Vx.ownBlock=some k∨w.heap.size≤k) w w2) (hr:w2.ownsRow 0 129 2 V' l'.length (l'.flatMap q0r)) (hx:∀ b,V'.ownBlock=some b→own' b=some (.tx i)) :
  TxI (w2.setCell ⟨g,8,none⟩ V') own' i g { v with Vx:=V' } { t with wants:=l' }:=by
 obtain⟨n1,n2,n3,n4,n5,n6,n7,n8⟩:=h.rows_ne
 have hlt:∀ {b},b<w.heap.size→v.Vx.ownBlock≠some b→¬(v.Vx.ownBlock=some b∨w.heap.size≤b):=fun hb hn hs=>hs.elim hn (by omega)
 have hb2:Blk w2 g 78 (q28 v i t):=hf.blk h.blk (hlt h.blk.lt n2)
 have hset:=Fr.set1 g w2 8 V'
 refine⟨hb2.set_ 8 V',?_,?_,?_,hset.own hr (fun b hb e=>q02 hr hb2 (by decide) (by rw[hb,e])),h.ne,(he _ h.blk.lt).trans h.gt,fun b hb=>(he _ (h.writes.lt b hb).2).trans (h.wt b hb),h.st.imp (fun e=>(he _ h.shards.lt).trans e) (fun e=>(he _ h.shards.lt).trans e),(he _ h.places.lt).trans h.pt,hx⟩
 ·exact hset.own (hf.own h.writes (fun b hb=>hlt (h.writes.lt b hb).2 (fun e=>q0i h.writes h.wants (by decide) hb e))) (fun b hb e=>n1 (by rw[hb,e]))
 ·exact(h.shards.fr hf (hlt h.shards.lt n7)).fr hset n3
 ·exact(h.places.fr hf (hlt h.places.lt n8)).fr hset n4
theorem TxI.setWrites (h:TxI w own i g v t) {V':Value} {l':List Pr} (he:Ext own own' w.heap.size) (hf:Fr (fun k=>v.Vw.ownBlock=some k∨w.heap.size≤k) w w2) (hr:w2.ownsRow 0 45 3 V' l'.length (l'.flatMap q0g)) (hx:∀ b,V'.ownBlock=some b→own' b=some (.tx i)) :
  TxI (w2.setCell ⟨g,2,none⟩ V') own' i g { v with Vw:=V' } { t with writes:=l' }:=by
 obtain⟨n1,n2,n3,n4,n5,n6,n7,n8⟩:=h.rows_ne
 have hlt:∀ {b},b<w.heap.size→v.Vw.ownBlock≠some b→¬(v.Vw.ownBlock=some b∨w.heap.size≤b):=fun hb hn hs=>hs.elim hn (by omega)
 have hb2:Blk w2 g 78 (q28 v i t):=hf.blk h.blk (hlt h.blk.lt n1)
 have hset:=Fr.set1 g w2 2 V'
 refine⟨hb2.set_ 2 V',hset.own hr (fun b hb e=>q02 hr hb2 (by decide) (by rw[hb,e])),?_,?_,?_,h.ne,(he _ h.blk.lt).trans h.gt,hx,h.st.imp (fun e=>(he _ h.shards.lt).trans e) (fun e=>(he _ h.shards.lt).trans e),(he _ h.places.lt).trans h.pt,fun b hb=>(he _ (h.wants.lt b hb).2).trans (h.xt b hb)⟩
 ·exact(h.shards.fr hf (hlt h.shards.lt n5)).fr hset n3
 ·exact(h.places.fr hf (hlt h.places.lt n6)).fr hset n4
 ·exact hset.own (hf.own h.wants (fun b hb=>hlt (h.wants.lt b hb).2 (fun e=>q0i h.wants h.writes (by decide) hb e))) (fun b hb e=>n2 (by rw[hb,e]))
theorem TxI.putShards (h:TxI w own i g v t) {f':Int→Option Int} (hf:Fr (fun k=>k=v.bs) w w2) (hm:MapG q05 w2 v.bs 100 (inM f')):TxI w2 own i g v { t with shards:=f' }:=by
 obtain⟨n1,n2,n3,n4,n5,n6,n7,n8⟩:=h.rows_ne
 exact⟨hf.blk h.blk (fun e=>n3 e.symm),hf.own h.writes (fun b hb e=>n5 (by rw[hb,e])),hm,h.places.fr hf (fun e=>h.ne e.symm),hf.own h.wants (fun b hb e=>n7 (by rw[hb,e])),h.ne,h.gt,h.wt,h.st,h.pt,h.xt⟩
theorem TxI.putPlaces (h:TxI w own i g v t) {f':Int→Option Int} (hf:Fr (fun k=>k=v.bp) w w2) (hm:MapG q05 w2 v.bp 100 (inM f')):TxI w2 own i g v { t with places:=f' }:=by
 obtain⟨n1,n2,n3,n4,n5,n6,n7,n8⟩:=h.rows_ne
 exact⟨hf.blk h.blk (fun e=>n4 e.symm),hf.own h.writes (fun b hb e=>n6 (by rw[hb,e])),h.shards.fr hf h.ne,hm,hf.own h.wants (fun b hb e=>n8 (by rw[hb,e])),h.ne,h.gt,h.wt,h.st,h.pt,h.xt⟩
theorem q9z (f:Int→Option Int) (k e:Int):putM (inM f) k (some (.int .i64 e))=inM (setF f k e):=by
 funext j
 unfold putM inM setF
 split <;> rfl
theorem StI.recs {base k g off:Nat} {ty:TypeId} {cs cs':Array Value} {mb:Option Nat} {loc:Sx→Value} {K:Kp} {low:Int} {S:Nat→Prop} (h:StI w base k g off ty cs mb loc K low) (hf:Fr S w w') (hn:∀ b,SFoot mb loc K b→¬S b) (hb:Blk w' g ty cs') (h0:cs'[off]? = some (.map mb)) (h1:cs'[off+1]? = some (.int .i64 low)) :
  StI w' base k g off ty cs' mb loc K low:=
 ⟨hb,h0,h1,h.ne,h.map.fr hf (fun b hb=>hn b (.inl hb)),fun x hx=>(h.rows x hx).fr hf (fun b hb=>hn b (.inr ⟨x,hx,hb⟩)),h.apart,h.small,h.times,h.sorted,h.len,h.low0,h.lowm,h.mlo,h.lo⟩
theorem TabI.recs {base k g off:Nat} {ty:TypeId} {cs cs':Array Value} {mb:Option Nat} {loc:Sx→KLoc} {T:Tb} {S:Nat→Prop} (h:TabI w base k g off ty cs mb loc T) (hf:Fr S w w') (hn:∀ b,TFoot mb loc T b→¬S b) (hb:Blk w' g ty cs') (h0:cs'[off]? = some (.map mb)) :
  TabI w' base k g off ty cs' mb loc T:=
 ⟨hb,h0,h.map.fr hf (fun b hb=>hn b (.inl hb)),fun x k hx=>(h.keys x k hx).fr hf (fun b hb=>hn b (.inr ⟨x,by rw[hx];simp,hb⟩)),h.apart,h.small,h.ne,h.mlo,h.mdis,Nat.le_trans h.bg hf.size⟩
theorem ShI.reblk {n s g:Nat} {gn:Nat→Nat} {v:ShV} {x x':Shd} (h:ShI w own n s g gn v x) (hb:Blk w' g 105 (q13 v x')) (hf:Fr (fun k=>k=g) w w') (e1:x'.dead=x.dead) (e2:x'.tab=x.tab) (e3:x'.sto=x.sto):ShI w' own n s g gn v x':=by
 have hgt:=h.gt
 have n1:∀ b,TFoot v.mt v.loct x.tab b→¬b=g:=fun b hb e=>by have:=h.tabt b hb;rw[e,hgt] at this;cases this
 have n2:∀ b,SFoot v.ms v.locs x.sto b→¬b=g:=fun b hb e=>by have:=h.stot b hb;rw[e,hgt] at this;cases this
 have n3:¬v.bd=g:=fun e=>by have:=h.ddt;rw[e,hgt] at this;cases this
 have n4:∀ b,v.Vn.ownBlock=some b→¬b=g:=fun b hb e=>by have:=h.rowt b hb;rw[e,hgt] at this;cases this
 exact⟨hf.own h.row n4,h.rowt,by rw[e1];exact h.dd.fr hf n3,h.ddt,by rw[e2];exact h.tab.recs hf n1 hb rfl,by rw[e2];exact h.tabt,by rw[e3];exact h.sto.recs hf n2 hb rfl rfl,by rw[e3];exact h.stot,hgt⟩
theorem ShI.setDone {n s g:Nat} {gn:Nat→Nat} {v:ShV} {x:Shd} (h:ShI w own n s g gn v x) (d:Nat):ShI (w.setCell ⟨g,7,none⟩ (.int .i64 d)) own n s g gn v { x with done:=d }:=
 h.reblk (h.tab.blk.set_ 7 _) (Fr.set1 g w 7 _) rfl rfl rfl
end
def wnV (x:Sx×Int):Value:=.agg #[.string ⟨x.1.toArray⟩,.int .i64 x.2]
theorem nflat:∀ (l:List (Sx×Int)) (j:Nat) (x:Sx×Int),l[j]? = some x→∀ i,i<2→(l.flatMap q0r)[j*2+i]? = (q0r x)[i]?
 | [],j,p,h,i,hi=>by simp at h
 | q::l,0,p,h,i,hi=>by
  simp at h
  subst h
  rw[List.flatMap_cons,List.getElem?_append_left (by show _<2;omega)]
  simp
 | q::l,j+1,p,h,i,hi=>by
  have h':l[j]? = some p:=by simpa using h
  have e:(j+1)*2+i=(j*2+i)+2:=by omega
  have e3:(q0r q).length=2:=rfl
  rw[e,List.flatMap_cons,List.getElem?_append_right (by rw[e3];omega),e3,Nat.add_sub_cancel]
  exact nflat l j p h' i hi
def nCells (w:World) (g o:Nat) (x:Sx×Int):Prop:=w.cell? ⟨g,o,none⟩=some (.string ⟨x.1.toArray⟩)∧w.cell? ⟨g,o+1,none⟩=some (.int .i64 x.2)
theorem nat {w:World} {B n j:Nat} {A:Option Addr} {l:List (Sx×Int)} (h:Rd w B 2 A n (l.flatMap q0r)) (hl:l.length=n) (hj:j<n):∃ g off x,A=some ⟨g,off,none⟩∧g<B∧l[j]? = some x∧nCells w g (off+j*2) x:=by
 obtain⟨g,off,e,hb,hc⟩:=h.2 (by omega)
 have hx:l[j]? = some l[j]:=List.getElem?_eq_getElem (by omega)
 have hf:=nflat l j _ hx
 exact⟨g,off,l[j],e,hb,hx,hc (j*2) _ (hf 0 (by omega)),hc (j*2+1) _ (hf 1 (by omega))⟩
def nPred (F:Nat) (lb:Array Value) (p:Sx×Int→Bool) (g:Option Nat) (w:World):Prop:=
 ∀ (W:World) (x:Sx×Int),Fr (fun k=>g=some k) w W→Calls Tryz.prog F (#[wnV x]++lb) W fun e w'=>e=.returned (.bool (p x))∧Below W.heap.size W w'
def nIdx (p:Sx×Int→Bool) (L:List (Sx×Int)):Int:=match L.findIdx? p with|some i=>(i:Int)|none=>-1
theorem nIdx_any (p:Sx×Int→Bool) (L:List (Sx×Int)):decide (0≤nIdx p L)=L.any p:=by
 unfold nIdx
 rcases h:L.findIdx? p with _|i
 ·rw[List.findIdx?_eq_none_iff] at h
  have:L.any p=false:=by rw[List.any_eq_false];intro x hx;simp[h x hx]
  rw[this];rfl
 ·rw[List.findIdx?_eq_some_iff_getElem] at h
  obtain⟨hl,h1,_⟩:=h
  have:L.any p=true:=by rw[List.any_eq_true];exact⟨L[i],List.getElem_mem hl,h1⟩
  rw[this]
  simp
theorem nIdx_lo (p:Sx×Int→Bool) (L:List (Sx×Int)):-1≤nIdx p L∧nIdx p L≤L.length:=by
 unfold nIdx
 rcases h:L.findIdx? p with _|i
 ·simp only;omega
 ·rw[List.findIdx?_eq_some_iff_getElem] at h
  obtain⟨hl,h1,_⟩:=h
  simp only;omega
def nIRel (p:Sx×Int→Bool) (L:List (Sx×Int)) (n:Nat) (w:World) (v:Value) (wr:World):Prop:=∃ j:Nat,v=.int .i64 j∧j≤n∧(∀ x∈L.take j,p x=false)∧Below w.heap.size w wr
theorem nbfr {g:Option Nat} {w W:World} (hb:Below w.heap.size w W):Fr (fun k=>g=some k) w W:=⟨hb.os,hb.tape,hb.output,hb.size,fun k hk _=>hb.block k hk⟩
theorem q63 (F:Nat) (lb:Array Value) (p:Sx×Int→Bool) (gg:Option Nat) (A:Option Addr) (n k:Nat) (L:List (Sx×Int)) (w:World) (eg:∀ args w,(callFunc F args).run Tryz.prog w=.ok (.enter F args) w)
  (hp:nPred F lb p gg w) (hr:Rd w w.heap.size 2 A n (L.flatMap q0r)) (hl:L.length=n) (hn:n≤100000) :
  Calls Tryz.prog 84 #[.slice A n k,.func (.func F) #[] lb] w fun e w'=>e=.returned (.int .i64 (nIdx p L))∧Below w.heap.size w w':=by
 have HR:=LH hr;clear hr
 have HP:=LH hp;clear hp
 go_enter Tryz.func84,Tryz.ntmps84
 go_wp2_with fail
 go_loopw [8] (nIRel p L n w) (fun v _=>n-(intOf v).toNat)
 case atStart=>exact⟨0,rfl,Nat.zero_le _,(fun x hx=>by simp at hx),Below.refl _ _⟩
 case round=>
  obtain⟨j,rfl,hj,hno,hbw⟩:=hrel
  by_cases hlt:(j:Int)<n
  ·obtain⟨g',o',x,rfl,hga,hx,h0,h1⟩:=nat (HR.out.below hbw) hl (j:=j) (by omega)
   have hgw:g'<wr.heap.size:=Nat.lt_of_lt_of_le hga hbw.size
   have hcall:=HP.out wr x (nbfr hbw)
   have hjl:j<L.length:=by omega
   have hyes:p x=true→nIdx p L=j:=fun hp=>by
    have:L.findIdx? p=some j:=by
     rw[List.findIdx?_eq_some_iff_getElem]
     refine⟨hjl,?_,fun i hi=>?_⟩
     ·rw[← Option.some.inj ((List.getElem?_eq_getElem hjl).symm.trans hx)] at hp;exact hp
     ·simp only[Bool.not_eq_true]
      exact hno _ (by rw[List.mem_take_iff_getElem];exact⟨i,by omega,rfl⟩)
    unfold nIdx
    rw[this]
   have hstep:p x=false→∀ y∈L.take (j+1),p y=false:=fun hp y hy=>by
    rw[List.take_add_one,hx] at hy
    rcases List.mem_append.1 hy with hy|hy
    ·exact hno y hy
    ·simp at hy;rw[hy];exact hp
   have HYES:=LH hyes;clear hyes
   have HSTEP:=LH hstep;clear hstep
   have HNO:=LH hno;clear hno
   have HX:=LH hx;clear hx
   unfold wnV at hcall
   rcases hp:p x with _|_
   ·rw[hp] at hcall
    have HPX:=LH hp;clear hp
    have HC:=LH hcall;clear hcall
    go_wp2_with fail
    refine HC.out.mono ?_
    rintro e w2 ⟨rfl,hb2⟩
    clear HC
    have HB2:=LH (hbw.trans (hb2.mono hbw.size));clear hb2
    go_wp2_with fail
    go_roundw
    case rel=>exact⟨j+1,rfl,by omega,HSTEP.out HPX.out,HB2.out⟩
    case measure=>simp[intOf];omega
   ·rw[hp] at hcall
    have HPX:=LH hp;clear hp
    have HC:=LH hcall;clear hcall
    go_wp2_with fail
    refine HC.out.mono ?_
    rintro e w2 ⟨rfl,hb2⟩
    clear HC
    have HB2:=LH (hbw.trans (hb2.mono hbw.size));clear hb2
    go_wp2_with fail
    go_ret
    exact⟨by rw[HYES.out HPX.out];rfl,HB2.out⟩
  ·obtain rfl:j=n:=by omega
   have hnone:nIdx p L = -1:=by
    have:L.findIdx? p=none:=by
     rw[List.findIdx?_eq_none_iff]
     intro x hx
     exact hno x (by rw[List.take_of_length_le (by omega)];exact hx)
    unfold nIdx
    rw[this]
   have HN:=LH hnone;clear hnone hno
   go_wp2_with fail
   go_ret
   rw[HN.out]
   exact⟨rfl,hbw⟩
theorem q56 (F:Nat) (lb:Array Value) (p:Sx×Int→Bool) (gg:Option Nat) (A:Option Addr) (n k:Nat) (L:List (Sx×Int)) (w:World) (eg:∀ args w,(callFunc F args).run Tryz.prog w=.ok (.enter F args) w)
  (hp:nPred F lb p gg w) (hr:Rd w w.heap.size 2 A n (L.flatMap q0r)) (hl:L.length=n) (hn:n≤100000) :
  Calls Tryz.prog 62 #[.slice A n k,.func (.func F) #[] lb] w fun e w'=>e=.returned (.bool (L.any p))∧Below w.heap.size w w':=by
 have hix:=q63 F lb p gg A n k L w eg hp hr hl hn
 have ha:=nIdx_any p L
 have HIX:=LH hix;clear hix hp hr
 have HA:=LH ha;clear ha
 have hlo:=nIdx_lo p L
 generalize nIdx p L=z at *
 go_enter Tryz.func62,Tryz.ntmps62
 go_wp2_with fail
 refine HIX.out.mono ?_
 rintro e w2 ⟨rfl,hb2⟩
 go_wp2_with fail
 go_ret
 rw[← HA.out]
 exact⟨rfl,hb2⟩
def nfill (w:World) (g o:Nat) (x:Sx×Int):World:=(w.setCell ⟨g,o,none⟩ (.string ⟨x.1.toArray⟩)).setCell ⟨g,o+1,none⟩ (.int .i64 x.2)
theorem nfill_fr (w:World) (g o:Nat) (x:Sx×Int):Fr (fun i=>i=g) w (nfill w g o x):=
 ((Fr.refl (fun i=>i=g) w).setCell (p:=⟨g,o,none⟩) (.inl rfl) _).setCell (p:=⟨g,o+1,none⟩) (.inl rfl) _
theorem nset:∀ (M:List (Sx×Int)) (i:Nat) (x:Sx×Int),i<M.length→(((M.flatMap q0r).set (i*2) (.string ⟨x.1.toArray⟩)).set (i*2+1) (.int .i64 x.2))=(M.set i x).flatMap q0r
 | [],i,x,h=>by simp at h
 | y::M,0,x,_=>by simp[q0r]
 | y::M,i+1,x,h=>by
  have ih:=nset M i x (by simpa using h)
  have e0:(i+1)*2=i*2+2:=by omega
  rw[e0,List.set_cons_succ,List.flatMap_cons,List.flatMap_cons,← ih]
  simp[q0r,Nat.add_right_comm]
theorem nown_fill {w:World} {base g n cap i:Nat} {M:List (Sx×Int)} (h:w.ownsRow base 129 2 (.slice (some ⟨g,0,none⟩) n cap) n (M.flatMap q0r)) (x:Sx×Int) (hi:i<M.length) :
  (nfill w g (i*2) x).ownsRow base 129 2 (.slice (some ⟨g,0,none⟩) n cap) n ((M.set i x).flatMap q0r):=by
 rw[← nset M i x hi]
 exact((h.stored _ _).1.stored _ _).1
theorem ntake' (L:List (Sx×Int)) (i:Nat):(L.flatMap q0r).take (i*2)=(L.take i).flatMap q0r:=by
 induction L generalizing i with
 | nil=>simp
 | cons x L ih=>
  cases i with
  | zero=>simp
  | succ i=>rw[show(i+1)*2=i*2+2 by omega,List.flatMap_cons,List.take_succ_cons,List.flatMap_cons,← ih];simp[q0r]
def noff (p:Sx×Int→Bool) (L:List (Sx×Int)):List (Sx×Int):=L.filter fun x=>!p x
def nDRel (base gv n cap:Nat) (p:Sx×Int→Bool) (L:List (Sx×Int)) (w:World) (u v:Value) (wr:World):Prop:=
 ∃ (i j:Nat) (M:List (Sx×Int)),u=.int .i64 i∧v=.int .i64 j∧i<j∧j≤n∧M.length=n∧M.take i=noff p (L.take j)∧M.drop j=L.drop j∧wr.ownsRow base 129 2 (.slice (some ⟨gv,0,none⟩) n cap) n (M.flatMap q0r)∧Fr (fun k=>some gv=some k) w wr
def nDPost (base gv cap:Nat) (n:Nat) (l:List (Sx×Int)) (w:World) (e:Ending) (w':World):Prop:=
 e=.returned (.slice (some ⟨gv,0,none⟩) l.length cap)∧w'.ownsRow base 129 2 (.slice (some ⟨gv,0,none⟩) l.length cap) l.length (l.flatMap q0r)∧Fr (fun k=>some gv=some k) w w'∧l.length≤n
theorem q7o {p:Sx×Int→Bool} {L:List (Sx×Int)} {j:Nat} {x:Sx×Int} (h:L[j]? = some x):noff p (L.take (j+1))=if p x then noff p (L.take j) else noff p (L.take j)++[x]:=by
 unfold noff
 rw[List.take_add_one,h,List.filter_append]
 rcases hg:p x with _|_ <;> simp[hg]
theorem noff_first {p:Sx×Int→Bool} {L:List (Sx×Int)} {i:Nat} (h:nIdx p L=i):i<L.length∧L.take i=noff p (L.take (i+1)):=by
 unfold nIdx at h
 rcases hf:L.findIdx? p with _|j
 ·rw[hf] at h;simp only at h;omega
 ·rw[hf] at h
  have e:j=i:=by have h':(j:Int)=i:=h;omega
  subst e
  rw[List.findIdx?_eq_some_iff_getElem] at hf
  obtain⟨hl,h1,h2⟩:=hf
  refine⟨hl,?_⟩
  rw[q7o (List.getElem?_eq_getElem hl),if_pos h1]
  unfold noff
  rw[List.filter_eq_self.2]
  intro x hx
  obtain⟨k,hk,rfl⟩:=List.mem_take_iff_getElem.1 hx
  have:=h2 k (by omega)
  simpa using this
theorem noff_all {p:Sx×Int→Bool} {L:List (Sx×Int)} (h:nIdx p L = -1):noff p L=L:=by
 unfold nIdx at h
 rcases hf:L.findIdx? p with _|j
 ·unfold noff
  rw[List.filter_eq_self.2]
  intro x hx
  rw[List.findIdx?_eq_none_iff] at hf
  have:=hf x hx
  simpa using this
 ·rw[hf] at h;simp only at h;omega
theorem nIdx_cases (p:Sx×Int→Bool) (L:List (Sx×Int)):nIdx p L = -1∨∃ i:Nat,nIdx p L=i:=by
 unfold nIdx
 split
 ·exact .inr ⟨_,rfl⟩
 ·exact .inl rfl
theorem nzero (w:World):(zeroValue 129).run Tryz.prog w=.ok (.agg #[.string ⟨#[]⟩,.int .i64 0]) w:=by kernel_rfl
theorem nelem:Tryz.prog.elem 76=129:=by kernel_rfl
theorem nsize (w:World):(sizeOf 129).run Tryz.prog w=.ok 2 w:=by kernel_rfl
theorem nund:Tryz.prog.underlying 76=some (.slice 129):=Tryz.underlying76
theorem nfrB {B:Nat} {w w':World} (h:Below B w w'):Fr (fun k=>B≤k) w w':=⟨h.os,h.tape,h.output,h.size,fun k _ hn=>h.block k (by omega)⟩
theorem ndelete_some (F:Nat) (lb:Array Value) (p:Sx×Int→Bool) (base gv n cap:Nat) (L:List (Sx×Int)) (w:World) (eg:∀ args w,(callFunc F args).run Tryz.prog w=.ok (.enter F args) w) (hp:nPred F lb p (some gv) w)
  (hrow:w.ownsRow base 129 2 (.slice (some ⟨gv,0,none⟩) n cap) n (L.flatMap q0r)) (hl:L.length=n) (hn:n≤100000) :
  Calls Tryz.prog 98 #[.slice (some ⟨gv,0,none⟩) n cap,.func (.func F) #[] lb] w (nDPost base gv cap n (noff p L) w):=by
 have hix:=q63 F lb p (some gv) (some ⟨gv,0,none⟩) n cap L w eg hp (Rd.of_own hrow) hl hn
 have HIX:=LH hix;clear hix
 have HROW:=LH hrow;clear hrow
 have HPP:=LH hp;clear hp
 have HL:=LH hl;clear hl
 rcases nIdx_cases p L with hf|⟨i0,hf⟩
 ·rw[hf] at HIX
  go_enter Tryz.func98,Tryz.ntmps98
  go_wp2_with fail
  refine HIX.out.mono ?_
  rintro e w1 ⟨rfl,hb1⟩
  have hfin:nDPost base gv cap n (noff p L) w (.returned (.slice (some ⟨gv,0,none⟩) n cap)) w1:=by
   rw[noff_all hf]
   unfold nDPost
   rw[HL.out]
   exact⟨rfl,q0q HROW.out hb1,nbfr hb1,Nat.le_refl _⟩
  have HFIN:=LH hfin;clear hfin
  go_wp2_with fail
  go_ret
  exact HFIN.out
 ·rw[hf] at HIX
  obtain⟨hi0,hk0⟩:=noff_first hf
  have hi0:i0<n:=by have:=HL.out;omega
  have hne1:((i0:Int) == -1)=false:=by rw[beq_eq_false_iff_ne];omega
  go_enter Tryz.func98,Tryz.ntmps98
  go_wp2_with fail
  refine HIX.out.mono ?_
  rintro e w1 ⟨rfl,hb1⟩
  have hstart:nDRel base gv n cap p L w (.int .i64 i0) (.int .i64 ((i0:Int)+1)) w1:=⟨i0,i0+1,L,rfl,rfl,by omega,by omega,HL.out,hk0,rfl,q0q HROW.out hb1,nbfr hb1⟩
  have HST:=LH hstart;clear hstart
  clear hf hk0
  go_wp2_with fail
  clear hne1 hi0 hb1
  go_loopw [5,6] (nDRel base gv n cap p L w) (fun _ v _=>n-(intOf v).toNat)
  case atStart=>exact HST.out
  case round=>
   obtain⟨i,j,M,rfl,rfl,hij,hj,hM,hMt,hMd,hrow,hfr⟩:=hrel
   by_cases hlt:(j:Int)<n
   ·have hx:M[j]? = L[j]?:=by
     have:=congrArg (fun l=>l[0]?) hMd
     simpa using this
    obtain⟨g',o',x,hA,hga,hxM,h0,h1⟩:=nat (Rd.of_own hrow) hM (j:=j) (by omega)
    simp only[Option.some.injEq,Addr.mk.injEq,and_true] at hA
    obtain⟨rfl,rfl⟩:=hA
    rw[Nat.zero_add] at h0 h1
    have hxL:L[j]? = some x:=hx▸hxM
    have hw1:Fr (fun _=>False) wr (wr.alloc (.cells #[.string ⟨x.1.toArray⟩,.int .i64 x.2] 129)):=(Fr.refl _ _).alloc _
    have hcall:=HPP.out (wr.alloc (.cells #[.string ⟨x.1.toArray⟩,.int .i64 x.2] 129)) x (hfr.trans' hw1 (fun _ _ h=>h.elim))
    unfold wnV at hcall
    have hB1:Blk (wr.alloc (.cells #[.string ⟨x.1.toArray⟩,.int .i64 x.2] 129)) wr.heap.size 129 #[.string ⟨x.1.toArray⟩,.int .i64 x.2]:=Blk.new wr _ _
    have hrow1:=hw1.own hrow (fun _ _ h=>h)
    have HC:=LH hcall;clear hcall
    have HB1:=LH hB1;clear hB1
    have HR1:=LH hrow1;clear hrow1
    have HFR:=LH (hfr.trans' hw1 (fun _ _ h=>h.elim));clear hfr hw1
    have HMT:=LH hMt;clear hMt
    have HMD:=LH hMd;clear hMd
    have HXL:=LH hxL;clear hxL hx hxM
    have HM:=LH hM;clear hM
    go_wp2_with fail
    refine HC.out.mono ?_
    rintro e w2 ⟨rfl,hb2⟩
    have hf2:Fr (fun k=>some gv=some k) w w2:=HFR.out.trans' (nfrB hb2) (fun i hi (h:_≤i)=>by have:=HFR.out.size;simp at h this;omega)
    have hrow2:=q0q HR1.out hb2
    have hB2:Blk w2 wr.heap.size 129 #[.string ⟨x.1.toArray⟩,.int .i64 x.2]:=HB1.out.below hb2 HB1.out.lt
    have HF2:=LH hf2;clear hf2
    rcases hp:p x with _|_
    ·have hxk:=q7o (p:=p) HXL.out
     rw[hp,if_neg (by simp)] at hxk
     have hiM:i<M.length:=by rw[HM.out];omega
     have q0:=hB2.cell 0
     have q1:=hB2.cell 1
     simp only[List.getElem?_toArray,List.getElem?_cons_succ,List.getElem?_cons_zero] at q0 q1
     obtain⟨g',o',y,hA,_,_,p0,p1⟩:=nat (Rd.of_own hrow2) HM.out (j:=i) (by omega)
     simp only[Option.some.injEq,Addr.mk.injEq,and_true] at hA
     obtain⟨rfl,rfl⟩:=hA
     rw[Nat.zero_add] at p0 p1
     have f0:=hrow2.frozenAt (i*2)
     have f1:=hrow2.frozenAt (i*2+1)
     have hgv:gv<w2.heap.size:=(hrow2.lt gv rfl).2
     have hnew:=nown_fill hrow2 x hiM
     have hrel2:nDRel base gv n cap p L w (.int .i64 ((i:Int)+1)) (.int .i64 ((j:Int)+1)) (nfill w2 gv (i*2) x):=by
      refine⟨i+1,j+1,M.set i x,rfl,rfl,by omega,by omega,by rw[List.length_set];exact HM.out,?_,?_,hnew,HF2.out.trans ((nfill_fr w2 gv (i*2) x).mono (fun i _ (e:i=gv)=>by rw[e]))⟩
      ·rw[hxk,← HMT.out,List.take_add_one,List.take_set,List.getElem?_set_self hiM,List.set_eq_of_length_le (by rw[List.length_take];omega)]
       simp
      ·rw[List.drop_set_of_lt (by omega),← List.drop_drop,HMD.out,List.drop_drop]
     have HREL:=LH hrel2;clear hrel2 hnew hxk hiM
     have HP:=LH hp;clear hp
     have HR2:=LH hrow2;clear hrow2
     clear hB2 h0 h1
     unfold nfill at HREL
     go_wp2_with fail
     go_roundw
     case rel=>exact HREL.out
     case measure=>simp[intOf];omega
    ·have hxk:=q7o (p:=p) HXL.out
     rw[hp,if_pos rfl] at hxk
     have hrel2:nDRel base gv n cap p L w (.int .i64 i) (.int .i64 ((j:Int)+1)) w2:=
      ⟨i,j+1,M,rfl,rfl,by omega,by omega,HM.out,by rw[HMT.out,hxk],by rw[← List.drop_drop,HMD.out,List.drop_drop],hrow2,HF2.out⟩
     have HREL:=LH hrel2;clear hrel2 hxk hrow2
     have HP:=LH hp;clear hp hB2 h0 h1
     go_wp2_with fail
     go_roundw
     case rel=>exact HREL.out
     case measure=>simp[intOf];omega
   ·obtain rfl:j=n:=by omega
    have hcap:=(q2u hrow).1
    have hall:L.take j=L:=List.take_of_length_le (by have:=HL.out;omega)
    rw[hall] at hMt
    have hkl:(noff p L).length=i:=by rw[← hMt,List.length_take];omega
    have hpre:=q3m hrow (i:=i) (by omega)
    rw[ntake',hMt] at hpre
    obtain⟨w2,hcl,hrow2,hf2⟩:=q3w 76 (.agg #[.string ⟨#[]⟩,.int .i64 0]) nund nzero (by rfl) (by decide) hpre (m:=j-i) (c:=cap-i) (by omega)
    have s1:=q3u (size:=2) 76 (by rw[nelem];exact nund) (fun W=>by rw[nelem];exact nsize W) wr gv j cap i (i:Int) rfl (by omega)
    have s2:=q2x 76 nund nelem nsize w2 gv j cap i (i:Int) rfl (by omega)
    have hfin:nDPost base gv cap j (noff p L) w (.returned (.slice (some ⟨gv,0,none⟩) i cap)) w2:=by
     unfold nDPost
     rw[hkl]
     exact⟨rfl,hrow2,hfr.trans (hf2.mono (fun i _ (e:i=gv)=>by rw[e])),by omega⟩
    have HFIN:=LH hfin;clear hfin hrow2 hf2 hpre hrow hMt hMd hM hfr hkl hall
    go_wp2_with fail
    go_ret
    exact HFIN.out
theorem ndelete_nil (F:Nat) (lb:Array Value) (p:Sx×Int→Bool) (w:World) (eg:∀ args w,(callFunc F args).run Tryz.prog w=.ok (.enter F args) w) (hp:nPred F lb p none w) :
  Calls Tryz.prog 98 #[.slice none 0 0,.func (.func F) #[] lb] w fun e w'=>e=.returned (.slice none 0 0)∧Below w.heap.size w w':=by
 have hix:=q63 F lb p none none 0 0 [] w eg hp (Rd.none_ _ _ _ _) rfl (by omega)
 rw[show nIdx p [] = -1 from rfl] at hix
 have HIX:=LH hix;clear hix
 go_enter Tryz.func98,Tryz.ntmps98
 go_wp2_with fail
 refine HIX.out.mono ?_
 rintro e w1 ⟨rfl,hb1⟩
 have HB:=LH hb1;clear hb1
 go_wp2_with fail
 go_ret
 exact⟨rfl,HB.out⟩
theorem ndelete_any (F:Nat) (lb:Array Value) (p:Sx×Int→Bool) (base n:Nat) (V:Value) (L:List (Sx×Int)) (w:World) (eg:∀ args w,(callFunc F args).run Tryz.prog w=.ok (.enter F args) w) (hp:nPred F lb p V.ownBlock w)
  (hrow:w.ownsRow base 129 2 V n (L.flatMap q0r)) (hl:L.length=n) (hn:n≤100000) :
  Calls Tryz.prog 98 #[V,.func (.func F) #[] lb] w fun e w'=>
   ∃ A c,e=.returned (.slice A (noff p L).length c)∧w'.ownsRow base 129 2 (.slice A (noff p L).length c) (noff p L).length ((noff p L).flatMap q0r)∧Fr (fun k=>V.ownBlock=some k) w w'∧(Value.slice A (noff p L).length c).ownBlock=V.ownBlock:=by
 rcases hrow.2 with ⟨rfl,h0⟩|⟨g,cap,cur,rfl,_⟩
 ·have e:L=[]:=List.eq_nil_of_length_eq_zero (by omega)
  subst e
  refine(ndelete_nil F lb p w eg hp).mono ?_
  rintro e w' ⟨rfl,hb1⟩
  exact⟨none,0,rfl,World.ownsRow_nil _ _ _ _,nbfr hb1,rfl⟩
 ·refine(ndelete_some F lb p base g n cap L w eg hp hrow hl hn).mono ?_
  rintro e w' ⟨rfl,hr,hf,_⟩
  exact⟨some ⟨g,0,none⟩,cap,rfl,hr,hf.mono (fun i _ h=>h),rfl⟩
def crV (x:CmR):Value:=.agg #[.int .i64 x.c.kind,.int .i64 x.c.tx,.int .i64 x.c.time,.slice x.A x.n x.k]
theorem mflat:∀ (l:List (CmR)) (j:Nat) (x:CmR),l[j]? = some x→∀ i,i<4→(l.flatMap q0m)[j*4+i]? = (q0m x)[i]?
 | [],j,p,h,i,hi=>by simp at h
 | q::l,0,p,h,i,hi=>by
  simp at h
  subst h
  rw[List.flatMap_cons,List.getElem?_append_left (by show _<4;omega)]
  simp
 | q::l,j+1,p,h,i,hi=>by
  have h':l[j]? = some p:=by simpa using h
  have e:(j+1)*4+i=(j*4+i)+4:=by omega
  have e3:(q0m q).length=4:=rfl
  rw[e,List.flatMap_cons,List.getElem?_append_right (by rw[e3];omega),e3,Nat.add_sub_cancel]
  exact mflat l j p h' i hi
def mCells (w:World) (g o:Nat) (x:CmR):Prop:=w.cell? ⟨g,o,none⟩=some (.int .i64 x.c.kind)∧w.cell? ⟨g,o+1,none⟩=some (.int .i64 x.c.tx)∧w.cell? ⟨g,o+2,none⟩=some (.int .i64 x.c.time)∧w.cell? ⟨g,o+3,none⟩=some (.slice x.A x.n x.k)
theorem mat {w:World} {B n j:Nat} {A:Option Addr} {l:List (CmR)} (h:Rd w B 4 A n (l.flatMap q0m)) (hl:l.length=n) (hj:j<n):∃ g off x,A=some ⟨g,off,none⟩∧g<B∧l[j]? = some x∧mCells w g (off+j*4) x:=by
 obtain⟨g,off,e,hb,hc⟩:=h.2 (by omega)
 have hx:l[j]? = some l[j]:=List.getElem?_eq_getElem (by omega)
 have hf:=mflat l j _ hx
 exact⟨g,off,l[j],e,hb,hx,hc (j*4) _ (hf 0 (by omega)),hc (j*4+1) _ (hf 1 (by omega)),hc (j*4+2) _ (hf 2 (by omega)),hc (j*4+3) _ (hf 3 (by omega))⟩
def mPred (F:Nat) (lb:Array Value) (p:CmR→Bool) (g:Option Nat) (w:World):Prop:=
 ∀ (W:World) (x:CmR),Fr (fun k=>g=some k) w W→Calls Tryz.prog F (#[crV x]++lb) W fun e w'=>e=.returned (.bool (p x))∧Below W.heap.size W w'
def mIdx (p:CmR→Bool) (L:List (CmR)):Int:=match L.findIdx? p with|some i=>(i:Int)|none=>-1
def mIRel (p:CmR→Bool) (L:List (CmR)) (n:Nat) (w:World) (v:Value) (wr:World):Prop:=∃ j:Nat,v=.int .i64 j∧j≤n∧(∀ x∈L.take j,p x=false)∧Below w.heap.size w wr
theorem mbfr {g:Option Nat} {w W:World} (hb:Below w.heap.size w W):Fr (fun k=>g=some k) w W:=⟨hb.os,hb.tape,hb.output,hb.size,fun k hk _=>hb.block k hk⟩
theorem mindex_any (F:Nat) (lb:Array Value) (p:CmR→Bool) (gg:Option Nat) (A:Option Addr) (n k:Nat) (L:List (CmR)) (w:World) (eg:∀ args w,(callFunc F args).run Tryz.prog w=.ok (.enter F args) w)
  (hp:mPred F lb p gg w) (hr:Rd w w.heap.size 4 A n (L.flatMap q0m)) (hl:L.length=n) (hn:n≤100000) :
  Calls Tryz.prog 118 #[.slice A n k,.func (.func F) #[] lb] w fun e w'=>e=.returned (.int .i64 (mIdx p L))∧Below w.heap.size w w':=by
 have HR:=LH hr;clear hr
 have HP:=LH hp;clear hp
 go_enter Tryz.func118,Tryz.ntmps118
 go_wp2_with fail
 go_loopw [8] (mIRel p L n w) (fun v _=>n-(intOf v).toNat)
 case atStart=>exact⟨0,rfl,Nat.zero_le _,(fun x hx=>by simp at hx),Below.refl _ _⟩
 case round=>
  obtain⟨j,rfl,hj,hno,hbw⟩:=hrel
  by_cases hlt:(j:Int)<n
  ·obtain⟨g',o',x,rfl,hga,hx,h0,h1,h2,h3⟩:=mat (HR.out.below hbw) hl (j:=j) (by omega)
   have hgw:g'<wr.heap.size:=Nat.lt_of_lt_of_le hga hbw.size
   have hcall:=HP.out wr x (mbfr hbw)
   have hjl:j<L.length:=by omega
   have hyes:p x=true→mIdx p L=j:=fun hp=>by
    have:L.findIdx? p=some j:=by
     rw[List.findIdx?_eq_some_iff_getElem]
     refine⟨hjl,?_,fun i hi=>?_⟩
     ·rw[← Option.some.inj ((List.getElem?_eq_getElem hjl).symm.trans hx)] at hp;exact hp
     ·simp only[Bool.not_eq_true]
      exact hno _ (by rw[List.mem_take_iff_getElem];exact⟨i,by omega,rfl⟩)
    unfold mIdx
    rw[this]
   have hstep:p x=false→∀ y∈L.take (j+1),p y=false:=fun hp y hy=>by
    rw[List.take_add_one,hx] at hy
    rcases List.mem_append.1 hy with hy|hy
    ·exact hno y hy
    ·simp at hy;rw[hy];exact hp
   have HYES:=LH hyes;clear hyes
   have HSTEP:=LH hstep;clear hstep
   have HNO:=LH hno;clear hno
   have HX:=LH hx;clear hx
   unfold crV at hcall
   rcases hp:p x with _|_
   ·rw[hp] at hcall
    have HPX:=LH hp;clear hp
    have HC:=LH hcall;clear hcall
    go_wp2_with fail
    refine HC.out.mono ?_
    rintro e w2 ⟨rfl,hb2⟩
    clear HC
    have HB2:=LH (hbw.trans (hb2.mono hbw.size));clear hb2
    go_wp2_with fail
    go_roundw
    case rel=>exact⟨j+1,rfl,by omega,HSTEP.out HPX.out,HB2.out⟩
    case measure=>simp[intOf];omega
   ·rw[hp] at hcall
    have HPX:=LH hp;clear hp
    have HC:=LH hcall;clear hcall
    go_wp2_with fail
    refine HC.out.mono ?_
    rintro e w2 ⟨rfl,hb2⟩
    clear HC
    have HB2:=LH (hbw.trans (hb2.mono hbw.size));clear hb2
    go_wp2_with fail
    go_ret
    exact⟨by rw[HYES.out HPX.out];rfl,HB2.out⟩
  ·obtain rfl:j=n:=by omega
   have hnone:mIdx p L = -1:=by
    have:L.findIdx? p=none:=by
     rw[List.findIdx?_eq_none_iff]
     intro x hx
     exact hno x (by rw[List.take_of_length_le (by omega)];exact hx)
    unfold mIdx
    rw[this]
   have HN:=LH hnone;clear hnone hno
   go_wp2_with fail
   go_ret
   rw[HN.out]
   exact⟨rfl,hbw⟩
def q7j (l:List Cm) (kind id:Int):Int:=match place l kind id with|some i=>(i:Int)|none=>-1
theorem q84 {α β:Type} (f:α→β) (p:β→Bool):∀ L:List α,(L.map f).findIdx? p=L.findIdx? fun x=>p (f x)
 | []=>rfl
 | x::L=>by rw[List.map_cons,List.findIdx?_cons,List.findIdx?_cons,q84 f p L]
theorem mIdx_place (L:List CmR) (kind id:Int):mIdx (fun x=>isCm kind id x.c) L=q7j (csOf L) kind id:=by
 unfold mIdx q7j place csOf
 rw[q84]
 all_goals (cases List.findIdx? (fun x:CmR=>isCm kind id x.c) L <;> rfl)
theorem place1_any (c1 c2:Nat) (kind id:Int) (g:Option Nat) (w:World) (h1:w.cell? ⟨c1,0,none⟩=some (.int .i64 kind)) (h2:w.cell? ⟨c2,0,none⟩=some (.int .i64 id)) (hg:g≠some c1∧g≠some c2) :
  mPred 119 #[.pointer (some ⟨c1,0,none⟩),.pointer (some ⟨c2,0,none⟩)] (fun x=>isCm kind id x.c) g w:=by
 intro W x hW
 have hl1:=World.block_lt_of_cell? w _ h1
 have hl2:=World.block_lt_of_cell? w _ h2
 have k1:=(hW.cell (p:=⟨c1,0,none⟩) hl1 (fun e=>hg.1 e)).trans h1
 have k2:=(hW.cell (p:=⟨c2,0,none⟩) hl2 (fun e=>hg.2 e)).trans h2
 have l1:c1<W.heap.size:=Nat.lt_of_lt_of_le hl1 hW.size
 have l2:c2<W.heap.size:=Nat.lt_of_lt_of_le hl2 hW.size
 have HBL:=LH (fun o=>(Below.refl W.heap.size W).alloc (Nat.le_refl _) o)
 clear h1 h2 hl1 hl2 hW hg
 unfold crV isCm
 by_cases e1:x.c.kind=kind
 ·have d1:(x.c.kind == kind)=true:=by simpa using e1
  show Calls _ _ #[_,_,_] _ fun e w'=>e=.returned (.bool (x.c.kind == kind && x.c.tx == id))∧Below W.heap.size W w'
  rw[d1,Bool.true_and]
  clear e1
  go_enter Tryz.func119,Tryz.ntmps119
  go_wp2_with fail
  go_ret
  exact⟨rfl,HBL.out _⟩
 ·have d1:(x.c.kind == kind)=false:=by simpa using e1
  show Calls _ _ #[_,_,_] _ fun e w'=>e=.returned (.bool (x.c.kind == kind && x.c.tx == id))∧Below W.heap.size W w'
  rw[d1,Bool.false_and]
  clear e1
  go_enter Tryz.func119,Tryz.ntmps119
  go_wp2_with fail
  go_ret
  exact⟨rfl,HBL.out _⟩
theorem q54 (base n:Nat) (V:Value) (L:List CmR) (kind id:Int) (w:World) (hrow:w.ownsRow base 69 4 V n (L.flatMap q0m)) (hl:L.length=n) (hn:n≤100000) :
  Calls Tryz.prog 93 #[V,.int .i64 kind,.int .i64 id] w fun e w'=>e=.returned (.int .i64 (q7j (csOf L) kind id))∧Below w.heap.size w w':=by
 have hb2:Below w.heap.size w ((w.alloc (.cells #[.int .i64 kind] 3)).alloc (.cells #[.int .i64 id] 3)):=((Below.refl _ _).alloc (Nat.le_refl _) _).alloc (by simp) _
 have q1:((w.alloc (.cells #[.int .i64 kind] 3)).alloc (.cells #[.int .i64 id] 3)).cell? ⟨w.heap.size,0,none⟩=some (.int .i64 kind):=(((Blk.new w 3 #[.int .i64 kind]).alloc _).cell 0)
 have q2:((w.alloc (.cells #[.int .i64 kind] 3)).alloc (.cells #[.int .i64 id] 3)).cell? ⟨w.heap.size+1,0,none⟩=some (.int .i64 id):=by
  simp
 have hrow2:=q0q hrow hb2
 obtain⟨A,c,rfl,_,hA⟩:=q01 hrow
 have hix:=mindex_any 119 #[.pointer (some ⟨w.heap.size,0,none⟩),.pointer (some ⟨w.heap.size+1,0,none⟩)] (fun x=>isCm kind id x.c) none A n c L _ (q1y Tryz.func119 (by kernel_rfl) rfl) (place1_any w.heap.size (w.heap.size+1) kind id none _ q1 q2 ⟨by simp,by simp⟩) (Rd.of_own hrow2) hl hn
 rw[mIdx_place] at hix
 have HIX:=LH hix;clear hix
 have HB:=LH hb2;clear hb2
 clear q1 q2 hrow hrow2 hA
 go_enter Tryz.func93,Tryz.ntmps93
 go_wp2_with fail
 refine HIX.out.mono ?_
 rintro e w2 ⟨rfl,hb⟩
 have HB2:=LH (HB.out.trans (hb.mono HB.out.size));clear hb
 go_wp2_with fail
 go_ret
 exact⟨rfl,HB2.out⟩
section
variable {w w':World} {own own':Own} {P:Ptr} {H:Hs}
theorem TxI.cells {i g:Nat} {v:TxV} {t:Txn} (h:TxI w own i g v t):w.cell? ⟨g,0,none⟩=some (.int .i64 i)∧w.cell? ⟨g,1,none⟩=some (.int .i64 t.state)∧w.cell? ⟨g,2,none⟩=some v.Vw∧w.cell? ⟨g,3,none⟩=some (.map (some v.bs))∧w.cell? ⟨g,4,none⟩=some (.map (some v.bp))∧w.cell? ⟨g,5,none⟩=some (.int .i64 t.time)∧w.cell? ⟨g,8,none⟩=some v.Vx∧g<w.heap.size:=by
 have c0:=h.blk.cell 0
 have c1:=h.blk.cell 1
 have c2:=h.blk.cell 2
 have c3:=h.blk.cell 3
 have c4:=h.blk.cell 4
 have c5:=h.blk.cell 5
 have c8:=h.blk.cell 8
 unfold q28 at c0 c1 c2 c3 c4 c5 c8
 simp only[List.getElem?_toArray,List.getElem?_cons_zero,List.getElem?_cons_succ] at c0 c1 c2 c3 c4 c5 c8
 exact⟨c0,c1,c2,c3,c4,c5,c8,h.blk.lt⟩
theorem ShI.cells {n s g:Nat} {gn:Nat→Nat} {v:ShV} {x:Shd} (h:ShI w own n s g gn v x):w.cell? ⟨g,0,none⟩=some v.Vn∧w.cell? ⟨g,1,none⟩=some (.map (some v.bd))∧w.cell? ⟨g,2,none⟩=some (.int .i64 x.epoch)∧w.cell? ⟨g,3,none⟩=some (.int .i64 x.size)∧w.cell? ⟨g,7,none⟩=some (.int .i64 x.done)∧g<w.heap.size:=by
 have c0:=h.tab.blk.cell 0
 have c1:=h.tab.blk.cell 1
 have c2:=h.tab.blk.cell 2
 have c3:=h.tab.blk.cell 3
 have c7:=h.tab.blk.cell 7
 unfold q13 at c0 c1 c2 c3 c7
 simp only[List.getElem?_toArray,List.getElem?_cons_zero,List.getElem?_cons_succ] at c0 c1 c2 c3 c7
 exact⟨c0,c1,c2,c3,c7,h.tab.blk.lt⟩
theorem stateH (H:Hs) (id:Int):H.state id=if id<1∨H.m<id then 0 else(H.tx id.toNat).state:=rfl
theorem q51 (h:HI w own P H) (hm:H.m≤1000) (id:Int):Calls Tryz.prog 11 #[pw P.g,.int .i64 id] w fun e w'=>e=.returned (.int .i64 (H.state id))∧w=w':=by
 have HF:=LH (q3o h hm id)
 unfold findV at HF
 rw[stateH]
 by_cases b:id<1∨(H.m:Int)<id
 ·rw[if_pos b] at HF ⊢
  clear h b
  unfold pw at *
  go_enter Tryz.func11,Tryz.ntmps11
  go_wp2_with fail
  refine HF.out.mono ?_
  rintro e w2 ⟨rfl,rfl⟩
  go_wp2_with fail
  go_ret
  exact⟨rfl,rfl⟩
 ·rw[if_neg b] at HF ⊢
  obtain⟨v,hv⟩:=h.tx id.toNat (by omega) (by omega)
  obtain⟨_,c1,_,_,_,_,_,gl⟩:=hv.cells
  clear h b hv
  unfold pw at *
  go_enter Tryz.func11,Tryz.ntmps11
  go_wp2_with fail
  refine HF.out.mono ?_
  rintro e w2 ⟨rfl,rfl⟩
  go_wp2_with fail
  go_ret
  exact⟨rfl,rfl⟩
theorem q5e (h:HI w own P H):Calls Tryz.prog 27 #[pw P.g] w fun e w'=>e=.returned (.int .i64 H.net.l.length)∧w=w':=by
 obtain⟨v,h⟩:=h.hs
 have HM:=LH (many_any _ _ _ _ _ _ _ _ _ _ _ _ h.nt)
 have hl:H.net.l.length=v.L.length:=by rw[← h.msgs];simp[msOf]
 rw[hl]
 have gl:=h.nt.blk.lt
 clear h hl
 unfold pw
 go_enter Tryz.func27,Tryz.ntmps27
 go_wp2_with fail
 refine HM.out.mono ?_
 rintro e w2 ⟨rfl,rfl⟩
 go_wp2_with fail
 go_ret
 exact⟨rfl,rfl⟩
end
theorem pnd_info:(Tryz.prog.info? 108).map (fun i=>(i.zero,i.size,i.bytes))=some (some (.pointer none),1,8):=by kernel_rfl
def LiveP (P:Ptr) (n s:Nat) (x:Shd) (w:World) (e:Ending) (w':World):Prop:=∃ V,e=.returned V∧w'.ownsRow w.heap.size 108 1 V (x.liveIx n).length ((x.liveIx n).map fun j=>pw (P.gn s j))∧Below w.heap.size w w'
def LvRel (P:Ptr) (n s:Nat) (x:Shd) (w:World) (v3 v11:Value) (wr:World):Prop:=∃ i:Nat,v11=.int .i64 i∧i≤n∧wr.ownsRow w.heap.size 108 1 v3 (x.liveIx i).length ((x.liveIx i).map fun j=>pw (P.gn s j))∧Below w.heap.size w wr
theorem liveIx_succ (x:Shd) (i:Nat):x.liveIx (i+1)=if x.dead (x.nd i).id then x.liveIx i else x.liveIx i++[i]:=by
 unfold Shd.liveIx
 rw[List.range_succ,List.filter_append]
 cases h:x.dead (x.nd i).id <;> simp[h]
theorem q1r (x:Shd) (i:Nat):(x.liveIx i).length≤i:=by unfold Shd.liveIx;exact Nat.le_trans (List.length_filter_le _ _) (by simp)
section
variable {w w':World} {own own':Own} {P:Ptr} {H:Hs}
theorem live_any {s:Nat} (h:HI w own P H) (hs:s<H.c) (hn:H.n≤100) (hid:∀ j,j<H.n→okI ((H.sh s).nd j).id) :
  Calls Tryz.prog 43 #[pw (P.gs s)] w (LiveP P H.n s (H.sh s) w):=by
 obtain⟨v,hv⟩:=h.sh s hs
 obtain⟨c0,_,_,_,_,gl⟩:=hv.cells
 obtain⟨A,c,hV,_,_⟩:=q01 hv.row
 rw[hV] at c0
 have HR:=LH (Rd.of_own (hV▸hv.row));clear hV
 have HH:=LH h
 have HSI:=LH hv
 have HID:=LH hid
 clear h hv hid
 unfold pw at *
 go_enter Tryz.func43,Tryz.ntmps43
 go_wp2_with fail
 go_loopw [3,11] (LvRel P H.n s (H.sh s) w) (fun _ u _=>H.n-(intOf u).toNat)
 case atStart=>exact⟨0,rfl,Nat.zero_le _,World.ownsRow_nil _ _ _ _,Below.refl _ _⟩
 case round=>
  obtain⟨i,rfl,hi,hown,hb⟩:=hrel
  by_cases hlt:(i:Int)<H.n
  ·have hin:i<H.n:=by omega
   obtain⟨r,o,u,hA,hr,hu,hc⟩:=(HR.out.below hb).at1 (k:=i) hin
   rw[List.getElem?_map,List.getElem?_range hin] at hu
   simp only[Option.map_some,Option.some.injEq] at hu
   subst hu hA
   have hrw:r<wr.heap.size:=Nat.lt_of_lt_of_le hr hb.size
   have hHr:=HH.out.below hb
   obtain⟨C,V,L,hN,_⟩:=hHr.nd s i hs hin
   have HQ:=LH (fun q=>(id_any (hN.tall (q08 (Below.refl wr.heap.size wr) q))).mono fun e w' (h:e=_∧wr.drewN q=w')=>(⟨h.1,h.2.symm⟩:e=.returned (.int .i64 ((H.sh s).nd i).id)∧w'=wr.drewN q))
   have k1:=hHr.sh s hs
   have hvr:=HSI.out.keep (q4g own hb) (Ext.refl own w.heap.size) (fun _ _ h=>h)
   obtain⟨_,k1,_,_,_,glr⟩:=hvr.cells
   have hlk:=fun q=>(show DeadM (wr.drewN q) 100 (some v.bd) (H.sh s).dead from hvr.dd).look (HID.out i hin)
   have hsucc:=liveIx_succ (H.sh s) i
   have hll:=q1r (H.sh s) i
   have HB:=LH hb;clear hb
   have HO:=LH hown;clear hown
   have HSU:=LH hsucc;clear hsucc
   clear hHr hvr hN
   go_upto_region 5 with (fail)
   go_quiet ((go_at_call 74;exact Calls.quiet_of_same (HQ.out _)))
   generalize hw5:wr.drewN _=w5
   have hb5:Below wr.heap.size wr w5:=hw5▸q08 (Below.refl _ _) _
   have hO5:=q0q HO.out hb5
   have hB5:=HB.out.trans (hb5.mono HB.out.size)
   have HO5:=LH hO5;clear hO5
   have HB5:=LH hB5;clear hB5 hb5 hw5 hlk k1 HQ HO HB
   rcases hd:(H.sh s).dead ((H.sh s).nd i).id with _|_
   ·rw[hd] at HSU
    have hlen:=hll
    go_wp2_with (at_builtin;refine stop ?_)
    refine back ?_
    refine q0h w5 _ rfl (.tmp 23) (.tmp 25) 97 rfl w.heap.size 108 (.pointer none) 1 8 Tryz.underlying97 pnd_info rfl (by decide) _ _ _ #[.pointer (some ⟨P.gn s i,0,none⟩)] rfl HO5.out 1 rfl _ rfl rfl (by simp[Value.oneCell']) (by unfold maxLen;omega) (by omega) HB5.out.size ?_
    intro v' w9 hr9 hm9
    have hrel9:LvRel P H.n s (H.sh s) w v' (.int .i64 ((i+1:Nat):Int)) w9:=by
     refine⟨i+1,rfl,by omega,?_,HB5.out.trans (hm9.below (fun b hb=>(HO5.out.lt b hb).1) HB5.out.size)⟩
     rw[HSU.out,if_neg (by simp),List.length_append,List.map_append]
     exact hr9
    have HR9:=LH hrel9;clear hrel9 hr9 hm9
    go_wp2_with fail
    go_roundw
    case rel=>exact HR9.out
    case measure=>simp[intOf];omega
   ·rw[hd] at HSU
    have hrel9:LvRel P H.n s (H.sh s) w u3 (.int .i64 ((i+1:Nat):Int)) w5:=by
     refine⟨i+1,rfl,by omega,?_,HB5.out⟩
     rw[HSU.out,if_pos rfl]
     exact HO5.out
    have HR9:=LH hrel9;clear hrel9
    go_wp2_with fail
    go_roundw
    case rel=>exact HR9.out
    case measure=>simp[intOf];omega
  ·obtain rfl:i=H.n:=by omega
   have hfin:LiveP P H.n s (H.sh s) w (.returned u3) wr:=⟨u3,rfl,hown,hb⟩
   have HF:=LH hfin;clear hfin hown hb
   go_wp2_with fail
   go_ret
   exact HF.out
def headV (P:Ptr) (s:Nat):Option Nat→Value|none=>.pointer none|some j=>pw (P.gn s j)
def SHeadP (P:Ptr) (H:Hs) (s:Nat) (w:World) (e:Ending) (w':World):Prop:=e=.returned (headV P s (H.head s))∧Below w.heap.size w w'
def ShRel (l:List Nat) (p:Nat→Bool) (w1:World) (v:Value) (wr:World):Prop:=∃ i:Nat,v=.int .i64 i∧i≤l.length∧l.find? p=(l.drop i).find? p∧wr=w1
theorem find_drop {l:List Nat} {p:Nat→Bool} {i j:Nat} (hx:l[i]? = some j):(l.drop i).find? p=if p j then some j else(l.drop (i+1)).find? p:=by
 obtain⟨hi,e⟩:=List.getElem?_eq_some_iff.1 hx
 rw[List.drop_eq_getElem_cons hi,e,List.find?_cons]
 cases p j <;> rfl
theorem shead_any {s:Nat} (h:HI w own P H) (hs:s<H.c) (hn:H.n≤100) (hid:∀ j,j<H.n→okI ((H.sh s).nd j).id) :
  Calls Tryz.prog 61 #[pw (P.gs s)] w (SHeadP P H s w):=by
 have HL:=LH (live_any h hs hn hid)
 have hll:=q1r (H.sh s) H.n
 have hmem:∀ j,j∈(H.sh s).liveIx H.n→j<H.n:=fun j hj=>by unfold Shd.liveIx at hj;exact List.mem_range.1 (List.mem_filter.1 hj).1
 have HF:=LH (show H.head s=((H.sh s).liveIx H.n).find? fun j=>((H.sh s).nd j).head from rfl)
 have HM:=LH hmem
 have HH:=LH h
 unfold SHeadP
 unfold LiveP at HL
 generalize H.head s=hd at *
 generalize (H.sh s).liveIx H.n=l at *
 clear h hmem hid
 unfold pw at *
 go_enter Tryz.func61,Tryz.ntmps61
 go_wp2_with fail
 refine HL.out.mono ?_
 rintro e w1 ⟨V,rfl,hrow,hb1⟩
 obtain⟨A,c,rfl,_,_⟩:=q01 hrow
 have HR:=LH (Rd.of_own hrow)
 have HB:=LH hb1
 have HH1:=LH (HH.out.below hb1)
 clear hrow hb1 HL HH
 go_wp2_with fail
 go_loopw [8] (ShRel l (fun j=>((H.sh s).nd j).head) w1) (fun v _=>l.length-(intOf v).toNat)
 case atStart=>exact⟨0,rfl,Nat.zero_le _,rfl,rfl⟩
 case round=>
  obtain⟨i,rfl,hi,hfd,rfl⟩:=hrel
  by_cases hlt:(i:Int)<l.length
  ·have hin:i<l.length:=by omega
   obtain⟨r,o,u,hA,hr,hu,hc⟩:=HR.out.at1 (k:=i) hin
   have hx:l[i]? = some l[i]:=List.getElem?_eq_getElem hin
   rw[List.getElem?_map,hx] at hu
   simp only[Option.map_some,Option.some.injEq] at hu
   subst hu hA
   have hjn:=HM.out l[i] (List.getElem_mem hin)
   obtain⟨C,V,L,hN,_⟩:=HH1.out.nd s l[i] hs hjn
   have HQ:=LH (qa0 hN)
   rw[find_drop hx] at hfd
   have HFD:=LH hfd;clear hfd hN
   generalize l[i]=j at *
   rcases hp:((H.sh s).nd j).head with _|_
   ·rw[hp] at HQ HFD
    have HFE:=LH (HFD.out.trans (if_neg (by simp)))
    clear HFD
    go_wp2_with fail
    refine HQ.out.mono ?_
    rintro e w2 ⟨rfl,rfl⟩
    go_wp2_with fail
    go_roundw
    case rel=>exact⟨i+1,rfl,by omega,HFE.out,rfl⟩
    case measure=>simp[intOf];omega
   ·rw[hp] at HQ HFD
    have HFE:=LH (HF.out.trans (HFD.out.trans (if_pos rfl)))
    clear HFD HF
    go_wp2_with fail
    refine HQ.out.mono ?_
    rintro e w2 ⟨rfl,rfl⟩
    go_wp2_with fail
    go_ret
    exact⟨by rw[HFE.out];rfl,HB.out⟩
  ·obtain rfl:i=l.length:=by omega
   rw[List.drop_length] at hfd
   have HFE:=LH (HF.out.trans hfd)
   clear HF hfd
   go_wp2_with fail
   go_ret
   exact⟨by rw[HFE.out];rfl,HB.out⟩
end
def hitB (gs:List Ak) (i:Int) (x:Sx):Bool:=gs.any fun a=>decide (a.tx=i) && decide (a.key=x)
def Hs.grantL (H:Hs) (gs:List Ak):Hs:={ H with tx:=fun i=>{ H.tx i with wants:=(H.tx i).wants.filter fun w=>!hitB gs i w.1 } }
def keyIs (x:Sx) (a:Sx×Int):Bool:=decide (a.1=x)
theorem granted1_any (c:Nat) (a:Ak) (g:Option Nat) (w:World) (h1:w.cell? ⟨c,1,none⟩=some (.string ⟨a.key.toArray⟩)) (hg:g≠some c) :
  nPred 99 #[.pointer (some ⟨c,0,none⟩)] (keyIs a.key) g w:=by
 intro W x hW
 have hl1:=World.block_lt_of_cell? w _ h1
 have k1:=(hW.cell (p:=⟨c,1,none⟩) hl1 (fun e=>hg e)).trans h1
 have l1:c<W.heap.size:=Nat.lt_of_lt_of_le hl1 hW.size
 have HBL:=LH (fun o=>(Below.refl W.heap.size W).alloc (Nat.le_refl _) o)
 clear h1 hl1 hW hg
 unfold wnV keyIs
 show Calls _ _ #[_,_] _ fun e w'=>e=.returned (.bool (decide (x.1=a.key)))∧Below W.heap.size W w'
 by_cases e:x.1=a.key
 ·have d:(x.1 == a.key)=true:=by simpa using e
  rw[decide_eq_true e]
  go_enter Tryz.func99,Tryz.ntmps99
  go_wp2_with fail
  go_ret
  exact⟨rfl,HBL.out _⟩
 ·have d:(x.1 == a.key)=false:=by simpa using e
  rw[decide_eq_false e]
  go_enter Tryz.func99,Tryz.ntmps99
  go_wp2_with fail
  go_ret
  exact⟨rfl,HBL.out _⟩
theorem q99 {gs:List Ak} {j:Nat} {a:Ak} (h:gs[j]? = some a) (i:Int) (x:Sx):hitB (gs.take (j+1)) i x=(hitB (gs.take j) i x || (decide (a.tx=i) && decide (a.key=x))):=by
 unfold hitB
 rw[List.take_add_one,h,List.any_append]
 simp
theorem q6k {H:Hs} {gs:List Ak} {j:Nat} {a:Ak} (h:gs[j]? = some a) {i:Nat} (hi:a.tx≠(i:Int)):(H.grantL (gs.take (j+1))).tx i=(H.grantL (gs.take j)).tx i:=by
 unfold Hs.grantL
 simp only[q99 h,decide_eq_false hi,Bool.false_and,Bool.or_false]
theorem grantL_same {H:Hs} {gs:List Ak} {j:Nat} {a:Ak} (h:gs[j]? = some a) {i:Nat} (hi:a.tx=(i:Int)):(H.grantL (gs.take (j+1))).tx i = { (H.grantL (gs.take j)).tx i with wants:=noff (keyIs a.key) ((H.grantL (gs.take j)).tx i).wants }:=by
 unfold Hs.grantL noff keyIs
 simp only[q99 h,decide_eq_true hi,Bool.true_and,List.filter_filter]
 congr 1
 apply List.filter_congr
 intro w _
 by_cases e:w.1=a.key
 ·simp[e]
 ·simp[e]
  exact fun _ h=>e h.symm
section
variable {w w':World} {own own':Own} {P:Ptr} {H:Hs}
def txTag (t:Tg):Prop:=∃ i,t=.tx i
def GrP (P:Ptr) (own:Own) (H':Hs) (w:World) (w':World):Prop:=∃ own',HI w' own' P H'∧HZ txTag w own w' own'
def GrRel (P:Ptr) (own:Own) (H:Hs) (gs:List Ak) (w:World) (v:Value) (wr:World):Prop:=∃ j:Nat,v=.int .i64 j∧j≤gs.length∧GrP P own (H.grantL (gs.take j)) w wr
theorem grantL_nil (H:Hs):H.grantL []=H:=by
 have hall:∀ l:List (Sx×Int),l.filter (fun _=>true)=l:=fun l=>List.filter_eq_self.2 (fun _ _=>rfl)
 unfold Hs.grantL hitB
 simp[hall]
theorem q1x {Z:Tg→Prop} {base e size n:Nat} {V:Value} {xs:List Value} (h:w.ownsRow base e size V n xs) (hf:∀ b,V.ownBlock=some b→own b=none) (hs:HZ Z w own w' own'):w'.ownsRow base e size V n xs:=
 hs.fr.own h (fun b hb hn=>hn.owned (hf b hb))
theorem akflat:∀ (l:List Ak) (j:Nat) (x:Ak),l[j]? = some x→∀ i,i<3→(l.flatMap q2n)[j*3+i]? = (q2n x)[i]?
 | [],j,p,h,i,hi=>by simp at h
 | q::l,0,p,h,i,hi=>by
  simp at h
  subst h
  rw[List.flatMap_cons,List.getElem?_append_left (by show _<3;omega)]
  simp
 | q::l,j+1,p,h,i,hi=>by
  have h':l[j]? = some p:=by simpa using h
  have e:(j+1)*3+i=(j*3+i)+3:=by omega
  have e3:(q2n q).length=3:=rfl
  rw[e,List.flatMap_cons,List.getElem?_append_right (by rw[e3];omega),e3,Nat.add_sub_cancel]
  exact akflat l j p h' i hi
theorem akAt {B n j:Nat} {A:Option Addr} {l:List Ak} (h:Rd w B 3 A n (l.flatMap q2n)) (hl:l.length=n) (hj:j<n):∃ g off x,A=some ⟨g,off,none⟩∧g<B∧l[j]? = some x∧w.cell? ⟨g,off+j*3,none⟩=some (.int .i64 x.tx)∧w.cell? ⟨g,off+j*3+1,none⟩=some (.string ⟨x.key.toArray⟩)∧w.cell? ⟨g,off+j*3+2,none⟩=some (.int .i64 x.mode):=by
 obtain⟨g,off,e,hb,hc⟩:=h.2 (by omega)
 have hx:l[j]? = some l[j]:=List.getElem?_eq_getElem (by omega)
 have hf:=akflat l j _ hx
 exact⟨g,off,l[j],e,hb,hx,hc (j*3) _ (hf 0 (by omega)),hc (j*3+1) _ (hf 1 (by omega)),hc (j*3+2) _ (hf 2 (by omega))⟩
theorem q4t {s base:Nat} {gs:List Ak} {V:Value} (h:HI w own P H) (hm:H.m≤1000) (hw:∀ i,1≤i→i≤H.m→(H.tx i).wants.length≤1000) (hrow:w.ownsRow base 179 3 V gs.length (gs.flatMap q2n)) (hfree:∀ b,V.ownBlock=some b→own b=none) (hgl:gs.length≤100000) :
  Calls Tryz.prog 69 #[pw P.g,pw (P.gs s),V] w fun e w'=>e=.returned (.tuple #[])∧GrP P own (H.grantL gs) w w':=by
 have HH:=LH h
 have HROW:=LH hrow
 have HFREE:=LH hfree
 have HW:=LH hw
 obtain⟨A,c,rfl,_,hA⟩:=q01 hrow
 clear h hrow hfree hw hA
 unfold pw
 go_enter Tryz.func69,Tryz.ntmps69
 go_wp2_with fail
 go_loopw [11] (GrRel P own H gs w) (fun v _=>gs.length-(intOf v).toNat)
 case atStart=>exact⟨0,rfl,Nat.zero_le _,own,by rw[List.take_zero,grantL_nil];exact HH.out,HZ.refl _ _ _⟩
 case round=>
  obtain⟨j,rfl,hj,own1,hI,hS⟩:=hrel
  by_cases hlt:(j:Int)<gs.length
  ·obtain⟨r,o,a,rfl,hr,hx,k0,k1,k2⟩:=akAt (Rd.of_own (q1x HROW.out HFREE.out hS)) rfl (j:=j) (by omega)
   have hb1:Below wr.heap.size wr (wr.alloc (.cells #[.int .i64 a.tx,.string ⟨a.key.toArray⟩,.int .i64 a.mode] 179)):=(Below.refl _ _).alloc (Nat.le_refl _) _
   have hB1:Blk (wr.alloc (.cells #[.int .i64 a.tx,.string ⟨a.key.toArray⟩,.int .i64 a.mode] 179)) wr.heap.size 179 #[.int .i64 a.tx,.string ⟨a.key.toArray⟩,.int .i64 a.mode]:=Blk.new wr _ _
   have hI1:=hI.below hb1
   have hfd:=q3o hI1 (show(H.grantL (gs.take j)).m≤1000 from hm) a.tx
   have HI1:=LH hI1;clear hI1
   have HB1:=LH hB1;clear hB1
   have HS1:=LH (hS.trans (HZ.below own1 hb1));clear hb1
   have HX:=LH hx;clear hx
   have HFD:=LH hfd;clear hfd
   go_upto_region 3 with (fail)
   clear k0 k1 k2
   generalize wr.alloc (.cells #[.int .i64 a.tx,.string ⟨a.key.toArray⟩,.int .i64 a.mode] 179)=w1 at *
   have b0:=HB1.out.cell 0
   have b1:=HB1.out.cell 1
   have bl:=HB1.out.lt
   simp only[List.getElem?_toArray,List.getElem?_cons_zero,List.getElem?_cons_succ] at b0 b1
   go_wp2_with fail
   refine HFD.out.mono ?_
   rintro e w2 ⟨rfl,rfl⟩
   unfold findV
   by_cases hin:a.tx<1∨((H.grantL (gs.take j)).m:Int)<a.tx
   ·rw[if_pos hin]
    have hrel9:GrRel P own H gs w (.int .i64 ((j+1:Nat):Int)) w1:=by
     refine⟨j+1,rfl,by omega,own1,?_,HS1.out⟩
     have:=HI1.out.congrTx (H.grantL (gs.take (j+1))).tx (fun i h1 h2=>q6k HX.out (fun e=>by rw[e] at hin;have:i≤(H.grantL (gs.take j)).m:=h2;omega))
     exact this
    have HR:=LH hrel9;clear hrel9
    clear hin
    go_wp2_with fail
    go_roundw
    case rel=>exact HR.out
    case measure=>simp[intOf];omega
   ·rw[if_neg hin]
    obtain⟨i,hi⟩:∃ i:Nat,a.tx=i:=⟨a.tx.toNat,by omega⟩
    have hi1:1≤i:=by omega
    have him:i≤H.m:=by have h2:¬((H.m:Int)<a.tx):=fun h=>hin (.inr h);omega
    obtain⟨v,hv⟩:=HI1.out.tx i hi1 him
    obtain⟨_,_,_,_,_,_,c8,gl⟩:=hv.cells
    have hne:v.Vx.ownBlock≠some wr.heap.size:=q02 hv.wants HB1.out (by decide)
    have hlen:((H.grantL (gs.take j)).tx i).wants.length≤1000:=Nat.le_trans (List.length_filter_le _ _) (HW.out i hi1 him)
    have hd:=ndelete_any 99 #[.pointer (some ⟨wr.heap.size,0,none⟩)] (keyIs a.key) 0 _ v.Vx _ w1 (q1y Tryz.func99 (by kernel_rfl) rfl) (granted1_any _ a _ w1 b1 hne) hv.wants rfl (by omega)
    have HD:=LH hd;clear hd
    obtain⟨A8,c8',hV8,_,_⟩:=q01 hv.wants
    rw[hV8] at c8 HD
    have HV8:=LH hV8;clear hV8
    have HVI:=LH hv;clear hv
    rw[hi]
    rw[show((i:Int)).toNat=i from rfl]
    clear b0 b1 hin hne hlen
    unfold pw
    go_wp2_with fail
    refine HD.out.mono ?_
    rintro e w2 ⟨A9,c9,rfl,hr2,hf2,hob⟩
    have hb2:=hf2.blk HVI.out.blk (fun e=>HVI.out.rows_ne.2.1 (by rw[HV8.out];exact e))
    have y8:=hb2.cell 8
    have z8:=hb2.frozen 8
    have yl:=hb2.lt
    unfold q28 at y8
    simp only[List.getElem?_toArray,List.getElem?_cons_zero,List.getElem?_cons_succ] at y8
    rw[HV8.out] at y8
    have hfx:Fr (fun k=>v.Vx.ownBlock=some k∨w1.heap.size≤k) w1 w2:=hf2.mono (fun k _ e=>.inl (by rw[HV8.out];exact e))
    have hset:=HVI.out.setWants (Ext.refl own1 _) hfx hr2 (fun b hb=>HVI.out.xt b (by rw[HV8.out,← hob];exact hb))
    have hfo:Fr (OS own1 (fun t=>t=.tx i)) w1 (w2.setCell ⟨P.gt i,8,none⟩ (.slice A9 (noff (keyIs a.key) ((H.grantL (gs.take j)).tx i).wants).length c9)):=
     (hf2.mono (T:=OS own1 (fun t=>t=.tx i)) (fun k _ e=>⟨_,HVI.out.xt k (by rw[HV8.out];exact e),rfl⟩)).setCell (p:=⟨P.gt i,8,none⟩) (.inl ⟨_,HVI.out.gt,rfl⟩) _
    have hI3:=HI1.out.setTx' hfo (Ext.refl own1 _) (fun b hb=>Nat.lt_of_lt_of_le (HI1.out.lt b hb) hfo.size) ⟨_,hset⟩
    have hrel9:GrRel P own H gs w (.int .i64 ((j+1:Nat):Int)) (w2.setCell ⟨P.gt i,8,none⟩ (.slice A9 (noff (keyIs a.key) ((H.grantL (gs.take j)).tx i).wants).length c9)):=by
     refine⟨j+1,rfl,by omega,own1,?_,HS1.out.trans (⟨Ext.refl own1 _,hfo.mono (fun _ _ ⟨t,a,b⟩=>⟨t,a,⟨i,b⟩⟩),fun _ _ h=>h⟩)⟩
     have:=hI3.congrTx (H.grantL (gs.take (j+1))).tx (fun k h1 h2=>by
      show _=upd (H.grantL (gs.take j)).tx i _ k
      by_cases e:k=i
      ·subst e;rw[q03];exact grantL_same HX.out hi
      ·rw[q07 e];exact q6k HX.out (fun e2=>e (by omega)))
     exact this
    have HR:=LH hrel9;clear hrel9 hI3 hfo hset hfx hr2 hf2 hob hb2 HD
    go_wp2_with fail
    go_roundw
    case rel=>exact HR.out
    case measure=>simp[intOf];omega
  ·obtain rfl:j=gs.length:=by omega
   rw[List.take_length] at hI
   have HF:=LH (show GrP P own (H.grantL gs) w wr from⟨own1,hI,hS⟩)
   clear hI hS
   go_wp2_with fail
   go_end0
   exact⟨rfl,HF.out⟩
end
end Go.Proofs.YtccahlhdifadfaaGreatDoor
