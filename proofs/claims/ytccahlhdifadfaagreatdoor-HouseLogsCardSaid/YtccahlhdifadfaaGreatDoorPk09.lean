/- Part 10 of the texts that the claim rests on (of 19): HfA, HfB, HfC, HfD, HfE. -/
import Derived.Test.YtccahlhdifadfaaGreatDoorPk08
namespace Go.Proofs.YtccahlhdifadfaaGreatDoor
open Go.RowKit
set_option maxRecDepth 100000
set_option maxHeartbeats 16000000
def sumB (l:List UInt8):Nat:=(l.map fun b=>b.toNat).sum
theorem q4s (x:Sx):q00 x=sumB x % 2:=rfl
theorem sumB_snoc {l:List UInt8} {i:Nat} {b:UInt8} (h:l[i]? = some b):sumB (l.take (i+1))=sumB (l.take i)+b.toNat:=by
 unfold sumB;rw[List.take_add_one,h];simp
theorem sumB_le (l:List UInt8):sumB l≤l.length*255:=by
 induction l with
 | nil=>simp[sumB]
 | cons b l ih=>
  have e:sumB (b::l)=b.toNat+sumB l:=by simp[sumB]
  have:=b.toNat_lt
  rw[e,List.length_cons]
  omega
theorem wrap_nat {n:Nat} (h:n≤1000000):wrap64 (n:Int)=n:=IntWalk.wrap64_in _ ⟨by omega,by omega⟩
theorem wrap_add {a b:Nat} (h:a≤1000000) (h2:b≤1000000):wrap64 ((a:Int)+b)=((a+b:Nat):Int):=by rw[IntWalk.wrap64_in _ ⟨by omega,by omega⟩];rfl
theorem u8_le (b:UInt8):b.toNat≤1000000:=by have:=b.toNat_lt;omega
theorem sum_le {a n:Nat} (h:a≤n*255) (h2:n≤1000):a≤1000000:=by omega
def SmRel (x:ByteArray) (w:World) (v5 v9:Value) (wr:World):Prop:=∃ i:Nat,v9=.int .i64 i∧i≤x.size∧v5=.int .i64 (sumB ((sx x).take i))∧wr=w
section
variable {w w':World} {own own':Own} {P:Ptr} {H:Hs}
theorem shard_any (h:HI w own P H) (hc:H.c=3) (x:ByteArray) (hx:x.size≤1000):Calls Tryz.prog 60 #[pw P.g,.string x] w fun e w'=>e=.returned (.int .i64 (q00 (sx x)))∧w'=w:=by
 obtain⟨v,hv⟩:=h.hs
 obtain⟨_,c3,_,_,gl⟩:=hv.cells
 obtain⟨A,c,hV,_,_⟩:=q01 hv.shr
 rw[hV,hc] at c3
 clear h hv hV
 unfold pw
 go_enter Tryz.func60,Tryz.ntmps60
 go_wp2_with fail
 go_loopw [5,9] (SmRel x w) (fun _ u _=>x.size-(intOf u).toNat)
 case atStart=>exact⟨0,rfl,Nat.zero_le _,rfl,rfl⟩
 case round=>
  obtain⟨i,rfl,hi,rfl,rfl⟩:=hrel
  have hsl:(sx x).length=x.size:=by rw[q25]
  have hsb:=sumB_le ((sx x).take i)
  have hsn:((sx x).take i).length≤1000:=by simp;omega
  by_cases hlt:i<x.size
  ·have d1:decide ((i:Int)<(x.size:Int))=true:=decide_eq_true (by omega)
   go_wp2_with fail
   have hb:(sx x)[i]? = some x[i]:=by
    unfold sx
    rw[Array.getElem?_toList]
    exact Array.getElem?_eq_getElem hlt
   have hw1:=wrap_nat (u8_le x[i])
   have hw2:=wrap_add (sum_le hsb hsn) (u8_le x[i])
   go_roundw
   case rel=>
    rw[hw1,hw2]
    exact⟨i+1,rfl,by omega,by rw[sumB_snoc hb],rfl⟩
   case measure=>simp[intOf];omega
  ·have d1:decide ((i:Int)<(x.size:Int))=false:=decide_eq_false (by omega)
   rw[List.take_of_length_le (by omega)] at hsb ⊢
   have hks:((sumB (sx x):Nat):Int).tmod 2=((q00 (sx x):Nat):Int):=by rw[q4s];rfl
   have HKS:=LH hks
   rw[hsl] at hsb
   clear hks hsl
   go_wp2_with fail
   go_ret
   exact⟨by rw[q4s];rfl,rfl⟩
theorem pr_infoX:(Tryz.prog.info? 45).map (fun i=>(i.zero,i.size,i.bytes))=some (some (.agg #[.string ⟨#[]⟩,.string ⟨#[]⟩,.bool false]),3,40):=by kernel_rfl
def ofL (k:Nat) (l:List Pr):List Pr:=l.filter fun p=>q00 (sx p.key) == k
theorem ofL_snoc {k j:Nat} {l:List Pr} {p:Pr} (h:l[j]? = some p):ofL k (l.take (j+1))=if q00 (sx p.key) == k then ofL k (l.take j)++[p] else ofL k (l.take j):=by
 unfold ofL
 rw[List.take_add_one,h,List.filter_append]
 cases e:(q00 (sx p.key) == k) <;> simp[e]
def OfRel (k:Nat) (l:List Pr) (w:World) (v7 v15:Value) (wr:World):Prop:=
 ∃ j:Nat,v15=.int .i64 j∧j≤l.length∧wr.ownsRow w.heap.size 45 3 v7 (ofL k (l.take j)).length ((ofL k (l.take j)).flatMap q0g)∧Below w.heap.size w wr
def OfP (k:Nat) (l:List Pr) (w:World) (e:Ending) (w':World):Prop:=
 ∃ A c,e=.returned (.slice A (ofL k l).length c)∧w'.ownsRow w.heap.size 45 3 (.slice A (ofL k l).length c) (ofL k l).length ((ofL k l).flatMap q0g)∧Below w.heap.size w w'∧(A=none→c=0)
theorem own_none {base e size n k:Nat} {A:Option Addr} {xs:List Value} (h:w.ownsRow base e size (.slice A n k) n xs):A=none→k=0:=fun ha=>by
 rcases h.2 with ⟨hv,_⟩|⟨g,cap,cur,hv,_⟩
 ·injection hv
 ·rw[ha] at hv;cases hv
theorem of_any {i k:Nat} (h:HI w own P H) (wf:Wf H) (hc:H.c=3) (h1:1≤i) (hi:i≤H.m):Calls Tryz.prog 95 #[pw P.g,pw (P.gt i),.int .i64 k] w (OfP k (H.tx i).writes w):=by
 obtain⟨v,hv⟩:=h.tx i h1 hi
 obtain⟨_,_,c2,_,_,_,_,gl⟩:=hv.cells
 obtain⟨A,c,hV,_,_⟩:=q01 hv.writes
 rw[hV] at c2
 have HR:=LH (Rd.of_own (hV▸hv.writes))
 have HW:=LH (wf.tx i h1 hi).ps
 have hfew:=(wf.tx i h1 hi).few
 have HH:=LH h
 generalize (H.tx i).writes=l at *
 clear h wf hv hV
 unfold pw
 go_enter Tryz.func95,Tryz.ntmps95
 go_wp2_with fail
 go_loopw [7,15] (OfRel k l w) (fun _ u _=>l.length-(intOf u).toNat)
 case atStart=>exact⟨0,rfl,Nat.zero_le _,World.ownsRow_nil _ _ _ _,Below.refl _ _⟩
 case round=>
  obtain⟨j,rfl,hj,hown,hb⟩:=hrel
  by_cases hlt:(j:Int)<l.length
  ·obtain⟨gp,op,p,rfl,hgp,hpx,p0,p1,p2⟩:=q1k.at_ (w:=wr) (B:=w.heap.size) (A:=A) (n:=l.length) (l:=l) (k:=j) ⟨rfl,HR.out.below hb⟩ (by omega)
   have hgw:gp<wr.heap.size:=Nat.lt_of_lt_of_le hgp hb.size
   have hbp:=(Below.refl wr.heap.size wr).alloc (Nat.le_refl _) (.cells #[.string p.key,.string p.val,.bool p.gone] 45)
   have HPB:=LH (Blk.new wr 45 #[.string p.key,.string p.val,.bool p.gone])
   have hwp:=HW.out p (List.mem_of_getElem? hpx)
   have hsh:=shard_any (HH.out.below (hb.trans (hbp.mono hb.size))) hc p.key (by have:=q1n hwp.1;rw[q25];omega)
   have HSH:=LH hsh
   have HSN:=LH (ofL_snoc (k:=k) hpx)
   have HO:=LH (q0q hown hbp)
   have HB:=LH (hb.trans (hbp.mono hb.size))
   have hll:(ofL k (l.take j)).length≤20:=Nat.le_trans (List.length_filter_le _ _) (by simp;omega)
   have hkb:=q4s (sx p.key)
   have HKK:=LH (show((q00 (sx p.key):Nat):Int)=k↔q00 (sx p.key)=k by omega)
   clear hwp hpx hown hb hbp hsh hkb
   unfold pw at HSH
   go_upto_region 5 with (fail)
   clear p0 p1 p2 hgw
   generalize wr.alloc (.cells #[.string p.key,.string p.val,.bool p.gone] 45)=w3 at *
   generalize wr.heap.size=pb at *
   have q0:=HPB.out.cell 0
   have q1:=HPB.out.cell 1
   have q2:=HPB.out.cell 2
   have ql:=HPB.out.lt
   simp only[List.getElem?_toArray,List.getElem?_cons_zero,List.getElem?_cons_succ] at q0 q1 q2
   go_wp2_with (at_builtin;refine stop ?_)
   refine HSH.out.mono ?_
   rintro e w4 ⟨rfl,rfl⟩
   by_cases hk:q00 (sx p.key)=k
   ·have dk:(((q00 (sx p.key):Nat):Int) == (k:Int))=true:=by rw[beq_iff_eq];exact HKK.out.2 hk
    have HSY:=LH (HSN.out.trans (if_pos (by rw[beq_iff_eq];exact hk)))
    clear hk HSN HKK
    go_wp2_with (at_builtin;refine stop ?_)
    refine back ?_
    have hsz:=HB.out.size
    refine q0h w4 _ rfl (.tmp 25) (.tmp 27) 67 rfl w.heap.size 45 _ 3 40 Tryz.underlying67 pr_infoX rfl (by decide) _ _ _ #[.string p.key,.string p.val,.bool p.gone] rfl HO.out 1 rfl _ rfl rfl (by simp[Value.oneCell']) (by unfold maxLen;omega) (by omega) hsz ?_
    intro v' w8 hr8 hm8
    have HR8:=LH (show OfRel k l w v' (.int .i64 ((j+1:Nat):Int)) w8 from⟨j+1,rfl,by omega,by rw[HSY.out,List.length_append,List.flatMap_append];simpa [q0g] using hr8,HB.out.trans (hm8.below (fun b hb=>(HO.out.lt b hb).1) hsz)⟩)
    clear hr8 hm8 dk q0 q1 q2 ql
    go_wp2_with fail
    go_roundw
    case rel=>exact HR8.out
    case measure=>simp[intOf];omega
   ·have dk:(((q00 (sx p.key):Nat):Int) == (k:Int))=false:=by rw[beq_eq_false_iff_ne];exact fun e=>hk (HKK.out.1 e)
    have HSY:=LH (HSN.out.trans (if_neg (by rw[beq_iff_eq];exact hk)))
    have HR8:=LH (show OfRel k l w u7 (.int .i64 ((j+1:Nat):Int)) w4 from⟨j+1,rfl,by omega,by rw[HSY.out];exact HO.out,HB.out⟩)
    clear hk HSN HKK
    go_wp2_with fail
    go_roundw
    case rel=>exact HR8.out
    case measure=>simp[intOf];omega
  ·obtain rfl:j=l.length:=by omega
   rw[List.take_length] at hown
   obtain⟨A2,c2',rfl,_,_⟩:=q01 hown
   have HF:=LH (show OfP k l w (.returned (.slice A2 (ofL k l).length c2')) wr from⟨A2,c2',rfl,hown,hb,own_none hown⟩)
   clear hown hb
   go_wp2_with fail
   go_ret
   exact HF.out
end
theorem st_sh {s:Nat} {t:Tg} (h:shTag s t):StTag t:=by rcases h with h|h|h|h|h <;> subst h <;> exact⟨by simp,by simp,fun _=>by simp⟩
theorem st_txt {t:Tg} (h:txTag t):StTag t:=by obtain⟨i,h⟩:=h;subst h;exact⟨by simp,by simp,fun _=>by simp⟩
theorem st_tx {i:Nat} {t:Tg} (h:t=.tx i):StTag t:=by subst h;exact⟨by simp,by simp,fun _=>by simp⟩
theorem st_hs {t:Tg} (h:t=.hs):StTag t:=by subst h;exact⟨by simp,by simp,fun _=>by simp⟩
theorem q6h {t:Tg} (h:q3z t):StTag t:=by rcases h with h|h <;> subst h <;> exact⟨by simp,by simp,fun _=>by simp⟩
theorem st_nd {s j:Nat} {t:Tg} (h:t=.nd s j):StTag t:=by subst h;exact⟨by simp,by simp,fun _=>by simp⟩
theorem st_tk {s:Nat} {t:Tg} (h:tkTag s t):StTag t:=h.elim st_sh st_txt
theorem st_add {s:Nat} {t:Tg} (h:addTag s t):StTag t:=by
 rcases h with ⟨j,h⟩|h|h
 ·exact st_nd h
 ·exact q6h h
 ·exact st_tk h
def GsP (P:Ptr) (own:Own) (H':Hs) (w w':World):Prop:=∃ own',HI w' own' P H'∧HStep w own w' own'
theorem nadd_snd (d:Nd) (c:Cm) (b:Bool):(d.add c b).1=(d.add c false).1∧(d.add c b).2.2=(d.add c false).2.2:=by
 unfold Nd.add
 split
 ·exact⟨rfl,rfl⟩
 ·split <;> exact⟨rfl,rfl⟩
theorem add_snd (H:Hs) (s j:Nat) (c:Cm) (b:Bool):(H.add s j c b).2=(H.add s j c false).2:=by
 obtain⟨h1,h2⟩:=nadd_snd ((H.sh s).nd j) c b
 unfold Hs.add
 rw[h1,h2]
 split <;> rfl
def tellC (H:Hs) (i:Nat) (kind:Int):Cm:=⟨kind,i,if kind=3 then(H.tx i).time else 0,[]⟩
theorem q2a {H:Hs} {i k:Nat} {kind:Int} (h:H.head k=none):H.tell1 i kind k=H:=by unfold Hs.tell1;rw[h]
theorem q29 {H:Hs} {i k j:Nat} {kind:Int} (h:H.head k=some j):H.tell1 i kind k=if place ((H.sh k).nd j).log kind i=none∧place ((H.sh k).nd j).log 2 i≠none then(H.add k j (tellC H i kind) false).2 else H:=by unfold Hs.tell1;rw[h];rfl
theorem q3l {l:List Cm} {kind id:Int} (h:place l kind id=none):q7j l kind id = -1:=by unfold q7j;rw[h]
theorem q3k {l:List Cm} {kind id:Int} {p:Nat} (h:place l kind id=some p):q7j l kind id=p:=by unfold q7j;rw[h]
theorem q44 {H:Hs} {s j:Nat} (h:H.head s=some j):j<H.n:=by
 have:=List.mem_of_find?_eq_some h
 unfold Shd.liveIx at this
 exact List.mem_range.1 (List.mem_filter.1 this).1
theorem q0y (H:Hs) (s j:Nat) (c:Cm) (b:Bool):(H.add s j c b).2.n=H.n∧(H.add s j c b).2.c=H.c∧(H.add s j c b).2.m=H.m∧(H.add s j c b).2.time=H.time∧∀ i,((H.add s j c b).2.tx i).state=(H.tx i).state∧((H.add s j c b).2.tx i).writes=(H.tx i).writes∧((H.add s j c b).2.tx i).shards=(H.tx i).shards∧((H.add s j c b).2.tx i).places=(H.tx i).places∧((H.add s j c b).2.tx i).time=(H.tx i).time:=by
 unfold Hs.add
 split
 ·exact⟨rfl,rfl,rfl,rfl,fun _=>⟨rfl,rfl,rfl,rfl,rfl⟩⟩
 ·have hs:=q0b.take ((H.setNd s j (((H.sh s).nd j).add c b).1.1).send (((H.sh s).nd j).add c b).1.2) s
  exact⟨hs.n,hs.c,hs.m,hs.time,hs.tx⟩
theorem q12 (H:Hs) (i:Nat) (kind:Int) (k:Nat):(H.tell1 i kind k).n=H.n∧(H.tell1 i kind k).c=H.c∧(H.tell1 i kind k).m=H.m∧(H.tell1 i kind k).time=H.time∧∀ a,((H.tell1 i kind k).tx a).state=(H.tx a).state∧((H.tell1 i kind k).tx a).writes=(H.tx a).writes∧((H.tell1 i kind k).tx a).shards=(H.tx a).shards∧((H.tell1 i kind k).tx a).places=(H.tx a).places∧((H.tell1 i kind k).tx a).time=(H.tx a).time:=by
 cases h:H.head k with
 | none=>rw[q2a h];exact⟨rfl,rfl,rfl,rfl,fun _=>⟨rfl,rfl,rfl,rfl,rfl⟩⟩
 | some j=>
  rw[q29 h]
  split
  ·exact q0y _ _ _ _ _
  ·exact⟨rfl,rfl,rfl,rfl,fun _=>⟨rfl,rfl,rfl,rfl,rfl⟩⟩
theorem Wf.tellC {H:Hs} (h:Wf H) {i:Nat} (h1:1≤i) (hi:i≤H.m) (kind:Int):WfC (tellC H i kind):=by
 have:=h.m60
 have ht:=h.tle i h1 hi
 have h60:=h.time60
 refine⟨⟨by show(1:Int)≤(i:Int);omega,by show(i:Int)≤60;omega⟩,?_,by show 0≤20;omega,fun p hp=>by cases hp⟩
 show 0≤(if kind=3 then(H.tx i).time else 0)∧(if kind=3 then(H.tx i).time else 0)≤60
 split <;> omega
theorem Wf.tell1 {H:Hs} (h:Wf H) {i k:Nat} (h1:1≤i) (hi:i≤H.m) (hk:k<H.c) (kind:Int):Wf (H.tell1 i kind k):=by
 cases e:H.head k with
 | none=>rw[q2a e];exact h
 | some j=>
  rw[q29 e]
  split
  ·exact h.add hk (q44 e) (h.tellC h1 hi kind) false
  ·exact h
noncomputable def telld (H:Hs) (i:Nat) (kind:Int) (ks:List Nat):Hs:=ks.foldl (Hs.tell1 i kind) H
theorem q1q (i:Nat) (kind:Int):∀ (ks:List Nat) (H:Hs),(telld H i kind ks).n=H.n∧(telld H i kind ks).c=H.c∧(telld H i kind ks).m=H.m∧(telld H i kind ks).time=H.time∧∀ a,((telld H i kind ks).tx a).state=(H.tx a).state∧((telld H i kind ks).tx a).writes=(H.tx a).writes∧((telld H i kind ks).tx a).shards=(H.tx a).shards∧((telld H i kind ks).tx a).places=(H.tx a).places∧((telld H i kind ks).tx a).time=(H.tx a).time
 | [],H=>⟨rfl,rfl,rfl,rfl,fun _=>⟨rfl,rfl,rfl,rfl,rfl⟩⟩
 | k::ks,H=>by
  obtain⟨a1,a2,a3,a4,a5⟩:=q12 H i kind k
  obtain⟨b1,b2,b3,b4,b5⟩:=q1q i kind ks (H.tell1 i kind k)
  exact⟨b1.trans a1,b2.trans a2,b3.trans a3,b4.trans a4,fun a=>⟨(b5 a).1.trans (a5 a).1,(b5 a).2.1.trans (a5 a).2.1,(b5 a).2.2.1.trans (a5 a).2.2.1,(b5 a).2.2.2.1.trans (a5 a).2.2.2.1,(b5 a).2.2.2.2.trans (a5 a).2.2.2.2⟩⟩
theorem Wf.telld {i:Nat} {kind:Int} (h1:1≤i):∀ (ks:List Nat) {H:Hs},Wf H→i≤H.m→(∀ k∈ks,k<H.c)→Wf (telld H i kind ks)
 | [],_,h,_,_=>h
 | k::ks,H,h,hi,hk=>by
  obtain⟨_,a2,a3,_⟩:=q12 H i kind k
  exact Wf.telld h1 ks (h.tell1 h1 hi (hk k (List.mem_cons_self ..)) kind) (by rw[a3];exact hi) (fun q hq=>by rw[a2];exact hk q (List.mem_cons_of_mem _ hq))
theorem telld_snoc {H:Hs} {i q k:Nat} {kind:Int} {ks:List Nat} (h:ks[q]? = some k):telld H i kind (ks.take (q+1))=(telld H i kind (ks.take q)).tell1 i kind k:=by
 unfold telld;rw[List.take_add_one,h,List.foldl_append];rfl
def TeRel (P:Ptr) (own:Own) (H:Hs) (i:Nat) (kind:Int) (ks:List Nat) (w1:World) (v:Value) (wr:World):Prop:=∃ q:Nat,v=.int .i64 q∧q≤ks.length∧GsP P own (telld H i kind (ks.take q)) w1 wr
section
variable {w w':World} {own own':Own} {P:Ptr} {H:Hs}
theorem own_int {base n k:Nat} {V:Value} {ks:List Nat} (h:w.ownsRow base 3 1 V n ((ks.map fun k:Nat=>(k:Int)).map (Value.int .i64))) (hk:k<n) (hn:n=ks.length):∃ g c,V=.slice (some ⟨g,0,none⟩) n c∧g<w.heap.size∧∃ x:Nat,ks[k]? = some x∧w.cell? ⟨g,k,none⟩=some (.int .i64 x):=by
 obtain⟨g,c,e,hg,u,hu,hc⟩:=q2g h hk
 have hx:ks[k]? = some ks[k]:=List.getElem?_eq_getElem (by omega)
 rw[List.getElem?_map,List.getElem?_map,hx] at hu
 simp only[Option.map_some,Option.some.injEq] at hu
 exact⟨g,c,e,hg,ks[k],hx,by rw[hc,← hu]⟩
theorem q50 {i:Nat} {kind:Int} (h:HI w own P H) (wf:Wf H) (hc:H.c=3) (h1:1≤i) (hi:i≤H.m):Calls Tryz.prog 67 #[pw P.g,pw (P.gt i),.int .i64 kind] w fun e w'=>e=.returned (.tuple #[])∧GsP P own (H.tells i kind) w w':=by
 have HCM:=LH (q8a h wf h1 hi)
 have HH:=LH h
 have HWF:=LH wf
 have HTL:=LH (show H.tells i kind=telld H i kind (H.tx i).comes from rfl)
 have HLT:=LH (fun k (hk:k∈(H.tx i).comes)=>q1a hk)
 have hcl:=q89 (H.tx i)
 unfold ComesP Txn.comesI at HCM
 generalize (H.tx i).comes=ks at *
 clear h wf
 unfold pw at *
 go_enter Tryz.func67,Tryz.ntmps67
 go_wp2_with fail
 refine HCM.out.mono ?_
 rintro e w1 ⟨V,rfl,hrow,hb1⟩
 obtain⟨A,c,rfl,_,_⟩:=q01 hrow
 have HROW:=LH hrow
 have HB1:=LH hb1
 have HH1:=LH (HH.out.below hb1)
 have HFREE:=LH (fun b (hb:(Value.slice A ks.length c).ownBlock=some b)=>HH.out.free (hrow.lt b hb).1)
 clear hrow hb1 HCM HH
 go_wp2_with fail
 go_loopw [15] (TeRel P own H i kind ks w1) (fun v _=>ks.length-(intOf v).toNat)
 case atStart=>exact⟨0,rfl,Nat.zero_le _,own,HH1.out,HZ.refl _ _ _⟩
 case round=>
  obtain⟨q,rfl,hq,own2,hI2,hZ2⟩:=hrel
  by_cases hlt:(q:Int)<ks.length
  ·obtain⟨r,c',hV,hr,k,hk,hkc⟩:=own_int (q1x HROW.out HFREE.out hZ2) (k:=q) (by omega) rfl
   injection hV with hA _ hcp
   subst hA hcp
   have hk2:=HLT.out k (List.mem_of_getElem? hk)
   have HSN:=LH (telld_snoc (H:=H) (i:=i) (kind:=kind) hk)
   have hsm:=q1q i kind (ks.take q) H
   have hwf2:Wf (telld H i kind (ks.take q)):=HWF.out.telld h1 _ hi (fun a ha=>by have:=HLT.out a (List.mem_of_mem_take ha);omega)
   have hcc:(telld H i kind (ks.take q)).c=3:=hsm.2.1.trans hc
   have hmm:(telld H i kind (ks.take q)).m=H.m:=hsm.2.2.1
   generalize telld H i kind (ks.take q)=H2 at *
   obtain⟨vh,hvh⟩:=hI2.hs
   obtain⟨_,c3,_,_,gl⟩:=hvh.cells
   obtain⟨r3,k3,hVr,hr3,hc3⟩:=hvh.shAt (s:=k) (by omega)
   rw[hVr,hcc] at c3
   have hks:(k:Int)<3:=by omega
   have HHD:=LH (q5f hI2 hwf2 (s:=k) (by omega))
   unfold pw at hc3 HHD
   have HI2:=LH hI2
   have HZ2:=LH hZ2
   have HWF2:=LH hwf2
   clear hI2 hZ2 hwf2 hk hvh hVr hsm
   go_wp2_with fail
   refine HHD.out.mono ?_
   rintro e w3 ⟨rfl,hb3⟩
   have HI3:=LH (HI2.out.below hb3)
   have HZ3:=LH (HZ2.out.trans (HZ.below own2 hb3))
   clear hkc c3 hc3 gl HI2 HZ2 HHD hb3
   rcases hhd:H2.head k with _|j
   ·have HR9:=LH (show TeRel P own H i kind ks w1 (.int .i64 ((q+1:Nat):Int)) w3 from⟨q+1,rfl,by omega,own2,by rw[HSN.out,q2a hhd];exact HI3.out,HZ3.out⟩)
    unfold headV
    go_wp2_with fail
    go_roundw
    case rel=>exact HR9.out
    case measure=>simp[intOf];omega
   ·have hjn:=q44 hhd
    obtain⟨C,V2,L,hN,hNt⟩:=HI3.out.nd k j (by omega) hjn
    have HLG:=LH (q7s hN)
    have hlog:=hN.log
    have hLl:=hN.len
    obtain⟨vt,hvt⟩:=HI3.out.tx i h1 (by omega)
    obtain⟨d0,_,_,_,_,d5,_,dl⟩:=hvt.cells
    have HT:=LH (q29 (i:=i) (kind:=kind) hhd)
    rw[← hlog] at HT
    clear hN hNt hvt hhd
    unfold headV pw
    go_wp2_with fail
    refine HLG.out.mono ?_
    rintro e w4 ⟨A5,k5,rfl,hrow5,hb4,_⟩
    have HI4:=LH (HI3.out.below hb4)
    have HZ4:=LH (HZ3.out.trans (HZ.below own2 hb4))
    have hd0:=(hb4.cell (p:=⟨P.gt i,0,none⟩) dl).trans d0
    have hdl:=Nat.lt_of_lt_of_le dl hb4.size
    have hd5:=(hb4.cell (p:=⟨P.gt i,5,none⟩) dl).trans d5
    have HP1:=LH (q54 0 _ _ L kind i w4 hrow5 rfl (by omega))
    have HROW5:=LH hrow5
    clear d0 d5 dl hrow5 hb4 HLG HI3 HZ3
    rcases hp1:place (csOf L) kind i with _|p1
    ·rw[q3l hp1] at HP1
     go_wp2_with fail
     refine HP1.out.mono ?_
     rintro e w5 ⟨rfl,hb5⟩
     have HI5:=LH (HI4.out.below hb5)
     have HZ5:=LH (HZ4.out.trans (HZ.below own2 hb5))
     have hd05:=(hb5.cell (p:=⟨P.gt i,0,none⟩) hdl).trans hd0
     have hd55:=(hb5.cell (p:=⟨P.gt i,5,none⟩) hdl).trans hd5
     have hdl5:=Nat.lt_of_lt_of_le hdl hb5.size
     have HP2:=LH (q54 0 _ _ L 2 i w5 (q0q HROW5.out hb5) rfl (by omega))
     clear hb5 HI4 HZ4 hd0 hd5 hdl HP1
     rcases hp2:place (csOf L) 2 i with _|p2
     ·rw[q3l hp2] at HP2
      have HTN:=LH (HT.out.trans (if_neg (fun h=>h.2 hp2)))
      go_wp2_with fail
      refine HP2.out.mono ?_
      rintro e w6 ⟨rfl,hb6⟩
      have HR9:=LH (show TeRel P own H i kind ks w1 (.int .i64 ((q+1:Nat):Int)) w6 from⟨q+1,rfl,by omega,own2,by rw[HSN.out,HTN.out];exact HI5.out.below hb6,HZ5.out.trans (HZ.below own2 hb6)⟩)
      clear hb6
      go_wp2_with fail
      go_roundw
      case rel=>exact HR9.out
      case measure=>simp[intOf];omega
     ·rw[q3k hp2] at HP2
      have HTY:=LH (HT.out.trans (if_pos ⟨hp1,by rw[hp2];simp⟩))
      go_wp2_with fail
      refine HP2.out.mono ?_
      rintro e w6 ⟨rfl,hb6⟩
      have HI6:=LH (HI5.out.below hb6)
      have HZ6:=LH (HZ5.out.trans (HZ.below own2 hb6))
      have hd06:=(hb6.cell (p:=⟨P.gt i,0,none⟩) hdl5).trans hd05
      have hd56:=(hb6.cell (p:=⟨P.gt i,5,none⟩) hdl5).trans hd55
      have hdl6:=Nat.lt_of_lt_of_le hdl5 hb6.size
      clear hb6 HI5 HZ5 hd05 hd55 hdl5 HP2 hp1 hp2
      by_cases hk3:kind=3
      ·
       have hceq:tellC H2 i kind=⟨kind,i,(H2.tx i).time,[]⟩:=by unfold tellC;rw[if_pos hk3]
       have hwc:=HWF2.out.tellC h1 (show i≤H2.m by omega) kind
       rw[hceq] at hwc
       have HTZ:=HTY
       rw[hceq] at HTZ
       have HAD:=LH (fun W (hW:HI W own2 P H2)=>q6u hW HWF2.out (show k<H2.c by omega) hjn ⟨⟨kind,i,(H2.tx i).time,[]⟩,none,0,0⟩ ⟨rfl,Rd.none_ W W.heap.size 3 none⟩ (fun _=>rfl) (Nat.zero_le _) hwc)
       have hbc:=(Below.refl w6.heap.size w6).alloc (Nat.le_refl _) (.cells #[.int .i64 kind,.int .i64 i,.int .i64 (H2.tx i).time,.slice none 0 0] 69)
       have hcb:=Blk.new w6 69 #[.int .i64 kind,.int .i64 i,.int .i64 (H2.tx i).time,.slice none 0 0]
       have hbc2:=hbc
       have hcb2:=hcb
       have HI7:=LH (HI6.out.below hbc2)
       have HZ7:=LH (HZ6.out.trans (HZ.below own2 hbc2))
       have HCB:=LH hcb2
       have t0:=(hbc.cell (p:=⟨P.gt i,5,none⟩) hdl6).trans hd56
       have hbz:w6.heap.size<(w6.alloc (.cells #[.int .i64 kind,.int .i64 i,.int .i64 (H2.tx i).time,.slice none 0 0] 69)).heap.size:=by simp
       have hgt7:=Nat.lt_of_lt_of_le hdl6 hbc.size
       subst hk3
       have hHA:=HAD.out _ HI7.out
       unfold pw at hHA
       have HHA:=LH hHA
       clear hHA hceq hwc hbc hcb hbc2 hcb2 HAD
       go_upto_region 11 with (fail)
       clear t0
       generalize (w6.alloc _)=w7 at *
       have c0:=HCB.out.cell 0
       have c1:=HCB.out.cell 1
       have c2:=HCB.out.cell 2
       have c3:=HCB.out.cell 3
       have cl:=HCB.out.lt
       simp only[List.getElem?_toArray,List.getElem?_cons_zero,List.getElem?_cons_succ] at c0 c1 c2 c3
       go_wp2_with fail
       refine HHA.out.mono ?_
       rintro e w8 ⟨b8,own8,rfl,hI8,hZ8⟩
       rw[add_snd] at hI8
       have HR9:=LH (show TeRel P own H i 3 ks w1 (.int .i64 ((q+1:Nat):Int)) w8 from⟨q+1,rfl,by omega,own8,by rw[HSN.out,HTZ.out];exact hI8,HZ7.out.trans (hZ8.mono (fun _ h=>st_add h))⟩)
       clear hI8 hZ8 c0 c1 c2 c3 cl
       go_wp2_with fail
       go_roundw
       case rel=>exact HR9.out
       case measure=>simp[intOf];omega
      ·
       have hceq:tellC H2 i kind=⟨kind,i,0,[]⟩:=by unfold tellC;rw[if_neg hk3]
       have hwc:=HWF2.out.tellC h1 (show i≤H2.m by omega) kind
       rw[hceq] at hwc
       have HTZ:=HTY
       rw[hceq] at HTZ
       have HAD:=LH (fun W (hW:HI W own2 P H2)=>q6u hW HWF2.out (show k<H2.c by omega) hjn ⟨⟨kind,i,0,[]⟩,none,0,0⟩ ⟨rfl,Rd.none_ W W.heap.size 3 none⟩ (fun _=>rfl) (Nat.zero_le _) hwc)
       have hbc:=(Below.refl w6.heap.size w6).alloc (Nat.le_refl _) (.cells #[.int .i64 kind,.int .i64 i,.int .i64 0,.slice none 0 0] 69)
       have hcb:=Blk.new w6 69 #[.int .i64 kind,.int .i64 i,.int .i64 0,.slice none 0 0]
       have hbc2:=hbc
       have hcb2:=hcb
       have HI7:=LH (HI6.out.below hbc2)
       have HZ7:=LH (HZ6.out.trans (HZ.below own2 hbc2))
       have HCB:=LH hcb2
       have t0:=(hbc.cell (p:=⟨P.gt i,5,none⟩) hdl6).trans hd56
       have hbz:w6.heap.size<(w6.alloc (.cells #[.int .i64 kind,.int .i64 i,.int .i64 0,.slice none 0 0] 69)).heap.size:=by simp
       have hgt7:=Nat.lt_of_lt_of_le hdl6 hbc.size
       have dk:(kind == 3)=false:=by simpa using hk3
       clear hk3
       have hHA:=HAD.out _ HI7.out
       unfold pw at hHA
       have HHA:=LH hHA
       clear hHA hceq hwc hbc hcb hbc2 hcb2 HAD
       go_upto_region 11 with (fail)
       clear t0
       generalize (w6.alloc _)=w7 at *
       have c0:=HCB.out.cell 0
       have c1:=HCB.out.cell 1
       have c2:=HCB.out.cell 2
       have c3:=HCB.out.cell 3
       have cl:=HCB.out.lt
       simp only[List.getElem?_toArray,List.getElem?_cons_zero,List.getElem?_cons_succ] at c0 c1 c2 c3
       go_wp2_with fail
       refine HHA.out.mono ?_
       rintro e w8 ⟨b8,own8,rfl,hI8,hZ8⟩
       rw[add_snd] at hI8
       have HR9:=LH (show TeRel P own H i kind ks w1 (.int .i64 ((q+1:Nat):Int)) w8 from⟨q+1,rfl,by omega,own8,by rw[HSN.out,HTZ.out];exact hI8,HZ7.out.trans (hZ8.mono (fun _ h=>st_add h))⟩)
       clear hI8 hZ8 c0 c1 c2 c3 cl
       go_wp2_with fail
       go_roundw
       case rel=>exact HR9.out
       case measure=>simp[intOf];omega
    ·rw[q3k hp1] at HP1
     have HTN:=LH (HT.out.trans (if_neg (fun h=>by rw[hp1] at h;cases h.1)))
     go_wp2_with fail
     refine HP1.out.mono ?_
     rintro e w6 ⟨rfl,hb6⟩
     have HR9:=LH (show TeRel P own H i kind ks w1 (.int .i64 ((q+1:Nat):Int)) w6 from⟨q+1,rfl,by omega,own2,by rw[HSN.out,HTN.out];exact HI4.out.below hb6,HZ4.out.trans (HZ.below own2 hb6)⟩)
     clear hb6
     go_wp2_with fail
     go_roundw
     case rel=>exact HR9.out
     case measure=>simp[intOf];omega
  ·obtain rfl:q=ks.length:=by omega
   rw[List.take_length] at hI2
   have HF:=LH (show GsP P own (H.tells i kind) w wr from⟨own2,by rw[HTL.out];exact hI2,(HZ.below own HB1.out).trans hZ2⟩)
   clear hI2 hZ2
   go_wp2_with fail
   go_end0
   exact⟨rfl,HF.out⟩
end
theorem q2f (H:Hs) (i:Nat) (t:Txn):(H.setTx i t).tx i=t:=q03 _ _ _
theorem Wf.setTx {H:Hs} (h:Wf H) {i:Nat} {t:Txn} (hx:WfX t) (ht:t.time=(H.tx i).time):Wf (H.setTx i t):=by
 refine h.of rfl rfl rfl rfl h.nd h.tab h.sto (fun _ _=>rfl) h.net rfl (fun k h1 h2=>?_) (fun k=>?_)
 ·show WfX (upd H.tx i t k)
  by_cases e:k=i
  ·subst e;rw[q03];exact hx
  ·rw[q07 e];exact h.tx k h1 h2
 ·show(upd H.tx i t k).time=_
  by_cases e:k=i
  ·subst e;rw[q03];exact ht
  ·rw[q07 e]
theorem Wf.rel {H:Hs} (h:Wf H) {s:Nat} (hs:s<H.c) (tx:Int):Wf (H.rel s tx):=by
 have hsm:=q0b.rel H s tx
 have hok:=(h.tkOk hs).rel tx
 refine h.of hsm.n hsm.c hsm.m hsm.time (fun k j hk hj=>?_) (fun k hk=>?_) (fun k hk=>?_) (fun k hk=>?_) (by rw[hsm.net];exact h.net) (by rw[hsm.net]) (fun i h1 h2=>(h.tx i h1 h2).sub rfl rfl rfl List.filter_sublist) (fun i=>(hsm.tx i).2.2.2.2)
 ·by_cases e:k=s
  ·rw[e,hsm.nd];exact h.nd s j hs hj
  ·rw[hsm.sh k e];exact h.nd k j hk hj
 ·by_cases e:k=s
  ·rw[e];exact hok.tab
  ·rw[hsm.sh k e];exact h.tab k hk
 ·by_cases e:k=s
  ·rw[e];exact hok.sto
  ·rw[hsm.sh k e];exact h.sto k hk
 ·by_cases e:k=s
  ·rw[e,hsm.dead]
  ·rw[hsm.sh k e]
noncomputable def reld (H:Hs) (i:Nat) (ks:List Nat):Hs:=ks.foldl (fun(H:Hs) k=>H.rel k i) H
theorem reld_snoc {H:Hs} {i q k:Nat} {ks:List Nat} (h:ks[q]? = some k):reld H i (ks.take (q+1))=(reld H i (ks.take q)).rel k i:=by
 unfold reld;rw[List.take_add_one,h,List.foldl_append];rfl
theorem q2z (i:Nat):∀ (ks:List Nat) (H:Hs),(reld H i ks).c=H.c∧(reld H i ks).n=H.n∧(reld H i ks).m=H.m∧(reld H i ks).time=H.time∧∀ a,((reld H i ks).tx a).state=(H.tx a).state∧((reld H i ks).tx a).writes=(H.tx a).writes∧((reld H i ks).tx a).shards=(H.tx a).shards∧((reld H i ks).tx a).places=(H.tx a).places∧((reld H i ks).tx a).time=(H.tx a).time
 | [],H=>⟨rfl,rfl,rfl,rfl,fun _=>⟨rfl,rfl,rfl,rfl,rfl⟩⟩
 | k::ks,H=>by
  have hs:=q0b.rel H k i
  obtain⟨b1,b2,b3,b4,b5⟩:=q2z i ks (H.rel k i)
  exact⟨b1.trans hs.c,b2.trans hs.n,b3.trans hs.m,b4.trans hs.time,fun a=>⟨(b5 a).1.trans (hs.tx a).1,(b5 a).2.1.trans (hs.tx a).2.1,(b5 a).2.2.1.trans (hs.tx a).2.2.1,(b5 a).2.2.2.1.trans (hs.tx a).2.2.2.1,(b5 a).2.2.2.2.trans (hs.tx a).2.2.2.2⟩⟩
theorem Wf.reld (i:Nat):∀ (ks:List Nat) {H:Hs},Wf H→(∀ k∈ks,k<H.c)→Wf (reld H i ks)
 | [],_,h,_=>h
 | k::ks,H,h,hk=>Wf.reld i ks (h.rel (hk k (List.mem_cons_self ..)) i) (fun q hq=>by rw[(q0b.rel H k i).c];exact hk q (List.mem_cons_of_mem _ hq))
def Hs.dropTx (H:Hs) (i:Nat):Hs:=H.setTx i { H.tx i with state:=4,wants:=[] }
theorem q3r (H:Hs) (i:Nat):H.abort i=(reld (H.dropTx i) i (H.tx i).comes).tells i 4:=rfl
theorem Wf.dropTx {H:Hs} (h:Wf H) {i:Nat} (h1:1≤i) (hi:i≤H.m):Wf (H.dropTx i):=h.setTx ((h.tx i h1 hi).sub rfl rfl rfl (List.nil_sublist _)) rfl
theorem Wf.tells {H:Hs} (h:Wf H) (hc:H.c=3) {i:Nat} (h1:1≤i) (hi:i≤H.m) (kind:Int):Wf (H.tells i kind):=h.telld h1 _ hi (fun k hk=>by have:=q1a hk;omega)
theorem Wf.abort {H:Hs} (h:Wf H) (hc:H.c=3) {i:Nat} (h1:1≤i) (hi:i≤H.m):Wf (H.abort i):=by
 rw[q3r]
 have hr:=q2z i (H.tx i).comes (H.dropTx i)
 exact((h.dropTx h1 hi).reld i _ (fun k hk=>by show k<H.c;have:=q1a hk;omega)).tells (hr.1.trans hc) h1 (by rw[hr.2.2.1];exact hi) 4
def AbRel (P:Ptr) (own:Own) (H1:Hs) (i:Nat) (ks:List Nat) (w1:World) (v:Value) (wr:World):Prop:=∃ q:Nat,v=.int .i64 q∧q≤ks.length∧GsP P own (reld H1 i (ks.take q)) w1 wr
section
variable {w w':World} {own own':Own} {P:Ptr} {H:Hs}
theorem q33 {i:Nat} (h:HI w own P H) (wf:Wf H) (hc:H.c=3) (h1:1≤i) (hi:i≤H.m):Calls Tryz.prog 40 #[pw P.g,pw (P.gt i)] w fun e w'=>e=.returned (.tuple #[])∧GsP P own (H.abort i) w w':=by
 obtain⟨v,hv⟩:=h.tx i h1 hi
 have f1:=hv.blk.frozen 1
 have f8:=hv.blk.frozen 8
 obtain⟨_,k1,_,_,_,_,k8,gl⟩:=hv.cells
 obtain⟨A8,c8,hV8,_,_⟩:=q01 hv.wants
 have hv1:=hv.setState 4
 have hv2:=hv1.setWants (Ext.refl own _) (Fr.refl _ _) (World.ownsRow_nil _ _ _ _) (fun b hb=>by cases hb) (V':=.slice none 0 0) (l':=[])
 have hf2:Fr (OS own (fun t=>t=.tx i)) w ((w.setCell ⟨P.gt i,1,none⟩ (.int .i64 4)).setCell ⟨P.gt i,8,none⟩ (.slice none 0 0)):=(((Fr.refl _ w).setCell (p:=⟨P.gt i,1,none⟩) (.inl ⟨_,hv.gt,rfl⟩) _).setCell (p:=⟨P.gt i,8,none⟩) (.inl ⟨_,hv.gt,rfl⟩) _)
 have hI2:=h.setTx' hf2 (Ext.refl own _) (fun b hb=>Nat.lt_of_lt_of_le (h.lt b hb) hf2.size) ⟨_,hv2⟩
 have HI2:=LH (show HI _ own P (H.dropTx i) from hI2)
 have HZ2:=LH (show HStep w own _ own from⟨Ext.refl own _,hf2.mono (fun _ _ ⟨t,a,b⟩=>⟨t,a,st_tx b⟩),fun _ _ h=>h⟩)
 have HW2:=LH (wf.dropTx h1 hi)
 have hcm:=q8a HI2.out HW2.out h1 hi
 have hct:((H.dropTx i).tx i).comes=(H.tx i).comes:=by unfold Hs.dropTx;rw[q2f];rfl
 unfold ComesP Txn.comesI at hcm
 rw[hct] at hcm
 have HCM:=LH hcm
 have HLT:=LH (fun k (hk:k∈(H.tx i).comes)=>q1a hk)
 have hcl:=q89 (H.tx i)
 have HAB:=LH (q3r H i)
 rw[hV8] at k8
 generalize (H.tx i).comes=ks at *
 have hc1:(H.dropTx i).c=3:=hc
 have hm1:(H.dropTx i).m=H.m:=rfl
 clear h wf hv hv1 hv2 hf2 hI2 hcm hct hV8
 unfold pw at *
 go_enter Tryz.func40,Tryz.ntmps40
 go_wp2_with fail
 refine HCM.out.mono ?_
 rintro e w1 ⟨V,rfl,hrow,hb1⟩
 obtain⟨A,c,rfl,_,_⟩:=q01 hrow
 have HROW:=LH hrow
 have HH1:=LH (HI2.out.below hb1)
 have HZ1:=LH (HZ2.out.trans (HZ.below own hb1))
 have HFREE:=LH (fun b (hb:(Value.slice A ks.length c).ownBlock=some b)=>HI2.out.free (hrow.lt b hb).1)
 clear hrow hb1 HCM HI2 HZ2 k1 k8 f1 f8 gl
 go_wp2_with fail
 go_loopw [16] (AbRel P own (H.dropTx i) i ks w1) (fun v _=>ks.length-(intOf v).toNat)
 case atStart=>exact⟨0,rfl,Nat.zero_le _,own,HH1.out,HZ.refl _ _ _⟩
 case round=>
  obtain⟨q,rfl,hq,own2,hI2,hZ2⟩:=hrel
  by_cases hlt:(q:Int)<ks.length
  ·obtain⟨r,c',hV,hr,k,hk,hkc⟩:=own_int (q1x HROW.out HFREE.out hZ2) (k:=q) (by omega) rfl
   injection hV with hA _ hcp
   subst hA hcp
   have hk2:=HLT.out k (List.mem_of_getElem? hk)
   have HSN:=LH (reld_snoc (H:=H.dropTx i) (i:=i) hk)
   have hsm:=q2z i (ks.take q) (H.dropTx i)
   have hwf2:Wf (reld (H.dropTx i) i (ks.take q)):=HW2.out.reld i _ (fun a ha=>by have:=HLT.out a (List.mem_of_mem_take ha);omega)
   have hcc:(reld (H.dropTx i) i (ks.take q)).c=3:=hsm.1.trans hc1
   have hmm:(reld (H.dropTx i) i (ks.take q)).m=H.m:=hsm.2.2.1.trans hm1
   generalize reld (H.dropTx i) i (ks.take q)=H2 at *
   obtain⟨vh,hvh⟩:=hI2.hs
   obtain⟨_,c3,_,_,gl⟩:=hvh.cells
   obtain⟨r3,k3,hVr,hr3,hc3⟩:=hvh.shAt (s:=k) (by omega)
   rw[hVr,hcc] at c3
   have hks:(k:Int)<3:=by omega
   obtain⟨vt,hvt⟩:=hI2.tx i h1 (by omega)
   have t0:wr.drew.cell? ⟨P.gt i,0,none⟩=some (.int .i64 i):=hvt.cells.1
   have hkH:k<H2.c:=by omega
   have HRL:=LH (q42 (hI2.below (Below.refl wr.heap.size wr).drew) hkH i (q0j (by omega) (by have:=hwf2.m60;omega)) (hwf2.tab k hkH))
   have HOK:=LH (hwf2.tkOk hkH)
   have HZ3:=LH (hZ2.trans (HZ.below own2 (Below.refl wr.heap.size wr).drew))
   unfold pw at hc3
   clear hI2 hZ2 hwf2 hk hvh hVr hsm hvt
   go_upto_region 6 with (fail)
   clear hkc c3 hc3 gl
   refine wp_region_any (by kernel_rfl) ?_
   change wpAny _ _ _ _ _ _ _ (World.drew _)
   refine q0e (fun W=>W.cell? ⟨P.gt i,0,none⟩=some (.int .i64 i)) 10 (fun _ _ _ _ _ h=>h) (fun HQP=>?_)
   have HCC:=t0
   refine nA 0 [10] rfl rfl HQP HCC (fun w' hw'=>by go_simp;rfl) ?_
   refine nA 1 [10] rfl rfl HQP HCC (fun w' hw'=>by go_simp;rfl) ?_
   refine nA 2 [3,4,9,10] rfl rfl HQP HCC (fun w' hw'=>by go_simp;rfl) ?_
   refine nA 3 [4,9,10] rfl rfl HQP HCC (fun w' hw'=>by go_simp;rfl) ?_
   refine nA 4 [9,10] rfl rfl HQP HCC (fun w' hw'=>by go_simp;rfl) ?_
   refine nA 5 [6,7,8,9,10] rfl rfl HQP HCC (fun w' hw'=>by go_simp;rfl) ?_
   refine nA 6 [7,8,9,10] rfl rfl HQP HCC (fun w' hw'=>by go_simp;rfl) ?_
   refine nA 7 [8,9,10] rfl rfl HQP HCC (fun w' hw'=>by go_simp;rfl) ?_
   refine nA 8 [9,10] rfl rfl HQP HCC (fun w' hw'=>by go_simp;rfl) ?_
   clear HCC t0
   refine nO 9 rfl (fun KK hK=>?_)
   go_simp
   refine HRL.out.mono ?_
   rintro e w7 ⟨V7,gs,own7,rfl,hrow7,hfree7,hgl7,heq7,hI7,hZ7⟩
   obtain⟨A7,c7',rfl,_,_⟩:=q01 hrow7
   obtain⟨vt7,hvt7⟩:=hI7.tx i h1 (show i≤H2.m by omega)
   have hC7:=hvt7.cells.1
   have hgr:=q4t (s:=k) hI7 (Nat.le_trans HOK.out.m (by omega)) (fun a h1 h2=>HOK.out.wn a h1 h2) hrow7 hfree7 (by omega)
   rw[heq7] at hgr
   have HGR:=LH hgr
   have HZ7:=LH (HZ3.out.trans (hZ7.mono (fun _ h=>st_sh h)))
   unfold pw at HGR
   clear hgr hrow7 hfree7 hI7 heq7 hZ7 HRL hvt7
   go_simp
   refine hK _ _ (fun _=>hC7) ?_
   clear hK KK hC7
   refine nO 10 rfl (fun KK hK=>?_)
   go_simp
   refine HGR.out.mono ?_
   rintro e w8 ⟨rfl,own8,hI8,hZ8⟩
   go_simp
   refine hK _ _ (fun h=>absurd h (by decide)) ?_
   clear hK KK
   refine ndone (by kernel_rfl) ?_ _
   clear HQP HGR
   have HR9:=LH (show AbRel P own (H.dropTx i) i ks w1 (.int .i64 ((q+1:Nat):Int)) w8 from⟨q+1,rfl,by omega,own8,by rw[HSN.out];exact hI8,HZ7.out.trans (hZ8.mono (fun _ h=>st_txt h))⟩)
   clear hI8 hZ8
   go_wp2_with fail
   go_roundw
   case rel=>exact HR9.out
   case measure=>simp[intOf];omega
  ·obtain rfl:q=ks.length:=by omega
   rw[List.take_length] at hI2
   have hsm:=q2z i ks (H.dropTx i)
   have hwf2:Wf (reld (H.dropTx i) i ks):=HW2.out.reld i _ (fun a ha=>by have:=HLT.out a ha;omega)
   have HT:=LH (q50 (kind:=4) hI2 hwf2 (hsm.1.trans hc1) h1 (show i≤(reld (H.dropTx i) i ks).m by rw[hsm.2.2.1];exact hi))
   unfold pw at HT
   have HZ3:=LH (HZ1.out.trans hZ2)
   clear hI2 hZ2 hwf2 hsm
   go_wp2_with fail
   refine HT.out.mono ?_
   rintro e w9 ⟨rfl,own9,hI9,hZ9⟩
   have HF:=LH (show GsP P own (H.abort i) w w9 from⟨own9,by rw[HAB.out];exact hI9,HZ3.out.trans hZ9⟩)
   clear hI9 hZ9
   go_wp2_with fail
   go_end0
   exact⟨rfl,HF.out⟩
end
theorem q6c {i:Nat} {p q:Nat→Bool} (hp:p i=false) (hq:q i=true):∀ {l:List Nat},l.Nodup→i∈l→(∀ k∈l,k≠i→q k=p k)→(l.filter q).length=(l.filter p).length+1
 | [],_,hi,_=>by cases hi
 | k::l,hn,hi,he=>by
  obtain⟨h1,h2⟩:=List.nodup_cons.1 hn
  rcases List.mem_cons.1 hi with e|hi
  ·subst e
   have:l.filter q=l.filter p:=List.filter_congr (fun a ha=>he a (List.mem_cons_of_mem _ ha) (fun e=>h1 (e▸ha)))
   rw[List.filter_cons_of_pos hq,List.filter_cons_of_neg (by rw[hp];simp),this]
   rfl
  ·have ih:=q6c hp hq h2 hi (fun a ha=>he a (List.mem_cons_of_mem _ ha))
   have hk:q k=p k:=he k (List.mem_cons_self ..) (fun e=>h1 (e▸hi))
   cases e:p k with
   | true=>rw[List.filter_cons_of_pos (by rw[hk];exact e),List.filter_cons_of_pos e,List.length_cons,List.length_cons,ih]
   | false=>rw[List.filter_cons_of_neg (by rw[hk,e];simp),List.filter_cons_of_neg (by rw[e];simp),ih]
def Hs.timed1 (H:Hs) (i:Nat):Hs:={ H.setTx i { H.tx i with time:=H.time+1 } with time:=H.time+1 }
theorem timed_eq {H:Hs} (h:Wf H) (i:Nat):H.timed i=if (H.tx i).time=0 then H.timed1 i else H:=by
 have:=h.time60
 unfold Hs.timed Hs.timed1
 rw[show wrap64 (H.time+1)=H.time+1 from IntWalk.wrap64_in _ ⟨by omega,by omega⟩]
theorem tcnt_timed {H:Hs} (h:Wf H) {i:Nat} (h1:1≤i) (hi:i≤H.m) (h0:(H.tx i).time=0):tcnt (H.timed1 i)=tcnt H+1:=by
 have ht:=h.time60
 unfold tcnt
 refine q6c (i:=i) (by simp[h0]) ?_ List.nodup_range' (List.mem_range'_1.2 ⟨h1,show i<1+H.m by omega⟩) (fun k hk e=>?_)
 ·show decide ((upd H.tx i _ i).time≠0)=true
  rw[q03]
  simp only[ne_eq,decide_not,Bool.not_eq_true',decide_eq_false_iff_not]
  omega
 ·show decide ((upd H.tx i _ k).time≠0)=_
  rw[q07 e]
theorem Wf.timed1 {H:Hs} (h:Wf H) {i:Nat} (h1:1≤i) (hi:i≤H.m) (h0:(H.tx i).time=0):Wf (H.timed1 i):=by
 have ht:=h.time60
 have htm:=h.tm
 refine⟨h.n4,h.c3,h.m60,h.nd,h.tab,h.sto,h.dead,h.net,h.down,fun k k1 k2=>?_,?_,fun k k1 k2=>?_⟩
 ·show WfX (upd H.tx i _ k)
  by_cases e:k=i
  ·subst e;rw[q03];exact(h.tx k k1 k2).sub rfl rfl rfl (List.Sublist.refl _)
  ·rw[q07 e];exact h.tx k k1 k2
 ·show H.time+1=(tcnt (H.timed1 i):Int)
  rw[tcnt_timed h h1 hi h0];omega
 ·show 0≤(upd H.tx i _ k).time∧(upd H.tx i _ k).time≤H.time+1
  by_cases e:k=i
  ·subst e;rw[q03];exact⟨by show 0≤H.time+1;omega,Int.le_refl _⟩
  ·rw[q07 e];have:=h.tle k k1 k2;omega
theorem Wf.timed {H:Hs} (h:Wf H) {i:Nat} (h1:1≤i) (hi:i≤H.m):Wf (H.timed i):=by
 rw[timed_eq h]
 split
 ·rename_i h0;exact h.timed1 h1 hi h0
 ·exact h
theorem q11 (H:Hs) (i:Nat):(H.timed i).n=H.n∧(H.timed i).c=H.c∧(H.timed i).m=H.m∧(H.timed i).sh=H.sh∧(H.timed i).net=H.net:=by
 unfold Hs.timed;split <;> exact⟨rfl,rfl,rfl,rfl,rfl⟩
def Hs.stateTx (H:Hs) (i:Nat) (st:Int):Hs:=H.setTx i { H.tx i with state:=st }
theorem Wf.stateTx {H:Hs} (h:Wf H) {i:Nat} (h1:1≤i) (hi:i≤H.m) (st:Int):Wf (H.stateTx i st):=h.setTx ((h.tx i h1 hi).sub rfl rfl rfl (List.Sublist.refl _)) rfl
theorem Wf.commit {H:Hs} (h:Wf H) (hc:H.c=3) {i:Nat} (h1:1≤i) (hi:i≤H.m):Wf (H.commit i):=(h.stateTx h1 hi 3).tells hc h1 hi 3
theorem Wf.decC {H:Hs} (h:Wf H) {i:Nat} (h1:1≤i) (hi:i≤H.m):WfC ⟨3,i,(H.tx i).time,[]⟩:=by
 have:=h.tellC h1 hi 3
 exact this
section
variable {w w':World} {own own':Own} {P:Ptr} {H:Hs}
theorem NetI.recs {base g off nd:Nat} {T:TypeId} {cs cs':Array Value} {V:Value} {D:Option Nat} {L:List MsR} {dead:Int→Bool} {lost:Int} {S:Nat→Prop} (h:NetI w base g off T cs V D nd L dead lost) (hf:Fr S w w') (hn:∀ b,(V.ownBlock=some b∨D=some b∨∃ x∈L,(Value.slice x.A x.n x.k).ownBlock=some b)→¬S b)
  (hb:Blk w' g T cs') (h0:cs'[off]? = some V) (h1:cs'[off+1]? = some (.map D)) (h2:cs'[off+2]? = some (.int .i64 lost)):NetI w' base g off T cs' V D nd L dead lost:=
 ⟨hb,h0,h1,h2,hf.own h.row (fun b hb=>hn b (.inl hb)),fun x hx=>⟨hf.own (h.own x hx).1 (fun b hb=>hn b (.inr (.inr ⟨x,hx,hb⟩))),(h.own x hx).2⟩,h.down.fr hf (fun b hb=>hn b (.inr (.inl hb))),h.len,h.ne,Nat.le_trans h.bg hf.size⟩
theorem HsI.setTime {c m:Nat} {net:NetS} {time:Int} {v:HsV} (h:HsI w own P c m net time v) (t:Int):HsI (w.setCell ⟨P.g,5,none⟩ (.int .i64 t)) own P c m net t v:=by
 have hf:=Fr.set1 P.g w 5 (.int .i64 t)
 have hne:∀ b tg,own b=some tg→tg≠.hs→¬b=P.g:=fun b tg hb hn e=>by rw[e,h.gt] at hb;injection hb with hb;exact hn hb.symm
 exact⟨h.nt.recs hf (fun b hb=>hne b _ (h.nett b hb) (by simp)) (h.nt.blk.set_ 5 _) rfl rfl rfl,h.msgs,h.nett,h.few,hf.own h.shr (fun b hb=>hne b _ (h.shrt b hb) (by simp)),h.shrt,hf.own h.txr (fun b hb=>hne b _ (h.txrt b hb) (by simp)),h.txrt,h.gt⟩
theorem HI.timed1 (h:HI w own P H) {i:Nat} (h1:1≤i) (hi:i≤H.m):HI ((w.setCell ⟨P.g,5,none⟩ (.int .i64 (H.time+1))).setCell ⟨P.gt i,5,none⟩ (.int .i64 (H.time+1))) own P (H.timed1 i)∧HStep w own ((w.setCell ⟨P.g,5,none⟩ (.int .i64 (H.time+1))).setCell ⟨P.gt i,5,none⟩ (.int .i64 (H.time+1))) own:=by
 obtain⟨v,hv⟩:=h.hs
 have hf0:Fr (OS own (fun t=>t=.hs)) w (w.setCell ⟨P.g,5,none⟩ (.int .i64 (H.time+1))):=(Fr.set1 P.g w 5 _).mono (fun b _ e=>⟨_,by rw[e];exact hv.gt,rfl⟩)
 have hf:=q27 hf0 (Z':=hsTag) (fun t e=>.inl e)
 have hI1:=h.setHs' (net':=H.net) (time':=H.time+1) hf (Ext.refl own _) (fun b hb=>Nat.lt_of_lt_of_le (h.lt b hb) hf.size) ⟨v,hv.setTime _⟩
 obtain⟨vt,hvt⟩:=hI1.tx i h1 hi
 have hf2:Fr (OS own (fun t=>t=.tx i)) (w.setCell ⟨P.g,5,none⟩ (.int .i64 (H.time+1))) ((w.setCell ⟨P.g,5,none⟩ (.int .i64 (H.time+1))).setCell ⟨P.gt i,5,none⟩ (.int .i64 (H.time+1))):=(Fr.set1 (P.gt i) _ 5 _).mono (fun b _ e=>⟨_,by rw[e];exact hvt.gt,rfl⟩)
 have hI2:=hI1.setTx' hf2 (Ext.refl own _) (fun b hb=>Nat.lt_of_lt_of_le (hI1.lt b hb) hf2.size) ⟨vt,hvt.setTime (H.time+1)⟩
 exact⟨hI2,(⟨Ext.refl own _,hf0.mono (fun _ _ ⟨t,a,b⟩=>⟨t,a,st_hs b⟩),fun _ _ h=>h⟩:HStep w own _ own).trans ⟨Ext.refl own _,hf2.mono (fun _ _ ⟨t,a,b⟩=>⟨t,a,st_tx b⟩),fun _ _ h=>h⟩⟩
theorem HI.stateTx (h:HI w own P H) {i:Nat} (h1:1≤i) (hi:i≤H.m) (st:Int):HI (w.setCell ⟨P.gt i,1,none⟩ (.int .i64 st)) own P (H.stateTx i st)∧HStep w own (w.setCell ⟨P.gt i,1,none⟩ (.int .i64 st)) own:=by
 obtain⟨vt,hvt⟩:=h.tx i h1 hi
 have hf2:Fr (OS own (fun t=>t=.tx i)) w (w.setCell ⟨P.gt i,1,none⟩ (.int .i64 st)):=(Fr.set1 (P.gt i) _ 1 _).mono (fun b _ e=>⟨_,by rw[e];exact hvt.gt,rfl⟩)
 exact⟨h.setTx' hf2 (Ext.refl own _) (fun b hb=>Nat.lt_of_lt_of_le (h.lt b hb) hf2.size) ⟨vt,hvt.setState st⟩,⟨Ext.refl own _,hf2.mono (fun _ _ ⟨t,a,b⟩=>⟨t,a,st_tx b⟩),fun _ _ h=>h⟩⟩
def DecP (P:Ptr) (own:Own) (H:Hs) (i:Nat) (w:World) (e:Ending) (w':World):Prop:=∃ b,e=.returned (.bool (H.decides i b).2)∧GsP P own (H.decides i b).1 w w'
theorem q5n {i:Nat} {b:Bool} (h:H.head 2=none):H.decides i b=(H,false):=by unfold Hs.decides;rw[h]
theorem q6w {i j p:Nat} {b:Bool} (h:H.head 2=some j) (hp:place ((H.sh 2).nd j).log 3 i=some p):H.decides i b=if H.stable 2 j≤p then(H,false) else(H.commit i,true):=by unfold Hs.decides;rw[h];simp only[hp]
theorem qa4 {i j:Nat} {b:Bool} (h:H.head 2=some j) (hp:place ((H.sh 2).nd j).log 3 i=none):H.decides i b =
  if ((H.timed i).add 2 j ⟨3,i,((H.timed i).tx i).time,[]⟩ b).1<0 then(((H.timed i).add 2 j ⟨3,i,((H.timed i).tx i).time,[]⟩ b).2,false)
  else if ((H.timed i).add 2 j ⟨3,i,((H.timed i).tx i).time,[]⟩ b).2.stable 2 j≤((H.timed i).add 2 j ⟨3,i,((H.timed i).tx i).time,[]⟩ b).1 then(((H.timed i).add 2 j ⟨3,i,((H.timed i).tx i).time,[]⟩ b).2,false)
  else(((H.timed i).add 2 j ⟨3,i,((H.timed i).tx i).time,[]⟩ b).2.commit i,true):=by unfold Hs.decides;rw[h];simp only[hp]
theorem decides_any {i:Nat} (h:HI w own P H) (wf:Wf H) (hc:H.c=3) (h1:1≤i) (hi:i≤H.m):Calls Tryz.prog 97 #[pw P.g,pw (P.gt i)] w (DecP P own H i w):=by
 obtain⟨vh,hvh⟩:=h.hs
 obtain⟨_,c3,_,_,gl⟩:=hvh.cells
 obtain⟨r3,k3,hVr,hr3,hc3⟩:=hvh.shAt (s:=2) (by omega)
 rw[hVr,hc] at c3
 have HH:=LH h
 have HWF:=LH wf
 clear h wf hvh hVr
 unfold pw at *
 go_enter Tryz.func97,Tryz.ntmps97
 go_upto_region 1 with (fail)
 go_quiet (fail)
 generalize hw1:w.drewN _=w1
 have hb1:Below w.heap.size w w1:=hw1▸q08 (Below.refl _ _) _
 have HI1:=LH (HH.out.below hb1)
 have HZ1:=LH (HZ.below (Z:=StTag) own hb1)
 have HHD:=LH (q5f HI1.out HWF.out (s:=2) (by omega))
 unfold pw at HHD
 clear c3 hc3 gl hr3 hb1 HH hw1
 go_wp2_with fail
 refine HHD.out.mono ?_
 rintro e w2 ⟨rfl,hb2⟩
 have HI2:=LH (HI1.out.below hb2)
 have HZ2:=LH (HZ1.out.trans (HZ.below own hb2))
 clear hb2 HI1 HZ1 HHD
 rcases hhd:H.head 2 with _|j
 ·have HF:=LH (show DecP P own H i w (.returned (.bool false)) w2 from⟨false,by rw[q5n hhd],own,by rw[q5n hhd];exact HI2.out,HZ2.out⟩)
  unfold headV
  go_wp2_with fail
  go_ret
  exact HF.out
 ·have hjn:=q44 hhd
  obtain⟨C,V2,L,hN,hNt⟩:=HI2.out.nd 2 j (by omega) hjn
  have hNd:=hN.tall (Below.refl w2.heap.size w2).drew
  have HLG:=LH (q7s hNd)
  have hlog:=hN.log
  have hLl:=hN.len
  obtain⟨vt,hvt⟩:=HI2.out.tx i h1 hi
  obtain⟨d0,d1,_,_,_,d5,_,dl⟩:=hvt.cells
  have HHD2:=LH hhd
  clear hN hNt hNd hvt
  unfold headV pw
  go_upto_region 5 with (fail)
  refine wp_region_any (by kernel_rfl) ?_
  change wpAny _ _ _ _ _ _ _ (World.drew _)
  refine q0e (fun W=>W.cell? ⟨P.gt i,0,none⟩=some (.int .i64 i)) 8 (fun _ _ _ _ _ h=>h) (fun HQP=>?_)
  have HCC:w2.drew.cell? ⟨P.gt i,0,none⟩=some (.int .i64 i):=d0
  refine nA 0 [1,6,7] rfl rfl HQP HCC (fun w' hw'=>by go_simp;rfl) ?_
  refine nA 2 [3,4,5,6,7] rfl rfl HQP HCC (fun w' hw'=>by go_simp;rfl) ?_
  refine nA 3 [4,5,6,7] rfl rfl HQP HCC (fun w' hw'=>by go_simp;rfl) ?_
  refine nA 4 [5,6,7] rfl rfl HQP HCC (fun w' hw'=>by go_simp;rfl) ?_
  refine nA 5 [6,7] rfl rfl HQP HCC (fun w' hw'=>by go_simp;rfl) ?_
  clear HCC
  refine nO 1 rfl (fun KK hK=>?_)
  go_simp
  refine HLG.out.mono ?_
  rintro e w4 ⟨A5,k5,rfl,hrow5,hb4,_⟩
  have hb4':=(Below.refl w2.heap.size w2).drew.trans hb4
  have HI4:=LH (HI2.out.below hb4')
  have HZ4:=LH (HZ2.out.trans (HZ.below own hb4'))
  have hd0:=(hb4'.cell (p:=⟨P.gt i,0,none⟩) dl).trans d0
  have hdl:=Nat.lt_of_lt_of_le dl hb4'.size
  have HP1:=LH (q54 0 _ _ L 3 i w4 hrow5 rfl (by omega))
  go_simp
  refine hK _ _ (fun _=>hd0) ?_
  clear hK KK d0 d1 d5 dl hrow5 hb4 hb4' HLG HI2 HZ2
  refine nO 6 rfl (fun KK hK=>?_)
  go_simp
  refine HP1.out.mono ?_
  rintro e w5 ⟨rfl,hb5⟩
  have HI5:=LH (HI4.out.below hb5)
  have HZ5:=LH (HZ4.out.trans (HZ.below own hb5))
  have hd05:=(hb5.cell (p:=⟨P.gt i,0,none⟩) hdl).trans hd0
  go_simp
  refine hK _ _ (fun _=>hd05) ?_
  clear hK KK hb5 HI4 HZ4 hd0 hdl HP1
  refine nO 7 rfl (fun KK hK=>?_)
  go_simp
  refine hK _ _ (fun _=>hd05) ?_
  clear hK KK
  refine ndone (by kernel_rfl) ?_ _
  clear HQP hd05
  have hjn2:=hjn
  obtain⟨vt5,hvt5⟩:=HI5.out.tx i h1 hi
  obtain⟨d0,d1,_,_,_,d5,_,dl⟩:=hvt5.cells
  have f5:=hvt5.blk.frozen 5
  obtain⟨vh5,hvh5⟩:=HI5.out.hs
  obtain⟨_,_,_,t5,gl5⟩:=hvh5.cells
  have g5:=hvh5.nt.blk.frozen 5
  have htb:=HWF.out.time60
  clear hvt5 hvh5 hlog
  go_upto_if 32 with (fail)
  go_cut [7] (fun v7 wx=>∃ (b:Bool) (k:Int) (H2:Hs) (own2:Own),v7=.int .i64 k∧HI wx own2 P H2∧HStep w own wx own2∧Wf H2∧H2.c=3∧H2.m=H.m∧H2.n=H.n∧H.decides i b=if H2.stable 2 j≤k then(H2,false) else(H2.commit i,true))
  case first=>
   rcases hp:place ((H.sh 2).nd j).log 3 i with _|p
   ·rw[q3l hp]
    have HDA:=LH (fun b=>qa4 (b:=b) hhd hp)
    have hts:=q11 H i
    have hwft:=HWF.out.timed h1 hi
    have HTE:=LH (timed_eq HWF.out i)
    have HWT:=LH hwft
    have HTS:=LH hts
    clear hhd hp hts hwft
    go_upto_if 37 with (fail)
    go_cut [] (fun wx=>HI wx own P (H.timed i)∧HStep w own wx own)
    case first=>
     by_cases ht0:(H.tx i).time=0
     ·have dt:((H.tx i).time == 0)=true:=by simpa using ht0
      have hti:=HI5.out.timed1 h1 hi
      rw[show H.timed1 i=H.timed i from(HTE.out.trans (if_pos ht0)).symm] at hti
      have hw:IntKind.i64.wrap (H.time+1)=H.time+1:=IntWalk.i64_in _ ⟨by omega,by omega⟩
      have HF:=LH (show _∧_ from⟨hti.1,HZ5.out.trans hti.2⟩)
      have hgx:P.g≠P.gt i:=fun e=>by
       obtain⟨vt5,hvt5⟩:=HI5.out.tx i h1 hi
       obtain⟨vh5,hvh5⟩:=HI5.out.hs
       have e1:=hvh5.gt
       rw[e,hvt5.gt] at e1;cases e1
      have hgx':P.gt i≠P.g:=fun e=>hgx e.symm
      clear hti ht0
      go_wp2_with fail
      go_meet
      exact HF.out
     ·have dt:((H.tx i).time == 0)=false:=by simpa using ht0
      have HF:=LH (show HI w5 own P (H.timed i)∧HStep w own w5 own from⟨by rw[HTE.out,if_neg ht0];exact HI5.out,HZ5.out⟩)
      clear ht0
      go_wp2_with fail
      go_meet
      exact HF.out
    case rest=>
     obtain⟨hI6,hZ6⟩:=hcut
     rename World=>w6
     obtain⟨ts1,ts2,ts3,ts4,ts5⟩:=HTS.out
     obtain⟨vt6,hvt6⟩:=hI6.tx i h1 (by omega)
     have e0:w6.drew.cell? ⟨P.gt i,0,none⟩=some (.int .i64 i):=hvt6.cells.1
     have e5:w6.drew.cell? ⟨P.gt i,5,none⟩=some (.int .i64 ((H.timed i).tx i).time):=hvt6.cells.2.2.2.2.2.1
     have hadd:=q6u (hI6.below (Below.refl w6.heap.size w6).drew) HWT.out (s:=2) (j:=j) (by omega) (by omega) ⟨⟨3,i,((H.timed i).tx i).time,[]⟩,none,0,0⟩ ⟨rfl,Rd.none_ _ _ _ _⟩ (fun _=>rfl) (Nat.zero_le _) (HWT.out.decC h1 (by omega))
     unfold pw at hadd
     have HAD:=LH hadd
     have HZ6:=LH (hZ6.trans (HZ.below own (Below.refl w6.heap.size w6).drew))
     clear hvt6 hadd hI6 hZ6 d0 d1 d5 dl f5 t5 gl5 g5
     go_upto_region 10 with (fail)
     refine wp_region_any (by kernel_rfl) ?_
     change wpAny _ _ _ _ _ _ _ (World.drew _)
     refine q0e (fun W=>W.cell? ⟨P.gt i,0,none⟩=some (.int .i64 i)∧W.cell? ⟨P.gt i,5,none⟩=some (.int .i64 ((H.timed i).tx i).time)) 12 (fun _ _ _ _ _ h=>h) (fun HQP=>?_)
     have HCC:=And.intro e0 e5
     refine nA 0 [12,13] rfl rfl HQP HCC (fun w' hw'=>by go_simp;rfl) ?_
     refine nA 1 [12,13] rfl rfl HQP HCC (fun w' hw'=>by go_simp;rfl) ?_
     refine nA 2 [12,13] rfl rfl HQP HCC (fun w' hw'=>by go_simp;rfl) ?_
     refine nA 3 [4,5,6,11,12,13] rfl rfl HQP HCC (fun w' hw'=>by go_simp;rfl) ?_
     refine nA 4 [5,6,11,12,13] rfl rfl HQP HCC (fun w' hw'=>by go_simp;rfl) ?_
     refine nA 5 [6,11,12,13] rfl rfl HQP HCC (fun w' hw'=>by go_simp;rfl) ?_
     refine nA 6 [11,12,13] rfl rfl HQP HCC (fun w' hw'=>by obtain⟨h1,h2⟩:=hw';go_simp;rfl) ?_
     refine nA 7 [8,9,10,11,12,13] rfl rfl HQP HCC (fun w' hw'=>by go_simp;rfl) ?_
     refine nA 8 [9,10,11,12,13] rfl rfl HQP HCC (fun w' hw'=>by go_simp;rfl) ?_
     refine nA 9 [10,11,12,13] rfl rfl HQP HCC (fun w' hw'=>by go_simp;rfl) ?_
     refine nA 10 [11,12,13] rfl rfl HQP HCC (fun w' hw'=>by obtain⟨h1,h2⟩:=hw';go_simp;rfl) ?_
     refine nA 11 [12,13] rfl rfl HQP HCC (fun w' hw'=>by go_simp;rfl) ?_
     clear HCC e0 e5
     refine nO 12 rfl (fun KK hK=>?_)
     go_simp
     refine HAD.out.mono ?_
     rintro e w8 ⟨b8,own8,rfl,hI8,hZ8⟩
     have HI8:=LH hI8
     have HZ8:=LH (HZ6.out.trans (hZ8.mono (fun _ h=>st_add h)))
     clear hI8 hZ8 HAD
     go_simp
     refine hK _ _ (fun h=>absurd h (by decide)) ?_
     clear hK KK
     refine nO 13 rfl (fun KK hK=>?_)
     go_simp
     refine hK _ _ (fun h=>absurd h (by decide)) ?_
     clear hK KK
     refine ndone (by kernel_rfl) ?_ _
     clear HQP
     by_cases hneg:((H.timed i).add 2 j ⟨3,i,((H.timed i).tx i).time,[]⟩ b8).1<0
     ·have HF:=LH (show DecP P own H i w (.returned (.bool false)) w8 from⟨b8,by rw[HDA.out b8,if_pos hneg],own8,by rw[HDA.out b8,if_pos hneg];exact HI8.out,HZ8.out⟩)
      have dn:=decide_eq_true hneg
      clear hneg
      go_wp2_with fail
      go_ret
      exact HF.out
     ·have hsa:=q0y (H.timed i) 2 j ⟨3,i,((H.timed i).tx i).time,[]⟩ b8
      have HF:=LH (show ∃ (b:Bool) (k:Int) (H2:Hs) (own2:Own),Value.int .i64 ((H.timed i).add 2 j ⟨3,i,((H.timed i).tx i).time,[]⟩ b8).1=.int .i64 k∧HI w8 own2 P H2∧HStep w own w8 own2∧Wf H2∧H2.c=3∧H2.m=H.m∧H2.n=H.n∧H.decides i b=if H2.stable 2 j≤k then(H2,false) else(H2.commit i,true) from
       ⟨b8,_,_,own8,rfl,HI8.out,HZ8.out,HWT.out.add (by omega) (by omega) (HWT.out.decC h1 (by omega)) b8,by rw[hsa.2.1];omega,by rw[hsa.2.2.1];omega,by rw[hsa.1];omega,by rw[HDA.out b8,if_neg hneg]⟩)
      have dn:=decide_eq_false hneg
      clear hneg hsa
      go_wp2_with fail
      go_meet
      exact HF.out
   ·rw[q3k hp]
    have HF:=LH (show ∃ (b:Bool) (k:Int) (H2:Hs) (own2:Own),Value.int .i64 (p:Int)=.int .i64 k∧HI w5 own2 P H2∧HStep w own w5 own2∧Wf H2∧H2.c=3∧H2.m=H.m∧H2.n=H.n∧H.decides i b=if H2.stable 2 j≤k then(H2,false) else(H2.commit i,true) from⟨false,p,H,own,rfl,HI5.out,HZ5.out,HWF.out,hc,rfl,rfl,q6w hhd hp⟩)
    clear hp hhd
    go_wp2_with fail
    go_meet
    exact HF.out
  case rest=>
   obtain⟨b,k,H2,own2,rfl,hI2,hZ2,hW2,hc2,hm2,hn2,hdec⟩:=hcut
   rename World=>w7
   obtain⟨C2,V3,L2,hN2,_⟩:=hI2.nd 2 j (by omega) (by omega)
   have HST:=LH (q8u hN2)
   have hsx:=hI2.stateTx h1 (show i≤H2.m by omega) 3
   obtain⟨vt7,hvt7⟩:=hI2.tx i h1 (by omega)
   obtain⟨_,s1,_,_,_,_,_,sl⟩:=hvt7.cells
   have s2:=hvt7.blk.frozen 1
   have HTL:=LH (q50 (kind:=3) hsx.1 (hW2.stateTx h1 (by omega) 3) hc2 h1 (show i≤H2.m by omega))
   have HI2:=LH hI2
   have HZ2:=LH hZ2
   have HZ3:=LH (hZ2.trans hsx.2)
   have HDE:=LH hdec
   clear hN2 hsx hvt7 hI2 hZ2 hdec hW2 d0 d1 d5 dl f5 t5 gl5 g5 hhd
   unfold pw at HTL
   by_cases hst:H2.stable 2 j≤k
   ·have dn:decide (((H2.sh 2).nd j).stable≤k)=true:=decide_eq_true hst
    have HF:=LH (show DecP P own H i w (.returned (.bool false)) w7 from⟨b,by rw[HDE.out,if_pos hst],own2,by rw[HDE.out,if_pos hst];exact HI2.out,HZ2.out⟩)
    clear hst
    go_wp2_with fail
    refine HST.out.mono ?_
    rintro e w8 ⟨rfl,rfl⟩
    go_wp2_with fail
    go_ret
    exact HF.out
   ·have dn:decide (((H2.sh 2).nd j).stable≤k)=false:=decide_eq_false hst
    have HDN:=LH (HDE.out.trans (if_neg hst))
    clear hst
    go_wp2_with fail
    refine HST.out.mono ?_
    rintro e w8 ⟨rfl,rfl⟩
    go_wp2_with fail
    refine HTL.out.mono ?_
    rintro e w9 ⟨rfl,own9,hI9,hZ9⟩
    have HF:=LH (show DecP P own H i w (.returned (.bool true)) w9 from⟨b,by rw[HDN.out],own9,by rw[HDN.out];exact hI9,HZ3.out.trans hZ9⟩)
    clear hI9 hZ9
    go_wp2_with fail
    go_ret
    exact HF.out
end
def BadE (H:Hs) (i k:Nat):Prop:=(H.tx i).time > 0∨((H.tx i).shards k).getD 0≠(H.sh k).epoch∨((H.tx i).places k).getD 0≥0
def badB (H:Hs) (i k:Nat):Bool:=decide ((H.tx i).time > 0) || ((H.tx i).shards k).getD 0 != (H.sh k).epoch || decide (((H.tx i).places k).getD 0≥0)
theorem badB_iff {H:Hs} {i k:Nat} : badB H i k=true↔BadE H i k:=by
 unfold badB BadE
 simp only[Bool.or_eq_true,decide_eq_true_eq,bne_iff_ne,ne_eq,or_assoc]
section
variable {H:Hs} {i k j:Nat} {b:Bool}
theorem q5j (h:H.head k=none):H.end1 i k b=(H,some false):=by unfold Hs.end1;rw[h]
theorem q4e {p:Nat} (h:H.head k=some j) (hp:place ((H.sh k).nd j).log 2 i=some p):H.end1 i k b=(H.putPlace i k p,some (decide (H.stable k j > p))):=by unfold Hs.end1;rw[h];simp only[hp]
theorem q5m (h:H.head k=some j) (hp:place ((H.sh k).nd j).log 2 i=none) (hb:BadE H i k) (ht:(H.tx i).time=0):H.end1 i k b=(H.abort i,none):=by unfold Hs.end1;rw[h];simp only[hp];unfold BadE at hb;rw[if_pos hb,if_pos ht]
theorem q5l (h:H.head k=some j) (hp:place ((H.sh k).nd j).log 2 i=none) (hb:BadE H i k) (ht:(H.tx i).time≠0):H.end1 i k b=(H,some false):=by unfold Hs.end1;rw[h];simp only[hp];unfold BadE at hb;rw[if_pos hb,if_neg ht]
theorem q5k (h:H.head k=some j) (hp:place ((H.sh k).nd j).log 2 i=none) (hb:¬BadE H i k) (ha:(H.add k j ⟨2,i,0,(H.tx i).of k⟩ b).1<0):H.end1 i k b=((H.add k j ⟨2,i,0,(H.tx i).of k⟩ b).2.abort i,none):=by unfold Hs.end1;rw[h];simp only[hp];unfold BadE at hb;rw[if_neg hb,if_pos ha]
theorem q6v (h:H.head k=some j) (hp:place ((H.sh k).nd j).log 2 i=none) (hb:¬BadE H i k) (ha:¬(H.add k j ⟨2,i,0,(H.tx i).of k⟩ b).1<0):H.end1 i k b=((H.add k j ⟨2,i,0,(H.tx i).of k⟩ b).2.putPlace i k (H.add k j ⟨2,i,0,(H.tx i).of k⟩ b).1,
  some (decide ((H.add k j ⟨2,i,0,(H.tx i).of k⟩ b).2.stable k j > (H.add k j ⟨2,i,0,(H.tx i).of k⟩ b).1))):=by unfold Hs.end1;rw[h];simp only[hp];unfold BadE at hb;rw[if_neg hb,if_neg ha]
end
def EnSo (H:Hs) (i:Nat) (ks:List Nat) (q:Nat) (H2:Hs) (a:Bool):Prop:=∃ b:Nat→Bool,∀ b':Nat→Bool,(∀ x∈ks.take q,b' x=b x)→Hs.endsL i b' ks H true=Hs.endsL i b' (ks.drop q) H2 a
theorem EnSo.start (H:Hs) (i:Nat) (ks:List Nat):EnSo H i ks 0 H true:=⟨fun _=>false,fun _ _=>rfl⟩
theorem not_take {ks:List Nat} (hn:ks.Nodup) {q k:Nat} (hk:ks[q]? = some k):k ∉ ks.take q:=fun h=>by
 obtain⟨j,hj,e⟩:=List.mem_take_iff_getElem.1 h
 obtain⟨hq,e2⟩:=List.getElem?_eq_some_iff.1 hk
 exact List.pairwise_iff_getElem.1 hn j q (by omega) hq (by omega) (e.trans e2.symm)
theorem EnSo.next {H H2:Hs} {i q k:Nat} {ks:List Nat} {a:Bool} (h:EnSo H i ks q H2 a) (hn:ks.Nodup) (hk:ks[q]? = some k) {β a2:Bool} {H3:Hs} (he:H2.end1 i k β=(H3,some a2)):EnSo H i ks (q+1) H3 (a && a2):=by
 obtain⟨b,hb⟩:=h
 obtain⟨hq,ek⟩:=List.getElem?_eq_some_iff.1 hk
 refine⟨upd b k β,fun b' hb'=>?_⟩
 rw[hb b' (fun x hx=>by
  have hx2:=hb' x (by rw[List.take_add_one];exact List.mem_append_left _ hx)
  rw[hx2];exact q07 (fun(e:x=k)=>not_take hn hk (by rw[← e];exact hx)) _)]
 rw[List.drop_eq_getElem_cons hq,ek]
 have hbk:b' k=β:=by
  have:=hb' k (by rw[List.take_add_one,hk];simp)
  rw[this,q03]
 show(match (H2.end1 i k (b' k)).2 with|none=>((H2.end1 i k (b' k)).1,none)|some a'=>Hs.endsL i b' (ks.drop (q+1)) (H2.end1 i k (b' k)).1 (a && a'))=_
 rw[hbk,he]
theorem EnSo.out {H H2:Hs} {i q k:Nat} {ks:List Nat} {a:Bool} (h:EnSo H i ks q H2 a) (hn:ks.Nodup) (hk:ks[q]? = some k) {β:Bool} {H3:Hs} (he:H2.end1 i k β=(H3,none)):∃ b,Hs.endsL i b ks H true=(H3,none):=by
 obtain⟨b,hb⟩:=h
 obtain⟨hq,ek⟩:=List.getElem?_eq_some_iff.1 hk
 refine⟨upd b k β,?_⟩
 rw[hb _ (fun x hx=>q07 (fun(e:x=k)=>not_take hn hk (by rw[← e];exact hx)) _),List.drop_eq_getElem_cons hq,ek]
 show(match (H2.end1 i k (upd b k β k)).2 with|none=>((H2.end1 i k (upd b k β k)).1,none)|some a'=>Hs.endsL i _ (ks.drop (q+1)) (H2.end1 i k (upd b k β k)).1 (a && a'))=_
 rw[q03,he]
theorem EnSo.done {H H2:Hs} {i:Nat} {ks:List Nat} {a:Bool} (h:EnSo H i ks ks.length H2 a) (h2:2 ∉ ks) (β:Bool):∃ b:Nat→Bool,b 2=β∧Hs.endsL i b ks H true=(H2,some a):=by
 obtain⟨b,hb⟩:=h
 refine⟨upd b 2 β,q03 _ _ _,?_⟩
 rw[hb _ (fun x hx=>q07 (fun(e:x=2)=>h2 (by rw[← e];exact List.mem_of_mem_take hx)) _),List.drop_length]
 rfl
theorem q5i {H H2:Hs} {i:Nat} {b:Nat→Bool} (h:Hs.endsL i b (H.tx i).comes H true=(H2,none)):H.ends i b=(H2,true):=by unfold Hs.ends;rw[h]
theorem q4d {H H2:Hs} {i:Nat} {b:Nat→Bool} (h:Hs.endsL i b (H.tx i).comes H true=(H2,some false)):H.ends i b=(H2,false):=by unfold Hs.ends;rw[h]
theorem q5h {H H2:Hs} {i:Nat} {b:Nat→Bool} (h:Hs.endsL i b (H.tx i).comes H true=(H2,some true)):H.ends i b=H2.decides i (b 2):=by unfold Hs.ends;rw[h]
theorem q88 (t:Txn):t.comes.Nodup:=List.Nodup.sublist List.filter_sublist (by decide)
theorem Wf.prepC {H:Hs} (h:Wf H) {i:Nat} (h1:1≤i) (hi:i≤H.m) (k:Nat):WfC ⟨2,i,0,(H.tx i).of k⟩:=by
 have hx:=h.tx i h1 hi
 have:=h.m60
 exact⟨⟨by show(1:Int)≤(i:Int);omega,by show(i:Int)≤60;omega⟩,by show(0:Int)≤0∧(0:Int)≤60;omega,Nat.le_trans (List.length_filter_le _ _) hx.few,fun p hp=>hx.ps p (List.mem_filter.1 hp).1⟩
theorem WfX.putPlace {t:Txn} (h:WfX t) {k:Nat} (hk:k<2) (a:Int):WfX { t with places:=setF t.places k a }:=by
 refine⟨h.few,h.ps,h.sh,fun o e ho=>?_,h.wn,h.wnd⟩
 have ho:setF t.places k a o=some e:=ho
 unfold setF at ho
 split at ho
 ·rename_i e1;omega
 ·exact h.pl o e ho
theorem Wf.putPlace {H:Hs} (h:Wf H) {i k:Nat} (h1:1≤i) (hi:i≤H.m) (hk:k<2) (a:Int):Wf (H.putPlace i k a):=h.setTx ((h.tx i h1 hi).putPlace hk a) rfl
def EnCut (P:Ptr) (own:Own) (H:Hs) (i k j:Nat) (a:Bool) (H2:Hs) (w1:World) (v5 v10:Value) (wx:World):Prop:=
 ∃ (β:Bool) (kk:Int) (H3:Hs) (own3:Own),v5=.bool a∧v10=.int .i64 kk∧HI wx own3 P H3∧HStep w1 own wx own3∧Wf H3∧H3.c=3∧H3.m=H.m∧H3.n=H.n∧H2.end1 i k β=(H3.putPlace i k kk,some (decide (H3.stable k j > kk)))
def EnRel (P:Ptr) (own:Own) (H:Hs) (i:Nat) (ks:List Nat) (w1:World) (v5 v14:Value) (wr:World):Prop:=
 ∃ (q:Nat) (a:Bool) (H2:Hs),v14=.int .i64 q∧v5=.bool a∧q≤ks.length∧GsP P own H2 w1 wr∧Wf H2∧H2.c=3∧H2.m=H.m∧H2.n=H.n∧EnSo H i ks q H2 a
def EndsP (P:Ptr) (own:Own) (H:Hs) (i:Nat) (w:World) (e:Ending) (w':World):Prop:=∃ b,e=.returned (.bool (H.ends i b).2)∧GsP P own (H.ends i b).1 w w'
section
variable {w w':World} {own own':Own} {P:Ptr} {H:Hs}
theorem inM_look {b n:Nat} {f:Int→Option Int} (h:MapG q05 w b n (inM f)) {o:Int} (ho:okI o):(Instr.lookup 61 (.map (some b)) (.int .i64 o) false).run Tryz.prog w=.ok (.int .i64 ((f o).getD 0)) w:=by
 have hz:(zeroValue 3).run Tryz.prog w=.ok (.int .i64 0) w:=by kernel_rfl
 have:=(h.look Tryz.underlying61 hz (x:=o) ho).2
 rw[show q05.val o=Value.int .i64 o from rfl] at this
 rw[this]
 unfold inM
 cases f o <;> rfl
theorem TxI.putPlace' {i g:Nat} {v:TxV} {t:Txn} (h:TxI w own i g v t) (wf:WfX t) {k:Nat} (hk:k<2) {a:Int} (hf:Fr (fun b=>b=v.bp) w w') (hm:MapG q05 w' v.bp 101 (putM (inM t.places) (k:Int) (some (.int .i64 a)))):TxI w' own i g v { t with places:=setF t.places k a }:=by
 rw[q9z] at hm
 refine h.putPlaces hf ((hm.tight kI61 (fun o _ ho=>?_)).mono (by rw[q2h];omega))
 unfold inM at ho
 cases e:setF t.places k a o with
 | none=>rw[e] at ho;exact absurd rfl ho
 | some x=>have:=(wf.putPlace hk a).pl o x e;exact q1s (by omega) (by omega)
theorem ends_any {i:Nat} (h:HI w own P H) (wf:Wf H) (hc:H.c=3) (h1:1≤i) (hi:i≤H.m):Calls Tryz.prog 66 #[pw P.g,pw (P.gt i)] w (EndsP P own H i w):=by
 have HCM:=LH (q8a h wf h1 hi)
 have HH:=LH h
 have HWF:=LH wf
 have HND:=LH (q88 (H.tx i))
 have HN:=LH (fun(b:Nat→Bool) (H2:Hs)=>(q5i (H:=H) (H2:=H2) (i:=i) (b:=b)))
 have HFA:=LH (fun(b:Nat→Bool) (H2:Hs)=>(q4d (H:=H) (H2:=H2) (i:=i) (b:=b)))
 have HTR:=LH (fun(b:Nat→Bool) (H2:Hs)=>(q5h (H:=H) (H2:=H2) (i:=i) (b:=b)))
 have HLT:=LH (fun k (hk:k∈(H.tx i).comes)=>q1a hk)
 have hcl:=q89 (H.tx i)
 unfold ComesP Txn.comesI at HCM
 generalize (H.tx i).comes=ks at *
 clear h wf
 unfold pw at *
 go_enter Tryz.func66,Tryz.ntmps66
 go_wp2_with fail
 refine HCM.out.mono ?_
 rintro e w1 ⟨V,rfl,hrow,hb1⟩
 obtain⟨A,c,rfl,_,_⟩:=q01 hrow
 have HROW:=LH hrow
 have HB1:=LH hb1
 have HH1:=LH (HH.out.below hb1)
 have HFREE:=LH (fun b (hb:(Value.slice A ks.length c).ownBlock=some b)=>HH.out.free (hrow.lt b hb).1)
 clear hrow hb1 HCM HH
 go_wp2_with fail
 go_loopw [5,14] (EnRel P own H i ks w1) (fun _ v _=>ks.length-(intOf v).toNat)
 case atStart=>exact⟨0,true,H,rfl,rfl,Nat.zero_le _,⟨own,HH1.out,HZ.refl _ _ _⟩,HWF.out,hc,rfl,rfl,EnSo.start H i ks⟩
 case round=>
  obtain⟨q,a,H2,rfl,rfl,hq,⟨own2,hI2,hZ2⟩,hW2,hc2,hm2,hn2,hso⟩:=hrel
  by_cases hlt:(q:Int)<ks.length
  ·obtain⟨r,c',hV,hr,k,hk,hkc⟩:=own_int (q1x HROW.out HFREE.out hZ2) (k:=q) (by omega) rfl
   injection hV with hA _ hcp
   subst hA hcp
   have hk2:=HLT.out k (List.mem_of_getElem? hk)
   obtain⟨vh,hvh⟩:=hI2.hs
   obtain⟨_,c3,_,_,gl⟩:=hvh.cells
   obtain⟨r3,k3,hVr,hr3,hc3⟩:=hvh.shAt (s:=k) (by omega)
   rw[hVr,hc2] at c3
   have hks:(k:Int)<3:=by omega
   have HHD:=LH (q5f hI2 hW2 (s:=k) (by omega))
   unfold pw at hc3 HHD
   have HI2:=LH hI2
   have HZ2:=LH hZ2
   have HW2:=LH hW2
   have HSO:=LH (fun(β a2:Bool) (H3:Hs) (he:H2.end1 i k β=(H3,some a2))=>hso.next HND.out hk he)
   have HSX:=LH (fun(β:Bool) (H3:Hs) (he:H2.end1 i k β=(H3,none))=>hso.out HND.out hk he)
   clear hI2 hZ2 hW2 hk hvh hVr hso
   go_wp2_with fail
   refine HHD.out.mono ?_
   rintro e w3 ⟨rfl,hb3⟩
   have HI3:=LH (HI2.out.below hb3)
   have HZ3:=LH (HZ2.out.trans (HZ.below own2 hb3))
   clear hkc c3 hc3 gl HI2 HZ2 HHD hb3
   rcases hhd:H2.head k with _|j
   ·have HR9:=LH (show EnRel P own H i ks w1 (.bool false) (.int .i64 ((q+1:Nat):Int)) w3 from⟨q+1,false,H2,rfl,rfl,by omega,⟨own2,HI3.out,HZ3.out⟩,HW2.out,hc2,hm2,hn2,by have:=HSO.out false false H2 (q5j hhd);rw[Bool.and_false] at this;exact this⟩)
    unfold headV
    go_wp2_with fail
    go_roundw
    case rel=>exact HR9.out
    case measure=>simp[intOf];omega
   ·have hjn:=q44 hhd
    obtain⟨C,V2,L,hN,hNt⟩:=HI3.out.nd k j (by omega) hjn
    have hNd:=hN.tall (Below.refl w3.heap.size w3).drew
    have HLG:=LH (q7s hNd)
    have hlog:=hN.log
    have hLl:=hN.len
    obtain⟨vt,hvt⟩:=HI3.out.tx i h1 (by omega)
    obtain⟨d0,_,_,_,_,_,_,dl⟩:=hvt.cells
    have HHD2:=LH hhd
    clear hN hNt hNd hvt hhd
    unfold headV pw
    go_upto_region 9 with (fail)
    refine wp_region_any (by kernel_rfl) ?_
    change wpAny _ _ _ _ _ _ _ (World.drew _)
    refine q0e (fun W=>W.cell? ⟨P.gt i,0,none⟩=some (.int .i64 i)) 8 (fun _ _ _ _ _ h=>h) (fun HQP=>?_)
    have HCC:w3.drew.cell? ⟨P.gt i,0,none⟩=some (.int .i64 i):=d0
    refine nA 0 [1,6,7] rfl rfl HQP HCC (fun w' hw'=>by go_simp;rfl) ?_
    refine nA 2 [3,4,5,6,7] rfl rfl HQP HCC (fun w' hw'=>by go_simp;rfl) ?_
    refine nA 3 [4,5,6,7] rfl rfl HQP HCC (fun w' hw'=>by go_simp;rfl) ?_
    refine nA 4 [5,6,7] rfl rfl HQP HCC (fun w' hw'=>by go_simp;rfl) ?_
    refine nA 5 [6,7] rfl rfl HQP HCC (fun w' hw'=>by go_simp;rfl) ?_
    clear HCC
    refine nO 1 rfl (fun KK hK=>?_)
    go_simp
    refine HLG.out.mono ?_
    rintro e w4 ⟨A5,k5,rfl,hrow5,hb4,_⟩
    have hb4':=(Below.refl w3.heap.size w3).drew.trans hb4
    have HI4:=LH (HI3.out.below hb4')
    have HZ4:=LH (HZ3.out.trans (HZ.below own2 hb4'))
    have hd0:=(hb4'.cell (p:=⟨P.gt i,0,none⟩) dl).trans d0
    have hdl:=Nat.lt_of_lt_of_le dl hb4'.size
    have HP1:=LH (q54 0 _ _ L 2 i w4 hrow5 rfl (by omega))
    go_simp
    refine hK _ _ (fun _=>hd0) ?_
    clear hK KK d0 dl hrow5 hb4 hb4' HLG HI3 HZ3
    refine nO 6 rfl (fun KK hK=>?_)
    go_simp
    refine HP1.out.mono ?_
    rintro e w5 ⟨rfl,hb5⟩
    have HI5:=LH (HI4.out.below hb5)
    have HZ5:=LH (HZ4.out.trans (HZ.below own2 hb5))
    have hd05:=(hb5.cell (p:=⟨P.gt i,0,none⟩) hdl).trans hd0
    go_simp
    refine hK _ _ (fun _=>hd05) ?_
    clear hK KK hb5 HI4 HZ4 hd0 hdl HP1
    refine nO 7 rfl (fun KK hK=>?_)
    go_simp
    refine hK _ _ (fun _=>hd05) ?_
    clear hK KK
    refine ndone (by kernel_rfl) ?_ _
    clear HQP hd05 hlog
    go_upto_if 37 with (fail)
    go_cut [5,10] (fun v5 v10 wx=>EnCut P own H i k j a H2 w1 v5 v10 wx)
    case first=>
     rcases hp:place ((H2.sh k).nd j).log 2 i with _|p
     ·rw[q3l hp]
      have HP:=LH hp
      obtain⟨vt5,hvt5⟩:=HI5.out.tx i h1 (by omega)
      obtain⟨_,_,_,d3,d4,d5,_,dl⟩:=hvt5.cells
      have l1:=fun q=>inM_look (hvt5.shards.drewN q) (o:=(k:Int)) (q0j (by omega) (by omega))
      have l2:=fun q=>inM_look (hvt5.places.drewN q) (o:=(k:Int)) (q0j (by omega) (by omega))
      obtain⟨vs5,hvs5⟩:=HI5.out.sh k (by omega)
      obtain⟨_,_,e2,_,_,el⟩:=hvs5.cells
      have HBB:=LH (show badB H2 i k=(decide ((H2.tx i).time > 0) || ((H2.tx i).shards k).getD 0 != (H2.sh k).epoch || decide (((H2.tx i).places k).getD 0≥0)) from rfl)
      clear hp hvt5 hvs5
      go_upto_region 11 with (fail)
      go_cut [64] (fun v64 wx=>v64=.bool (badB H2 i k)∧Below w5.heap.size w5 wx)
      case first=>
       by_cases x1:(H2.tx i).time > 0
       ·have y1:decide ((H2.tx i).time > 0)=true:=decide_eq_true x1
        have HB1':=LH (show badB H2 i k=true by rw[HBB.out,y1];rfl)
        clear x1 HBB
        go_quiet (fail)
        go_wp2_with fail
        go_meet
        exact⟨by rw[HB1'.out],q08 (Below.refl _ _) _⟩
       ·have y1:decide ((H2.tx i).time > 0)=false:=decide_eq_false x1
        by_cases x2:((H2.tx i).shards k).getD 0=(H2.sh k).epoch
        ·have y2:(((H2.tx i).shards k).getD 0 != (H2.sh k).epoch)=false:=by simpa using x2
         by_cases x3:((H2.tx i).places k).getD 0≥0
         ·have y3:decide (((H2.tx i).places k).getD 0≥0)=true:=decide_eq_true x3
          have HB1':=LH (show badB H2 i k=true by rw[HBB.out,y1,y2,y3];rfl)
          clear x1 x2 x3 HBB
          go_quiet (fail)
          go_wp2_with fail
          go_meet
          exact⟨by rw[HB1'.out],q08 (Below.refl _ _) _⟩
         ·have y3:decide (((H2.tx i).places k).getD 0≥0)=false:=decide_eq_false x3
          have HB1':=LH (show badB H2 i k=false by rw[HBB.out,y1,y2,y3];rfl)
          clear x1 x2 x3 HBB
          go_quiet (fail)
          go_wp2_with fail
          go_meet
          exact⟨by rw[HB1'.out],q08 (Below.refl _ _) _⟩
        ·have y2:(((H2.tx i).shards k).getD 0 != (H2.sh k).epoch)=true:=by simpa using x2
         have HB1':=LH (show badB H2 i k=true by rw[HBB.out,y1,y2];rfl)
         clear x1 x2 HBB
         go_quiet (fail)
         go_wp2_with fail
         go_meet
         exact⟨by rw[HB1'.out],q08 (Below.refl _ _) _⟩
      case rest=>
       obtain⟨rfl,hb6⟩:=hcut
       rename World=>w6
       have HI6:=LH (HI5.out.below hb6)
       have HZ6:=LH (HZ5.out.trans (HZ.below own2 hb6))
       have t5:=(hb6.cell (p:=⟨P.gt i,5,none⟩) dl).trans d5
       have tl:=Nat.lt_of_lt_of_le dl hb6.size
       clear d3 d4 d5 dl l1 l2 e2 el hb6 HI5 HZ5 HBB
       cases hbad:badB H2 i k with
       | true=>
        have hbd:=badB_iff.1 hbad
        by_cases ht:(H2.tx i).time=0
        ·have dt:((H2.tx i).time == 0)=true:=by simpa using ht
         have HAB:=LH (q33 HI6.out HW2.out hc2 h1 (show i≤H2.m by omega))
         have HSX2:=LH (HSX.out false _ (q5m HHD2.out HP.out hbd ht))
         unfold pw at HAB
         clear hbad hbd ht
         go_wp2_with fail
         refine HAB.out.mono ?_
         rintro e w9 ⟨rfl,own9,hI9,hZ9⟩
         have HF:=LH (show EndsP P own H i w (.returned (.bool true)) w9 from by
          obtain⟨b,hb⟩:=HSX2.out
          exact⟨b,by rw[HN.out b _ hb],own9,by rw[HN.out b _ hb];exact hI9,(HZ.below own HB1.out).trans (HZ6.out.trans hZ9)⟩)
         clear hI9 hZ9
         go_wp2_with fail
         go_ret
         exact HF.out
        ·have dt:((H2.tx i).time == 0)=false:=by simpa using ht
         have HR9:=LH (show EnRel P own H i ks w1 (.bool false) (.int .i64 ((q+1:Nat):Int)) w6 from⟨q+1,false,H2,rfl,rfl,by omega,⟨own2,HI6.out,HZ6.out⟩,HW2.out,hc2,hm2,hn2,by have:=HSO.out false false H2 (q5l HHD2.out HP.out hbd ht);rw[Bool.and_false] at this;exact this⟩)
         clear hbad hbd ht
         go_wp2_with fail
         go_roundw
         case rel=>exact HR9.out
         case measure=>simp[intOf];omega
       | false=>
        have HNB:=LH (show ¬BadE H2 i k from fun h=>by rw[badB_iff.2 h] at hbad;cases hbad)
        obtain⟨vt6,hvt6⟩:=HI6.out.tx i h1 (by omega)
        have c0:w6.drew.cell? ⟨P.gt i,0,none⟩=some (.int .i64 i):=hvt6.cells.1
        have hof:=of_any (k:=k) (HI6.out.below (Below.refl w6.heap.size w6).drew) HW2.out hc2 h1 (show i≤H2.m by omega)
        unfold pw at hof
        have HOF:=LH hof
        clear hbad hvt6 hof t5
        go_upto_region 16 with (fail)
        refine wp_region_any (by kernel_rfl) ?_
        change wpAny _ _ _ _ _ _ _ (World.drew _)
        refine q0e (fun W=>W.cell? ⟨P.gt i,0,none⟩=some (.int .i64 i)) 12 (fun _ _ _ _ _ h=>h) (fun HQP=>?_)
        have HCC:=c0
        refine nA 0 [12,13] rfl rfl HQP HCC (fun w' hw'=>by go_simp;rfl) ?_
        refine nA 1 [12,13] rfl rfl HQP HCC (fun w' hw'=>by go_simp;rfl) ?_
        refine nA 2 [12,13] rfl rfl HQP HCC (fun w' hw'=>by go_simp;rfl) ?_
        refine nA 3 [4,5,6,11,12,13] rfl rfl HQP HCC (fun w' hw'=>by go_simp;rfl) ?_
        refine nA 4 [5,6,11,12,13] rfl rfl HQP HCC (fun w' hw'=>by go_simp;rfl) ?_
        refine nA 5 [6,11,12,13] rfl rfl HQP HCC (fun w' hw'=>by go_simp;rfl) ?_
        refine nA 6 [11,12,13] rfl rfl HQP HCC (fun w' hw'=>by go_simp;rfl) ?_
        refine nA 7 [10,11,12,13] rfl rfl HQP HCC (fun w' hw'=>by go_simp;rfl) ?_
        refine nA 8 [10,11,12,13] rfl rfl HQP HCC (fun w' hw'=>by go_simp;rfl) ?_
        refine nA 9 [10,11,12,13] rfl rfl HQP HCC (fun w' hw'=>by go_simp;rfl) ?_
        clear HCC
        refine nO 10 rfl (fun KK hK=>?_)
        go_simp
        refine HOF.out.mono ?_
        rintro e w7 ⟨A7,c7,rfl,hrow7,hb7,hk7⟩
        have hb7':=(Below.refl w6.heap.size w6).drew.trans hb7
        have c0':=(hb7'.cell (p:=⟨P.gt i,0,none⟩) tl).trans c0
        have HI7:=LH (HI6.out.below hb7')
        have HZ7:=LH (HZ6.out.trans (HZ.below own2 hb7'))
        have hpc:=HW2.out.prepC h1 (show i≤H2.m by omega) k
        have hfew:(ofL k (H2.tx i).writes).length≤100000:=Nat.le_trans hpc.few (by omega)
        have hadd:=q6u HI7.out HW2.out (s:=k) (j:=j) (by omega) hjn ⟨⟨2,i,0,ofL k (H2.tx i).writes⟩,A7,(ofL k (H2.tx i).writes).length,c7⟩ ⟨rfl,Rd.of_own hrow7⟩ hk7 hfew hpc
        unfold pw at hadd
        have HAD:=LH hadd
        have HPC:=LH hpc
        go_simp
        refine hK _ _ (fun _=>c0') ?_
        clear hK KK hb7 hb7' hrow7 hk7 hadd HOF c0 hpc
        refine nO 11 rfl (fun KK hK=>?_)
        go_simp
        refine hK _ _ (fun _=>c0') ?_
        clear hK KK c0'
        refine nO 12 rfl (fun KK hK=>?_)
        go_simp
        refine HAD.out.mono ?_
        rintro e w8 ⟨b8,own8,rfl,hI8,hZ8⟩
        have HI8:=LH hI8
        have HZ8:=LH (HZ7.out.trans (hZ8.mono (fun _ h=>st_add h)))
        clear hI8 hZ8 HAD
        go_simp
        refine hK _ _ (fun h=>absurd h (by decide)) ?_
        clear hK KK
        refine nO 13 rfl (fun KK hK=>?_)
        go_simp
        refine hK _ _ (fun h=>absurd h (by decide)) ?_
        clear hK KK
        refine ndone (by kernel_rfl) ?_ _
        clear HQP
        have hsa:=q0y H2 k j ⟨2,i,0,ofL k (H2.tx i).writes⟩ b8
        have hwa:=HW2.out.add (s:=k) (j:=j) (by omega) hjn HPC.out b8
        by_cases hneg:(H2.add k j ⟨2,i,0,ofL k (H2.tx i).writes⟩ b8).1<0
        ·have HAB:=LH (q33 HI8.out hwa (by rw[hsa.2.1];exact hc2) h1 (show i≤_ by rw[hsa.2.2.1];omega))
         have HSX2:=LH (HSX.out b8 _ (q5k HHD2.out HP.out HNB.out hneg))
         unfold pw at HAB
         have dn:=decide_eq_true hneg
         clear hneg hsa hwa
         go_wp2_with fail
         refine HAB.out.mono ?_
         rintro e w9 ⟨rfl,own9,hI9,hZ9⟩
         have HF:=LH (show EndsP P own H i w (.returned (.bool true)) w9 from by
          obtain⟨b,hb⟩:=HSX2.out
          exact⟨b,by rw[HN.out b _ hb],own9,by rw[HN.out b _ hb];exact hI9,(HZ.below own HB1.out).trans (HZ8.out.trans hZ9)⟩)
         clear hI9 hZ9
         go_wp2_with fail
         go_ret
         exact HF.out
        ·have HF:=LH (show EnCut P own H i k j a H2 w1 (.bool a) (.int .i64 (H2.add k j ⟨2,i,0,ofL k (H2.tx i).writes⟩ b8).1) w8 from                     ⟨b8,_,_,own8,rfl,rfl,HI8.out,HZ8.out,hwa,by rw[hsa.2.1];exact hc2,by rw[hsa.2.2.1];exact hm2,by rw[hsa.1];exact hn2,q6v HHD2.out HP.out HNB.out hneg⟩)
         have dn:=decide_eq_false hneg
         clear hneg hsa hwa
         go_wp2_with fail
         go_meet
         exact HF.out
     ·rw[q3k hp]
      have HF:=LH (show EnCut P own H i k j a H2 w1 (.bool a) (.int .i64 (p:Int)) w5 from⟨false,p,H2,own2,rfl,rfl,HI5.out,HZ5.out,HW2.out,hc2,hm2,hn2,q4e HHD2.out hp⟩)
      clear hp
      go_wp2_with fail
      go_meet
      exact HF.out
    case rest=>
     obtain⟨β,kk,H3,own3,rfl,rfl,hI6,hZ6,hW6,hc6,hm6,hn6,he1⟩:=hcut
     rename World=>w6
     have HSO2:=LH (HSO.out β _ _ he1)
     obtain⟨vt6,hvt6⟩:=hI6.tx i h1 (by omega)
     obtain⟨_,_,_,_,d4,_,_,dl⟩:=hvt6.cells
     have HMP:=LH hvt6.places
     have HVT:=LH hvt6
     have HI6:=LH hI6
     have HZ6:=LH hZ6
     have HW6:=LH hW6
     clear hvt6 hI6 hZ6 hW6 he1
     have hgo:∀ w7,MapG q05 w7 vt6.bp 101 (putM (inM (H3.tx i).places) (k:Int) (some (.int .i64 kk)))→Fr (fun b=>b=vt6.bp) w6 w7→HI w7 own3 P (H3.putPlace i k kk)∧HStep w1 own w7 own3:=fun w7 hm7 hf7=>by
      have hv7:=HVT.out.putPlace' (HW6.out.tx i h1 (by omega)) hk2 hf7 hm7
      have hf7':Fr (OS own3 (fun t=>t=.tx i)) w6 w7:=hf7.mono (fun b _ e=>⟨_,by rw[e];exact HVT.out.pt,rfl⟩)
      exact⟨HI6.out.setTx' hf7' (Ext.refl own3 _) (fun b hb=>Nat.lt_of_lt_of_le (HI6.out.lt b hb) hf7'.size) ⟨_,hv7⟩,HZ6.out.trans ⟨Ext.refl own3 _,hf7'.mono (fun _ _ ⟨t,a,b⟩=>⟨t,a,st_tx b⟩),fun _ _ h=>h⟩⟩
     have HGO:=LH hgo
     have HW7:=LH (HW6.out.putPlace h1 (show i≤H3.m by omega) hk2 kk)
     clear hgo
     cases a with
     | false=>
      go_wp2_with (at_mapUpdate;refine q0k (C:=q05) rfl 61 3 Tryz.underlying61 _ _ _ rfl rfl HMP.out (by unfold maxLen;omega) (k:Int) (.int .i64 kk) rfl rfl (q0j (by omega) (by omega)) ?_;intro w7 hm7 hf7)
      have hg:=HGO.out w7 hm7 hf7
      have HR9:=LH (show EnRel P own H i ks w1 (.bool false) (.int .i64 ((q+1:Nat):Int)) w7 from⟨q+1,false,_,rfl,rfl,by omega,⟨own3,hg.1,hg.2⟩,HW7.out,hc6,hm6,hn6,HSO2.out⟩)
      clear hg hm7 hf7
      go_roundw
      case rel=>exact HR9.out
      case measure=>simp[intOf];omega
     | true=>
      go_wp2_with (at_mapUpdate;refine q0k (C:=q05) rfl 61 3 Tryz.underlying61 _ _ _ rfl rfl HMP.out (by unfold maxLen;omega) (k:Int) (.int .i64 kk) rfl rfl (q0j (by omega) (by omega)) ?_;intro w7 hm7 hf7)
      have hg:=HGO.out w7 hm7 hf7
      obtain⟨C7,V7,L7,hN7,_⟩:=hg.1.nd k j (show k<H3.c by omega) (show j<H3.n by omega)
      have HST:=LH (q8u hN7)
      have HR9:=LH (show EnRel P own H i ks w1 (.bool (decide (H3.stable k j > kk))) (.int .i64 ((q+1:Nat):Int)) w7 from⟨q+1,_,_,rfl,rfl,by omega,⟨own3,hg.1,hg.2⟩,HW7.out,hc6,hm6,hn6,by have:=HSO2.out;rw[Bool.true_and] at this;exact this⟩)
      clear hg hm7 hf7 hN7
      refine HST.out.mono ?_
      rintro e w8 ⟨rfl,rfl⟩
      go_wp2_with fail
      go_roundw
      case rel=>exact HR9.out
      case measure=>simp[intOf];omega
  ·obtain rfl:q=ks.length:=by omega
   have h2k:2 ∉ ks:=fun h=>by have:=HLT.out 2 h;omega
   cases a with
   | false=>
    obtain⟨b,_,hb⟩:=hso.done h2k false
    have HF:=LH (show EndsP P own H i w (.returned (.bool false)) wr from⟨b,by rw[HFA.out b H2 hb],own2,by rw[HFA.out b H2 hb];exact hI2,(HZ.below own HB1.out).trans hZ2⟩)
    clear hI2 hZ2 hso hb
    go_wp2_with fail
    go_ret
    exact HF.out
   | true=>
    have HDE:=LH (decides_any hI2 hW2 hc2 h1 (show i≤H2.m by omega))
    have HDO:=LH (fun β=>hso.done h2k β)
    have HZ2:=LH ((HZ.below own HB1.out).trans hZ2)
    unfold pw at HDE
    clear hI2 hZ2 hso hW2
    go_wp2_with fail
    refine HDE.out.mono ?_
    rintro e w9 ⟨β,rfl,own9,hI9,hZ9⟩
    obtain⟨b,hb2,hb⟩:=HDO.out β
    have hE:=HTR.out b H2 hb
    rw[hb2] at hE
    have HF:=LH (show EndsP P own H i w (.returned (.bool (H2.decides i β).2)) w9 from⟨b,by rw[hE],own9,by rw[hE];exact hI9,HZ2.out.trans hZ9⟩)
    clear hI9 hZ9 hE hb hb2
    go_wp2_with fail
    go_ret
    exact HF.out
end
end Go.Proofs.YtccahlhdifadfaaGreatDoor
