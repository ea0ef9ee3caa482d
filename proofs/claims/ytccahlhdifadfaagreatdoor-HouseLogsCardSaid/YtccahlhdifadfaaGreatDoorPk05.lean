/- Part 6 of the texts that the claim rests on (of 19): Hv3, Hv4, Hv5, Lk7, Lk8, Srt, LkB. -/
import Derived.Test.YtccahlhdifadfaaGreatDoorPk04
import Derived.Deep.QuietTactic
import Derived.BigQuiet
import Derived.Deep.DeepCutAuto
import Derived.StillTailTactics
import Derived.Sort.OwnSortedInts
namespace Go.Proofs.YtccahlhdifadfaaGreatDoor
open Go.RowKit
set_option maxRecDepth 100000
set_option maxHeartbeats 16000000
section
variable {P:Program} {w:World} {base size n cap g o:Nat} {e:TypeId} {xs:List Value}
theorem run_zerosO (t tn:TypeId) (i0:TypeInfo) (z:Value) (kq kn:IntKind) (ht:P.underlying t=some (.slice e)) (htn:P.underlying tn=some (.int kn)) (hi:P.info? e=some i0) (hz:i0.zero=some z) (hsz:i0.size=size) (hzs:z.cells.size=size) (hs0:0<size)
  (hxl:xs.length=n*size) (hxs:∀ j u,xs[j]? = some u→w.cell? ⟨g,o+j,none⟩=some u) {k:Nat} (h0:0<k) (hg:cap<n+k) (hlim:n+k≤1000000) (hby:i0.bytes≤1000000) (hb:base≤w.heap.size) :
  ∃ c' w',(∀ ty,(Builtin.append_ #[t,tn] ty #[.slice (some ⟨g,o,none⟩) n cap,.int kq k]).run P w=.ok (.slice (some ⟨w.heap.size,0,none⟩) (n+k) c') w')∧
   w'.ownsRow base e size (.slice (some ⟨w.heap.size,0,none⟩) (n+k) c') (n+k) (xs++(Builtin.zeroCells z.cells k).toList)∧Fr (fun _=>False) w w'∧w'.heap.size=w.heap.size+1:=by
 have hold:(Builtin.firstCells i0.size n (.slice (some ⟨g,o,none⟩) n cap)).run P w.drew=.ok xs.toArray w.drew:=by
  have:=run_loadCells_list (P:=P) w.drew ⟨g,o,none⟩ xs (fun j v hj=>by
   rw[Addr.add_lit]
   show w.cell? _=_
   exact hxs j v hj)
  rw[hxl] at this
  unfold Builtin.firstCells
  rw[hsz]
  exact this
 have hby2:(n+k)*i0.bytes≤140737488355328:=by
  have:(n+k)*i0.bytes≤1000000*1000000:=Nat.mul_le_mul hlim hby
  omega
 have hkb:k*i0.bytes≤(n+k)*i0.bytes:=Nat.mul_le_mul_right _ (by omega)
 have hrun:=fun ty=>Lib.run_append_grow_zeros (P:=P) w t tn ty e i0 z kq kn ht htn hi hz (some ⟨g,o,none⟩) n cap xs hold k h0 (by rw[hsz];exact hs0) hg (by omega) (by omega) (growslice_fits hg hby2)
 have hge:=grownCap_ge w (n+k) cap e
 have hcm2:grownCap w (n+k) cap e≤maxLen:=grownCap_le_maxLen w (n+k) cap e (by unfold maxLen;omega)
 refine⟨_,_,hrun,⟨?_,.inr ⟨w.heap.size,_,_,rfl,hb,heap_alloc_new w.drew _,hge,hcm2,?_,?_⟩⟩,(Fr.refl _ w).drew.alloc _,by simp⟩
 ·rw[List.length_append,hxl,Array.length_toList,size_zeroCells,hzs,Nat.add_mul]
 ·simp only[Array.size_append,List.size_toArray,size_zeroCells,hzs,hxl,← Nat.add_mul]
  congr 1
  omega
 ·have hl:(xs++(Builtin.zeroCells z.cells k).toList).length=(n+k)*size:=by rw[List.length_append,hxl,Array.length_toList,size_zeroCells,hzs,Nat.add_mul]
  simp only[Array.toList_append]
  rw[← hl]
  exact List.take_left
theorem run_growO (t:TypeId) (i0:TypeInfo) (z:Value) (ht:P.underlying t=some (.slice e)) (hi:P.info? e=some i0) (hz:i0.zero=some z) (hsz:i0.size=size) (hzs:z.cells.size=size)
  (hxl:xs.length=n*size) (hxs:∀ j u,xs[j]? = some u→w.cell? ⟨g,o+j,none⟩=some u) (vs:List Value) (hvs:vs.length=size) (vb vc:Nat) (hvb:∀ j u,vs[j]? = some u→w.cell? ⟨vb,j,none⟩=some u) (hg:cap<n+1) (hlim:n+1≤1000000) (hby:i0.bytes≤1000000) (hb:base≤w.heap.size) :
  ∃ c' w',(∀ ty,(Builtin.append_ #[t,t] ty #[.slice (some ⟨g,o,none⟩) n cap,.slice (some ⟨vb,0,none⟩) 1 vc]).run P w=.ok (.slice (some ⟨w.heap.size,0,none⟩) (n+1) c') w')∧
   w'.ownsRow base e size (.slice (some ⟨w.heap.size,0,none⟩) (n+1) c') (n+1) (xs++vs)∧Fr (fun _=>False) w w':=by
 have hby2:(n+1)*i0.bytes≤140737488355328:=by
  have:(n+1)*i0.bytes≤1000000*1000000:=Nat.mul_le_mul hlim hby
  omega
 have hrun:=fun ty=>run_append_grow (P:=P) (w:=w) t ty e i0 z ht hi hz ⟨g,o,none⟩ n cap xs (by rw[hsz];exact hxl) (fun j v hj=>by rw[Addr.add_lit];exact hxs j v hj) ⟨vb,0,none⟩ 1 vc vs (by rw[hsz,hvs];omega) (fun j v hj=>by rw[Addr.add_lit,Nat.zero_add];exact hvb j v hj) hg (by omega) (growslice_fits hg hby2)
 have hge:=grownCap_ge w (n+1) cap e
 have hcm2:grownCap w (n+1) cap e≤maxLen:=grownCap_le_maxLen w (n+1) cap e (by unfold maxLen;omega)
 refine⟨_,_,hrun,⟨?_,.inr ⟨w.heap.size,_,_,rfl,hb,heap_alloc_new w.drew _,hge,hcm2,?_,?_⟩⟩,(Fr.refl _ w).drew.alloc _⟩
 ·rw[List.length_append,hxl,hvs,Nat.add_mul];omega
 ·simp only[Array.size_append,List.size_toArray,size_zeroCells,hzs,hxl,hvs]
  have:n*size+size=(n+1)*size:=by rw[Nat.add_mul];omega
  rw[this,← Nat.add_mul]
  congr 1
  omega
 ·have hl:(xs++vs).length=(n+1)*size:=by rw[List.length_append,hxl,hvs,Nat.add_mul];omega
  simp only[Array.toList_append]
  rw[← hl]
  exact List.take_left
end
theorem vins_cut (base g o n i vb vc:Nat) (cs:Array Value) (xs vs:List Value) (w:World) (hcs:Blk w g 145 cs) (hxl:xs.length=n*3) (hrd:∀ j u,xs[j]? = some u→cs[o+j]? = some u) (hi:i<n) (hn:n≤100000) (hxs:∀ u∈xs,u.oneCell'=true) (hvs:vs.length=3) (hv1:∀ u∈vs,u.oneCell'=true)
  (hvb:Blk w vb 145 vs.toArray) (hb:base≤w.heap.size) :
  Calls Tryz.prog 108 #[.slice (some ⟨g,o,none⟩) n n,.int .i64 i,.slice (some ⟨vb,0,none⟩) 1 vc] w (q1z base n i (.slice (some ⟨g,o,none⟩) n n) vs xs w):=by
 obtain⟨r12,hs12⟩:=q0x 142 v_und q2p q2j w (some ⟨g,o,none⟩) n n i (by omega)
 obtain⟨i0,hi0,hz0,hsz0,hby0⟩:=info_parts v_info
 have hgl:g<w.heap.size:=hcs.lt
 have hce:∀ (w':World),Blk w' g 145 cs→∀ j u,xs[j]? = some u→w'.cell? ⟨g,o+j,none⟩=some u:=fun w' hk j u hu=>(hk.cell (o+j)).trans (hrd j u hu)
 obtain⟨c',w1,hrun1,hown1,hf1,hz1⟩:=run_zerosO (base:=base) (w:=w) (g:=g) (o:=o) (n:=i) (cap:=n) (xs:=xs.take (i*3)) 142 3 i0 _ .i64 .i64 v_und Tryz.underlying3 hi0 hz0 hsz0 rfl (by decide) (by rw[List.length_take,hxl];omega) (fun j u hu=>by
  rw[List.getElem?_take] at hu
  split at hu
  ·exact hce w hcs j u hu
  ·cases hu) (k:=n+1-i) (by omega) (by omega) (by omega) (by rw[hby0];decide) hb
 rw[show i+(n+1-i)=n+1 by omega] at hrun1 hown1
 have hc':=(q2u hown1).1
 have hvb1:Blk w1 vb 145 vs.toArray:=hf1.blk hvb (fun h=>h)
 have hcs1:=hf1.blk hcs (fun h=>h)
 have hvlt:=hvb.lt
 obtain⟨w2,hrun2,hown2,hf2⟩:=q1h (w:=w1) 142 142 145 v_und q5q hown1 (i:=i) (m:=1) (by omega) vs (by rw[hvs]) ⟨vb,0,none⟩ (fun j v hj=>by
   rw[Addr.add_lit,Nat.zero_add]
   exact(hvb1.cell j).trans (by simpa using hj)) hv1 (n+1-i) (c'-i) 1 vc (by show min _ _=_;omega)
 have hcs2:=hf2.blk hcs1 (fun e:g=w.heap.size=>by omega)
 obtain⟨w3,hrun3,hown3,hf3⟩:=q1h (w:=w2.drew) 142 142 145 v_und q5q (show w2.drew.ownsRow base 145 3 (.slice (some ⟨w.heap.size,0,none⟩) (n+1) c') (n+1) _ from hown2) (i:=i+1) (m:=n-i) (by omega) (xs.drop (i*3))
  (by rw[List.length_drop,hxl,Nat.sub_mul]) ⟨g,o+i*3,none⟩ (fun j v hj=>by
   rw[Addr.add_lit]
   rw[List.getElem?_drop] at hj
   show w2.cell? _=_
   rw[Nat.add_assoc]
   exact hce w2 hcs2 _ _ hj) (fun u hu=>hxs u (List.mem_of_mem_drop hu)) (n-i) (c'-(i+1)) (n-i) (n-i) (by show min _ _=_;omega)
 rw[q61 hxl (by omega) (by rw[Array.length_toList,size_zeroCells];rfl) hvs] at hown3
 have hfw:Fr (fun k=>some k=Value.ownBlock (.slice (some ⟨g,o,none⟩) n n)) w w3:=(((hf1.trans' hf2 (fun k hk (e:k=w.heap.size)=>by omega)).drew).trans' hf3 (fun k hk (e:k=w.heap.size)=>by omega)).mono (fun k _ h=>h.elim)
 have hfin:q1z base n i (.slice (some ⟨g,o,none⟩) n n) vs xs w (.returned (.slice (some ⟨w.heap.size,0,none⟩) (n+1) c')) w3:=
  ⟨_,rfl,hown3,hfw,.inr ⟨_,rfl,Nat.le_refl _⟩⟩
 have hk1:(n:Int)+1-i=((n+1-i:Nat):Int):=by omega
 have s1:=slice_toO 142 v_und q2p q2j w g o n n i (i:Int) rfl (by omega)
 have s2:=fun W=>q0s 142 v_und q2p q2j W w.heap.size (n+1) c' i (i:Int) rfl (by omega) (by omega)
 have s3:=fun W=>q0s 142 v_und q2p q2j W w.heap.size (n+1) c' (i+1) ((i:Int)+1) (by omega) (by omega) (by omega)
 rw[show n+1-(i+1)=n-i by omega] at s3
 have s4:=fun W=>slice_fromO 142 v_und q2p q2j W g o n n i (i:Int) rfl (by omega)
 rw[if_neg (by omega)] at s4
 have HF:=LH hfin;clear hfin hown1 hown2 hown3 hf1 hf2 hf3 hcs hcs1 hcs2 hce hrd hvb hvb1 hi0 hz0 hsz0 hby0 hfw hz1
 have hwi:IntKind.i64.wrap ((i:Int)+1)=(i:Int)+1:=IntWalk.i64_in _ (by omega)
 have hwn:IntKind.i64.wrap ((n:Int)+1)=(n:Int)+1:=IntWalk.i64_in _ (by omega)
 rw[← hk1] at hrun1
 have HR1:=LH hrun1;clear hrun1 hk1
 have HR2:=LH hrun2;clear hrun2
 have HR3:=LH hrun3;clear hrun3
 have HX1:=LH hxs;clear hxs
 clear hv1 hvs hxl
 have d1:((i:Int) == (n:Int))=false:=by rw[beq_eq_false_iff_ne];omega
 have d2:decide ((n:Int)<(n:Int)+1)=true:=by rw[decide_eq_true_eq];omega
 go_enter Tryz.func108,Tryz.ntmps108
 go_wp2_with (first|(refine q1j rfl (.tmp 34) (.tmp 39) 142 3 rfl (.slice (some ⟨g,o,none⟩) i n) (.int .i64 ((n:Int)+1-i)) _ rfl rfl (HR1.out _) ?_)|(refine q1e rfl (.tmp 43) (.tmp 44) 142 142 rfl (.slice (some ⟨w.heap.size,i*3,none⟩) (n+1-i) (c'-i)) (.slice (some ⟨vb,0,none⟩) 1 vc) _ rfl rfl (HR2.out _) ?_))
 refine wp_region_any (by kernel_rfl) ?_
 change wpAny _ _ _ _ _ _ _ (World.drew _)
 refine q4i (fun _=>True) 9 ?_
 have HCC:True:=trivial
 refine nC 0 rfl (fun _ _ _ h=>h) HCC (fun w' hw'=>by go_simp;rfl) ?_
 refine nC 1 rfl (fun _ _ _ h=>h) HCC (fun w' hw'=>by go_simp;rfl) ?_
 refine nC 2 rfl (fun _ _ _ h=>h) HCC (fun w' hw'=>by go_simp;rfl) ?_
 refine nC 3 rfl (fun _ _ _ h=>h) HCC (fun w' hw'=>by go_simp;rfl) ?_
 refine nC 4 rfl (fun _ _ _ h=>h) HCC (fun w' hw'=>by go_simp;rfl) ?_
 refine nC 5 rfl (fun _ _ _ h=>h) HCC (fun w' hw'=>by go_simp;rfl) ?_
 refine nC 6 rfl (fun _ _ _ h=>h) HCC (fun w' hw'=>by go_simp;rfl) ?_
 refine nC 7 rfl (fun _ _ _ h=>h) HCC (fun w' hw'=>by go_simp;rfl) ?_
 refine nO 8 rfl (fun K hK=>?_)
 refine q22 (.tmp 50) (.tmp 53) 142 142 rfl (.slice (some ⟨w.heap.size,(i+1)*3,none⟩) (n-i) (c'-(i+1))) (.slice (some ⟨g,o+i*3,none⟩) (n-i) (n-i)) _ (by simp[Act.eval,Act.put]) (by simp[Act.eval,Act.put]) (HR3.out _) ?_
 go_simp
 refine hK _ _ (fun _=>HCC) ?_
 clear hK K
 refine ndone (by kernel_rfl) ?_ _
 clear HCC
 go_wp2_with fail
 go_ret
 exact HF.out
theorem vins_cutEnd (base g o n vb vc:Nat) (cs:Array Value) (xs vs:List Value) (w:World) (hcs:Blk w g 145 cs) (hxl:xs.length=n*3) (hrd:∀ j u,xs[j]? = some u→cs[o+j]? = some u) (hn:n≤100000) (hvs:vs.length=3)
  (hvb:Blk w vb 145 vs.toArray) (hb:base≤w.heap.size) :
  Calls Tryz.prog 108 #[.slice (some ⟨g,o,none⟩) n n,.int .i64 n,.slice (some ⟨vb,0,none⟩) 1 vc] w (q1z base n n (.slice (some ⟨g,o,none⟩) n n) vs xs w):=by
 obtain⟨r12,hs12⟩:=q0x 142 v_und q2p q2j w (some ⟨g,o,none⟩) n n n (Nat.le_refl _)
 obtain⟨i0,hi0,hz0,hsz0,hby0⟩:=info_parts v_info
 obtain⟨c',w1,hrun1,hown1,hf1⟩:=run_growO (base:=base) (w:=w) (g:=g) (o:=o) (n:=n) (cap:=n) (xs:=xs) 142 i0 _ v_und hi0 hz0 hsz0 rfl hxl (fun j u hu=>(hcs.cell (o+j)).trans (hrd j u hu)) vs hvs vb vc (fun j u hu=>(hvb.cell j).trans (by simpa using hu)) (by omega) (by omega) (by rw[hby0];decide) hb
 have hput:putIn 3 n vs xs=xs++vs:=by
  unfold putIn
  rw[List.take_of_length_le (by rw[hxl];omega),List.drop_of_length_le (by rw[hxl];omega),List.append_nil]
 have hfin:q1z base n n (.slice (some ⟨g,o,none⟩) n n) vs xs w (.returned (.slice (some ⟨w.heap.size,0,none⟩) (n+1) c')) w1:=
  ⟨_,rfl,by rw[hput];exact hown1,hf1.mono (fun k _ h=>h.elim),.inr ⟨_,rfl,Nat.le_refl _⟩⟩
 have HF:=LH hfin;clear hfin hown1 hf1 hcs hrd hvb hput hi0 hz0 hsz0 hby0
 have HR1:=LH hrun1;clear hrun1
 clear hxl hvs
 go_enter Tryz.func108,Tryz.ntmps108
 go_wp2_with (refine q1j rfl _ _ 142 142 rfl (.slice (some ⟨g,o,none⟩) n n) (.slice (some ⟨vb,0,none⟩) 1 vc) _ rfl rfl (HR1.out _) ?_)
 go_ret
 exact HF.out
theorem lessV_take (l:List Vx) (t:Int):lessV l t=l.take (lessV l t).length:=by
 unfold lessV
 exact List.prefix_iff_eq_take.1 (List.takeWhile_prefix _)
theorem putIn_insV (l:List Vx) (v:Vx):putIn 3 (lessV l v.t).length (q0f v) (l.flatMap q0f)=(insV l v).flatMap q0f:=by
 unfold putIn insV
 rw[q9b,q9c,List.flatMap_append,List.flatMap_cons,← List.append_assoc,← lessV_take]
theorem vrow_ins (base vb vc:Nat) (V:Value) (l:List Vx) (v:Vx) (w:World) (hV:VRow w base V l) (hn:l.length≤100000) (hvb:Blk w vb 145 (q0f v).toArray) (hne:V.ownBlock≠some vb) (hb:base≤w.heap.size) :
  Calls Tryz.prog 108 #[V,.int .i64 ((lessV l v.t).length:Nat),.slice (some ⟨vb,0,none⟩) 1 vc] w fun e w'=>
   ∃ V',e=.returned V'∧w'.ownsRow base 145 3 V' (insV l v).length ((insV l v).flatMap q0f)∧Moved w w' V.ownBlock V'.ownBlock:=by
 have hll:(lessV l v.t).length≤l.length:=(List.takeWhile_prefix _).length_le
 have hv1:∀ u∈q0f v,u.oneCell'=true:=fun u hu=>q82 [v] u (by simpa using hu)
 have hpost:∀ e w',q1z base l.length (lessV l v.t).length V (q0f v) (l.flatMap q0f) w e w'→∃ V',e=.returned V'∧w'.ownsRow base 145 3 V' (insV l v).length ((insV l v).flatMap q0f)∧Moved w w' V.ownBlock V'.ownBlock:=by
  rintro e w' ⟨V',rfl,h1,h2⟩
  exact⟨V',rfl,by rw[q9y,← putIn_insV];exact h1,h2⟩
 rcases hV with h|⟨g,o,cs,rfl,h0,hbg,hm,hk,hc⟩
 ·exact(vins_any base l.length (lessV l v.t).length vb vc V (l.flatMap q0f) (q0f v) w h hll hn (q82 l) rfl hv1 hvb hne hb).mono hpost
 ·by_cases e:(lessV l v.t).length=l.length
  ·refine Calls.mono ?_ hpost
   rw[e]
   exact vins_cutEnd base g o l.length vb vc cs (l.flatMap q0f) (q0f v) w hk (q83 l) hc hn rfl hvb hb
  ·exact(vins_cut base g o l.length (lessV l v.t).length vb vc cs (l.flatMap q0f) (q0f v) w hk (q83 l) hc (by omega) hn (q82 l) rfl hv1 hvb hb).mono hpost
def putS (K:Kp) (low:Int) (r:Rx):Int×Kp:=
 if r.t<0∨1099511627776<r.t then(2,K) else if 20<r.key.length∨40<r.v.length then(4,K) else if r.t<low then(8,K) else if hasV (K r.key) r.t then(9,K) else(0,putK K r.key (insV (K r.key) (ofR r)))
def StP (base n g off:Nat) (ty:TypeId) (cs:Array Value) (mb:Option Nat) (loc:Sx→Value) (K K':Kp) (low':Int) (w w':World):Prop:=
 ∃ mb' loc',StI w' base n g off ty (cs.setIfInBounds off (.map mb')) mb' loc' K' low'∧Fr (SFr g mb loc K) w w'∧∀ b,SFr g mb' loc' K' b→SFr g mb loc K b∨w.heap.size≤b
section
variable {w w':World} {base n g off:Nat} {ty:TypeId} {cs:Array Value} {mb:Option Nat} {loc:Sx→Value} {K:Kp} {low:Int}
theorem StI.more (h:StI w base n g off ty cs mb loc K low) {n':Nat} (hn:n≤n'):StI w base n' g off ty cs mb loc K low:=(h.mono (w':=w) hn).elim id id
theorem StP.below (h:StI w base n g off ty cs mb loc K low) {n':Nat} (hn:n≤n') (hb:Below w.heap.size w w'):StP base n' g off ty cs mb loc K K low w w':=
 ⟨mb,loc,by rw[q48 h.c0];exact(h.tall hb).more hn,⟨hb.os,hb.tape,hb.output,hb.size,fun k hk _=>hb.block k hk⟩,fun b h=>.inl h⟩
theorem StP.trans {v1:Value} {mb1:Option Nat} {loc1:Sx→Value} {K1 K2:Kp} {low2:Int} {w1 w2:World} (hf:Fr (SFr g mb loc K) w w1) (hft:∀ b,SFr g mb1 loc1 K1 b→SFr g mb loc K b∨w.heap.size≤b) (k:StP base n g off ty (cs.setIfInBounds off v1) mb1 loc1 K1 K2 low2 w1 w2):StP base n g off ty cs mb loc K K2 low2 w w2:=by
 obtain⟨mb2,loc2,hI,hf2,hft2⟩:=k
 rw[q3i] at hI
 refine⟨mb2,loc2,hI,hf.trans' hf2 (fun i hi h=>?_),fun b h=>?_⟩
 ·rcases hft i h with h|h
  ·exact h
  ·omega
 ·rcases hft2 b h with h|h
  ·exact hft b h
  ·exact .inr (Nat.le_trans hf.size h)
def locV (loc:Sx→Value) (x:Sx) (V:Value):Sx→Value:=fun y=>if y=x then V else loc y
theorem vmap_put (s:ByteArray) (V:Value) {l:List Vx} (hl:l≠[]):putM (vmap loc K) s (some V)=vmap (locV loc (sx s) V) (putK K (sx s) l):=by
 funext t
 unfold putM vmap locV putK
 by_cases e:t=s
 ·subst e
  rcases l with _|⟨a,l⟩
  ·exact absurd rfl hl
  ·simp
 ·have:¬sx t=sx s:=fun h=>e (sx_inj h)
  simp[e,this]
theorem StI.made (h:StI w base n g off ty cs none loc K low):StI ((w.alloc (.map #[] 0)).setCell ⟨g,off,none⟩ (.map (some w.heap.size))) base n g off ty (cs.setIfInBounds off (.map (some w.heap.size))) (some w.heap.size) loc K low:=by
 have hK:∀ x,K x=[]:=h.map
 have hm:MapG kV (w.alloc (.map #[] 0)) w.heap.size n (vmap loc K):=by
  have e:vmap loc K=fun _=>none:=by funext s;unfold vmap;rw[hK];rfl
  rw[e]
  exact(MapG.made kV w).mono (Nat.zero_le _)
 have hgl:=h.blk.lt
 have hsz:off<cs.size:=by
  rcases Nat.lt_or_ge off cs.size with h1|h1
  ·exact h1
  ·have:=h.c0;rw[Array.getElem?_eq_none h1] at this;cases this
 refine⟨?_,by simp[hsz],by rw[Array.getElem?_setIfInBounds_ne (by omega)];exact h.c1,h.ne,hm.fr (Fr.set1 g (w.alloc (.map #[] 0)) off (.map (some w.heap.size))) (fun e=>by omega),fun x hx=>absurd (hK x) hx,fun x y _ hx=>absurd (hK x) hx,h.small,h.times,h.sorted,h.len,h.low0,h.lowm,fun b hb=>?_,h.lo⟩
 ·exact(h.blk.alloc _).set_ off (.map (some w.heap.size))
 ·injection hb with hb;rw[← hb];have:=h.lo;omega
theorem StI.notKeyBlk {b:Nat} (h:StI w base n g off ty cs (some b) loc K low) {x:Sx} (hx:K x≠[]):(loc x).ownBlock≠some b:=fun e=>by
 obtain⟨_,_,cs,hk⟩:=(h.rows x hx).block e
 exact MapG.notBlk (C:=kV) h.map hk rfl
theorem StI.notKeyG (h:StI w base n g off ty cs mb loc K low) {x:Sx} (hx:K x≠[]):(loc x).ownBlock≠some g:=(h.rows x hx).notBlk h.blk h.ne
theorem q4n {x:Sx} {b:Nat} (h:(stV loc K x).ownBlock=some b):K x≠[]∧(loc x).ownBlock=some b:=by
 unfold stV at h
 rcases e:K x with _|⟨a,l⟩
 ·rw[e] at h;cases h
 ·rw[e] at h
  exact⟨by simp,h⟩
theorem StI.setK {b n2:Nat} {w2 w3:World} {s:ByteArray} {V':Value} {l':List Vx} (hn2:n≤n2) (h:StI w base n g off ty cs (some b) loc K low) (hs:(sx s).length≤20) (hl0:l'≠[]) (hlt:TmOk l') (hls:q2o l') (hll:l'.length≤n2)
  (hrow:VRow w2 base V' l') (hm:Moved w w2 (stV loc K (sx s)).ownBlock V'.ownBlock) (hmap:MapG kV w3 b n2 (putM (vmap loc K) s (some V'))) (hf:Fr (fun k=>k=b) w2 w3) :
  StI w3 base n2 g off ty cs (some b) (locV loc (sx s) V') (putK K (sx s) l') low∧Fr (SFr g (some b) loc K) w w3∧∀ q,SFr g (some b) (locV loc (sx s) V') (putK K (sx s) l') q→SFr g (some b) loc K q∨w.heap.size≤q:=by
 have hV':∀ q,V'.ownBlock=some q→(K (sx s)≠[]∧(loc (sx s)).ownBlock=some q)∨w.heap.size≤q:=fun q hq=>by
  rcases hm.2 with e|⟨q',e,hq'⟩
  ·exact .inl (q4n (e.symm.trans hq))
  ·rw[hq] at e;injection e with e;exact .inr (by omega)
 have hbl:b<w.heap.size:=(h.foot_lt (.inr (.inl rfl))).2
 have hfm:Fr (fun k=>k=b∨some k=(stV loc K (sx s)).ownBlock) w w3:=(hm.1.mono (T:=fun k=>k=b∨some k=(stV loc K (sx s)).ownBlock) (fun i _ e=>.inr e)).trans' hf (fun i _ e=>.inl e)
 have hother:∀ y,y≠sx s→K y≠[]→∀ q,(loc y).ownBlock=some q→¬(q=b∨some q=(stV loc K (sx s)).ownBlock):=fun y hy hKy q hq e=>by
  rcases e with e|e
  ·subst e;exact h.notKeyBlk hKy hq
  ·obtain⟨k1,k2⟩:=q4n e.symm
   exact h.apart y (sx s) hy hKy k1 q hq k2
 refine⟨⟨hfm.blk h.blk (fun e=>?_),h.c0,h.c1,h.ne,?_,fun y hy=>?_,fun y z hyz hy hz q hq hq'=>?_,fun y hy=>?_,fun y=>?_,fun y=>?_,fun y=>?_,h.low0,h.lowm,h.mlo,h.lo⟩,?_,fun q hq=>?_⟩
 ·rcases e with e|e
  ·exact MapG.notBlk (C:=kV) h.map h.blk e.symm
  ·obtain⟨k1,k2⟩:=q4n e.symm
   exact h.notKeyG k1 k2
 ·show MapG kV w3 b n2 _
  rw[← vmap_put s V' hl0]
  exact hmap
 ·unfold putK locV at *
  split
  ·rename_i e
   exact hrow.fr hf (fun q hq e2=>by
    rcases hV' q hq with ⟨k1,k2⟩|h2
    ·subst e2;exact h.notKeyBlk k1 k2
    ·have:=hm.1.size;omega)
  ·rename_i e
   rw[if_neg e] at hy
   exact(h.rows y hy).fr hfm (hother y e hy)
 ·unfold putK locV at *
  by_cases e1:y=sx s
  ·by_cases e2:z=sx s
   ·exact hyz (e1.trans e2.symm)
   ·rw[if_pos e1] at hq
    rw[if_neg e2] at hq' hz
    rcases hV' q hq with ⟨k1,k2⟩|h2
    ·exact h.apart z (sx s) e2 hz k1 q hq' k2
    ·have:=((h.rows z hz).block hq').2.1;omega
  ·rw[if_neg e1] at hq hy
   by_cases e2:z=sx s
   ·rw[if_pos e2] at hq'
    rcases hV' q hq' with ⟨k1,k2⟩|h2
    ·exact h.apart y (sx s) e1 hy k1 q hq k2
    ·have:=((h.rows y hy).block hq).2.1;omega
   ·rw[if_neg e2] at hq' hz
    exact h.apart y z hyz hy hz q hq hq'
 ·unfold putK at hy
  split at hy
  ·rename_i e;rw[e];exact hs
  ·exact h.small y hy
 ·unfold putK
  split
  ·exact hlt
  ·exact h.times y
 ·unfold putK
  split
  ·exact hls
  ·exact h.sorted y
 ·unfold putK
  split
  ·exact hll
  ·exact Nat.le_trans (h.len y) hn2
 ·refine hfm.mono (fun i _ e=>?_)
  rcases e with e|e
  ·exact .inr (.inl (by rw[e]))
  ·obtain⟨k1,k2⟩:=q4n e.symm
   exact .inr (.inr ⟨_,k1,k2⟩)
 ·rcases hq with hq|hq|⟨y,hy,hq⟩
  ·exact .inl (.inl hq)
  ·exact .inl (.inr (.inl hq))
  ·unfold putK locV at *
   by_cases e1:y=sx s
   ·rw[if_pos e1] at hq
    exact(hV' q hq).imp (fun k=>.inr (.inr ⟨_,k.1,k.2⟩)) id
   ·rw[if_neg e1] at hq hy
    exact .inl (.inr (.inr ⟨y,hy,hq⟩))
end
def q34 (base n g off:Nat) (ty:TypeId) (cs:Array Value) (mb:Option Nat) (loc:Sx→Value) (K:Kp) (low:Int) (r:Rx) (w:World) (e:Ending) (w':World):Prop:=
 e=.returned (erV (putS K low r).1)∧StP base (n+1) g off ty cs mb loc K (putS K low r).2 low w w'
theorem eql_map_nilV {P:Program} (w:World) (t k e:TypeId) (m:Option Nat) (h:P.underlying t=some (.map k e)):(binOp .eql t (.map m) (.map none)).run P w=.ok (.bool m.isNone) w:=by
 simp only[binOp]
 simp[run_equal_map_nil w t k e m h]
section
variable (base n g off:Nat) (ty:TypeId) (cs:Array Value) (mb:Option Nat) (loc:Sx→Value) (K:Kp) (low:Int) (key val:ByteArray) (gone:Bool) (t:Int) (w:World) (hI:StI w base n g off ty cs mb loc K low)
include hI
theorem q7g (er:Int) (hp:putS K low ⟨sx key,sx val,gone,t⟩=(er,K)) (her:er≠0):q34 base n g off ty cs mb loc K low ⟨sx key,sx val,gone,t⟩ w (.returned (.iface 79 (.int .i64 er))) (w.alloc (.cells #[.string key,.string val,.bool gone] 45)):=by
 unfold q34
 rw[hp]
 refine⟨by show _=Ending.returned (erV er);unfold erV;rw[if_neg her],StP.below hI (Nat.le_succ n) ((Below.refl _ _).alloc (Nat.le_refl _) _)⟩
theorem put_range (h:t<0∨1099511627776<t):Calls Tryz.prog 82 #[.pointer (some ⟨g,off,none⟩),.int .i64 t,.agg #[.string key,.string val,.bool gone]] w (q34 base n g off ty cs mb loc K low ⟨sx key,sx val,gone,t⟩ w):=by
 have hfin:=q7g base n g off ty cs mb loc K low key val gone t w hI 2 (by unfold putS;rw[if_pos h]) (by decide)
 have HF:=LH hfin;clear hfin hI
 by_cases h0:t<0
 ·have d1:decide (t<0)=true:=decide_eq_true h0
  clear h
  go_enter Tryz.func82,Tryz.ntmps82
  go_wp2_with fail
  go_ret
  exact HF.out
 ·have d1:decide (t<0)=false:=decide_eq_false h0
  have h1:t > 1099511627776:=by rcases h with h|h <;> omega
  have d2:decide (t > 1099511627776)=true:=decide_eq_true h1
  clear h
  go_enter Tryz.func82,Tryz.ntmps82
  go_wp2_with fail
  go_ret
  exact HF.out
theorem put_limit (h:¬(t<0∨1099511627776<t)) (hl:20<(sx key).length∨40<(sx val).length):Calls Tryz.prog 82 #[.pointer (some ⟨g,off,none⟩),.int .i64 t,.agg #[.string key,.string val,.bool gone]] w (q34 base n g off ty cs mb loc K low ⟨sx key,sx val,gone,t⟩ w):=by
 have hfin:=q7g base n g off ty cs mb loc K low key val gone t w hI 4 (by unfold putS;rw[if_neg h,if_pos hl]) (by decide)
 have HF:=LH hfin;clear hfin hI
 have d1:decide (t<0)=false:=decide_eq_false (fun e=>h (.inl e))
 have d2:decide (t > 1099511627776)=false:=decide_eq_false (fun e=>h (.inr e))
 clear h
 rw[← q25,← q25] at hl
 by_cases h1:20<key.size
 ·have d3:decide ((key.size:Int) > 20)=true:=decide_eq_true (by omega)
  clear hl
  go_enter Tryz.func82,Tryz.ntmps82
  go_wp2_with fail
  go_ret
  exact HF.out
 ·have d3:decide ((key.size:Int) > 20)=false:=decide_eq_false (by omega)
  have d4:decide ((val.size:Int) > 40)=true:=decide_eq_true (by omega)
  clear hl
  go_enter Tryz.func82,Tryz.ntmps82
  go_wp2_with fail
  go_ret
  exact HF.out
theorem put_none (h:¬(t<0∨1099511627776<t)) (hl:¬(20<(sx key).length∨40<(sx val).length)) (hlo:t<low):Calls Tryz.prog 82 #[.pointer (some ⟨g,off,none⟩),.int .i64 t,.agg #[.string key,.string val,.bool gone]] w (q34 base n g off ty cs mb loc K low ⟨sx key,sx val,gone,t⟩ w):=by
 have hfin:=q7g base n g off ty cs mb loc K low key val gone t w hI 8 (by unfold putS;rw[if_neg h,if_neg hl,if_pos hlo]) (by decide)
 have HF:=LH hfin;clear hfin
 have hb:=hI.blk.alloc (.cells #[.string key,.string val,.bool gone] 45)
 have c1:=(hI.blk.cell (off+1)).trans hI.c1
 have hgl:=hI.blk.lt
 clear hI hb
 have d1:decide (t<0)=false:=decide_eq_false (fun e=>h (.inl e))
 have d2:decide (t > 1099511627776)=false:=decide_eq_false (fun e=>h (.inr e))
 have d5:decide (t<low)=true:=decide_eq_true hlo
 rw[← q25,← q25] at hl
 have d3:decide ((key.size:Int) > 20)=false:=decide_eq_false (by omega)
 have d4:decide ((val.size:Int) > 40)=false:=decide_eq_false (by omega)
 clear h hl
 go_enter Tryz.func82,Tryz.ntmps82
 go_wp2_with fail
 go_ret
 exact HF.out
end
theorem mk_sx (s:ByteArray):(⟨(sx s).toArray⟩:ByteArray)=s:=sx_inj (sx_mk (sx s))
section
variable (base n g off:Nat) (ty:TypeId) (cs:Array Value) (mb:Option Nat) (loc:Sx→Value) (K:Kp) (low:Int) (key val:ByteArray) (gone:Bool) (t:Int) (w:World) (hI:StI w base n g off ty cs mb loc K low)
include hI
theorem put_rest (h:¬(t<0∨1099511627776<t)) (hl:¬(20<(sx key).length∨40<(sx val).length)) (hlo:¬t<low) (hn:n+1≤100000):Calls Tryz.prog 82 #[.pointer (some ⟨g,off,none⟩),.int .i64 t,.agg #[.string key,.string val,.bool gone]] w (q34 base n g off ty cs mb loc K low ⟨sx key,sx val,gone,t⟩ w):=by
 have hps:putS K low ⟨sx key,sx val,gone,t⟩=if hasV (K (sx key)) t then(9,K) else(0,putK K (sx key) (insV (K (sx key)) (ofR ⟨sx key,sx val,gone,t⟩))):=by
  unfold putS;rw[if_neg h,if_neg hl,if_neg hlo]
 have HPS:=LH hps;clear hps
 have hb0:Below w.heap.size w (w.alloc (.cells #[.string key,.string val,.bool gone] 45)):=(Below.refl _ _).alloc (Nat.le_refl _) _
 have hp0:Blk (w.alloc (.cells #[.string key,.string val,.bool gone] 45)) w.heap.size 45 #[.string key,.string val,.bool gone]:=Blk.new _ _ _
 have hI0:=hI.tall hb0
 have c1:=(hI.blk.cell (off+1)).trans hI.c1
 have hgl:=hI.blk.lt
 have d1:decide (t<0)=false:=decide_eq_false (fun e=>h (.inl e))
 have d2:decide (t > 1099511627776)=false:=decide_eq_false (fun e=>h (.inr e))
 have d5:decide (t<low)=false:=decide_eq_false hlo
 have hks:(sx key).length≤20:=by omega
 have hkm:key.size≤maxLen:=by rw[q25];unfold maxLen;omega
 rw[← q25,← q25] at hl
 have d3:decide ((key.size:Int) > 20)=false:=decide_eq_false (by omega)
 have d4:decide ((val.size:Int) > 40)=false:=decide_eq_false (by omega)
 have ht0:0≤t:=by omega
 have htm:t≤1099511627776:=by omega
 have HII:=LH hI;clear hI
 have HI0:=LH hI0;clear hI0
 have HP0:=LH hp0;clear hp0
 have HB0:=LH hb0;clear hb0
 clear h hl
 go_enter Tryz.func82,Tryz.ntmps82
 go_upto_region 7 with (fail)
 clear d1 d2 d3 d4 d5 c1
 generalize hw0:w.alloc (.cells #[.string key,.string val,.bool gone] 45)=w0 at *
 have hz0:w0.heap.size=w.heap.size+1:=by rw[← hw0];simp
 have HZ0:=LH hz0;clear hz0 hw0
 go_cut [7] (fun s7 wx=>s7=stV loc K (sx key)∧Below w0.heap.size w0 wx)
 case first=>
  have c0:=(HI0.out.blk.cell off).trans HI0.out.c0
  have p0:=HP0.out.cell 0
  have hgl0:=HI0.out.blk.lt
  have hpl0:=HP0.out.lt
  simp only[List.getElem?_toArray,List.getElem?_cons_zero] at p0
  have hlk:∀ q,(Instr.lookup 101 (.map mb) (.string key) false).run Tryz.prog (w0.drewN q)=.ok (stV loc K (sx key)) (w0.drewN q):=fun q=>(HI0.out.tall (w':=w0.drewN q) ⟨rfl,rfl,rfl,Nat.le_refl _,fun _ _=>rfl⟩).look hkm
  go_quiet (fail)
  go_wp2_with fail
  go_meet
  exact⟨rfl,⟨rfl,rfl,rfl,Nat.le_refl _,fun _ _=>rfl⟩⟩
 case rest=>
  obtain⟨hu7,hbx⟩:=hcut
  rename World=>w1
  have hI1:=HI0.out.tall hbx
  have hp1:=HP0.out.below hbx HP0.out.lt
  have hb1:Below w.heap.size w w1:=HB0.out.trans (hbx.mono HB0.out.size)
  have hrow:=hI1.row (sx key)
  have hlen:=Nat.le_trans (hI1.len (sx key)) (show n≤100000 by omega)
  obtain⟨A,c,hV,hc⟩:=hrow.form
  rw[hV] at hu7
  subst hu7
  have hse:=q8y 107 base (.slice A (K (sx key)).length c) (K (sx key)) t w1 (enters_v Tryz.func107 (by kernel_rfl) rfl) (fun W x=>cmpPut_any t x W) (hV▸hrow) (hI1.sorted _) hlen (hI1.times _) ht0 (by omega)
  have HSE:=LH hse;clear hse
  have HV:=LH hV;clear hV hrow
  have HI1:=LH hI1;clear hI1
  have HP1:=LH hp1;clear hp1
  have HB1:=LH hb1;clear hb1 hbx
  go_wp2_with fail
  refine HSE.out.mono ?_
  rintro e w2 ⟨rfl,hb2⟩
  have hI2:=HI1.out.tall hb2
  have hp2:=HP1.out.below hb2 HP1.out.lt
  have hbw2:=HB1.out.trans (hb2.mono HB1.out.size)
  have HI2:=LH hI2;clear hI2
  have HP2:=LH hp2;clear hp2
  have HB2:=LH hbw2;clear hbw2 hb2 HSE
  rcases hh:hasV (K (sx key)) t with _|_
  ·
   have HPE:=LH (HPS.out.trans (if_neg (by rw[hh];decide)))
   have HHV:=LH hh;clear hh
   have c0:=(HI2.out.blk.cell off).trans HI2.out.c0
   have f0:=HI2.out.blk.frozen off
   have hgl2:=HI2.out.blk.lt
   have hn0:=fun W=>eql_map_nilV W 101 _ _ mb Tryz.underlying101
   have hfinf:∀ (w3:World) (b:Nat) (w8:World),Fr (SFr g mb loc K) w w3→(∀ q,SFr g (some b) loc K q→SFr g mb loc K q∨w.heap.size≤q)→StP base (n+1) g off ty (cs.setIfInBounds off (.map (some b))) (some b) loc K (putK K (sx key) (insV (K (sx key)) (ofR ⟨sx key,sx val,gone,t⟩))) low w3 w8→q34 base n g off ty cs mb loc K low ⟨sx key,sx val,gone,t⟩ w (.returned .nilIface) w8:=fun w3 b w8 h1 h2 h3=>by
    unfold q34
    rw[HPE.out]
    exact⟨rfl,StP.trans h1 h2 h3⟩
   have HFINF:=LH hfinf;clear hfinf
   rcases mb with _|b
   case' none=>
    have hmm:=@run_makeMap Tryz.prog
    have hmd:=HI2.out.made
    have hpast:(w2.alloc (.map #[] 0)).setCell ⟨g,off,none⟩ (.map (some w2.heap.size))=(w2.setCell ⟨g,off,none⟩ (.map (some w2.heap.size))).alloc (.map #[] 0):=by
     rw[World.setCell_alloc_past _ _ _ _ (by omega)]
    have hfr:Fr (SFr g none loc K) w ((w2.alloc (.map #[] 0)).setCell ⟨g,off,none⟩ (.map (some w2.heap.size))):=((show Fr (SFr g none loc K) w w2 from⟨HB2.out.os,HB2.out.tape,HB2.out.output,HB2.out.size,fun k hk _=>HB2.out.block k hk⟩).alloc _).setCell (p:=⟨g,off,none⟩) (.inl (.inl rfl)) _
    have hp3:Blk ((w2.alloc (.map #[] 0)).setCell ⟨g,off,none⟩ (.map (some w2.heap.size))) w.heap.size 45 #[.string key,.string val,.bool gone]:=(Fr.set1 g _ off _).blk (HP2.out.alloc _) (fun e:w.heap.size=g=>by have:=HII.out.blk.lt;omega)
    rw[hpast] at hmd hfr hp3
    clear hpast
    have HFT:=LH (show ∀ q,SFr g (some w2.heap.size) loc K q→SFr g none loc K q∨w.heap.size≤q from fun q hq=>by
     rcases hq with hq|hq|hq
     ·exact .inl (.inl hq)
     ·injection hq with hq;have:=HB2.out.size;exact .inr (by omega)
     ·exact .inl (.inr (.inr hq)))
    have HMD:=LH hmd;clear hmd
    have HFR:=LH hfr;clear hfr
    have HP3:=LH hp3;clear hp3
    go_upto_region 13 with (fail)
    clear hmm c0 f0
    generalize hb:w2.heap.size=b at *
    generalize (w2.setCell ⟨g,off,none⟩ (.map (some b))).alloc (.map #[] 0)=w3 at *
   case' some=>
    have HMD:Hid (StI w2 base n g off ty (cs.setIfInBounds off (.map (some b))) (some b) loc K low):=by rw[q48 HI2.out.c0];exact HI2
    have HFR:=LH (show Fr (SFr g (some b) loc K) w w2 from⟨HB2.out.os,HB2.out.tape,HB2.out.output,HB2.out.size,fun k hk _=>HB2.out.block k hk⟩)
    have HFT:=LH (show ∀ q,SFr g (some b) loc K q→SFr g (some b) loc K q∨w.heap.size≤q from fun q hq=>.inl hq)
    have HP3:=HP2
    go_upto_region 13 with (fail)
    clear c0 f0
    obtain⟨w3,rfl⟩:∃ w3:World,w3=w2:=⟨w2,rfl⟩
   all_goals
    clear hn0 HI2 HP2 HB2 HI1 HP1 HB1 HI0 HP0 hgl2
    have p1:=HP3.out.cell 1
    have p2:=HP3.out.cell 2
    have pl:=HP3.out.lt
    simp only[List.getElem?_toArray,List.getElem?_cons_zero,List.getElem?_cons_succ] at p1 p2
    have hv4:Blk (w3.alloc (.cells #[.int .i64 t,.string val,.bool gone] 145)) w3.heap.size 145 #[.int .i64 t,.string val,.bool gone]:=Blk.new _ _ _
    have hb4:Below w3.heap.size w3 (w3.alloc (.cells #[.int .i64 t,.string val,.bool gone] 145)):=(Below.refl _ _).alloc (Nat.le_refl _) _
    have HP4:=LH (HP3.out.below hb4 pl)
    have HV4:=LH hv4;clear hv4
    have HB4:=LH hb4;clear hb4
    go_upto_region 14 with (fail)
    clear p1 p2 pl
    generalize w3.alloc (.cells #[.int .i64 t,.string val,.bool gone] 145)=w4 at *
    have p2:=HP4.out.cell 2
    have pl:=HP4.out.lt
    simp only[List.getElem?_toArray,List.getElem?_cons_zero,List.getElem?_cons_succ] at p2
    go_upto_if 70 with (fail)
    clear p2 pl
    go_cut [] (fun wx=>Blk wx w3.heap.size 145 (q0f (ofR ⟨sx key,sx val,gone,t⟩)).toArray∧Fr (fun k=>k=w3.heap.size) w4 wx)
    case first=>
     have v1:=HV4.out.cell 1
     have vf:=HV4.out.frozen 1
     have vl:=HV4.out.lt
     simp only[List.getElem?_toArray,List.getElem?_cons_zero,List.getElem?_cons_succ] at v1
     rcases gone with _|_
     ·go_wp2_with fail
      go_meet
      exact⟨by unfold q0f ofR;simp only[Bool.false_eq_true,if_false,mk_sx];exact HV4.out,Fr.refl _ _⟩
     ·have hfin:Blk (w4.setCell ⟨w3.heap.size,1,none⟩ (.string ⟨#[]⟩)) w3.heap.size 145 (q0f (ofR ⟨sx key,sx val,true,t⟩)).toArray∧Fr (fun k=>k=w3.heap.size) w4 (w4.setCell ⟨w3.heap.size,1,none⟩ (.string ⟨#[]⟩)):=⟨by unfold q0f ofR;simp only[if_true];exact HV4.out.set_ 1 _,Fr.set1 _ _ _ _⟩
      have HF:=LH hfin;clear hfin
      go_wp2_with fail
      go_meet
      exact HF.out
    case rest=>
     obtain⟨hv5,hf5⟩:=hcut
     rename World=>w5
     obtain⟨vv,hvv⟩:∃ vv:ByteArray,vv=⟨(if gone then [] else sx val).toArray⟩:=⟨_,rfl⟩
     have hvc:(q0f (ofR ⟨sx key,sx val,gone,t⟩)).toArray=#[.int .i64 t,.string vv,.bool gone]:=by rw[hvv];rfl
     rw[hvc] at hv5
     have HVC:=LH hvc;clear hvc hvv
     have hb35:Below w3.heap.size w3 w5:=HB4.out.trans (hf5.below (fun i e=>by omega) HB4.out.size)
     have hI5:=HMD.out.tall hb35
     have hp5:=HP3.out.below hb35 HP3.out.lt
     have hcar:∀ W,Below w5.heap.size w5 W→W.cell? ⟨g,off,none⟩=some (.map (some b))∧W.cell? ⟨w.heap.size,0,none⟩=some (.string key)∧W.cell? ⟨w3.heap.size,0,none⟩=some (.int .i64 t)∧W.cell? ⟨w3.heap.size,1,none⟩=some (.string vv)∧W.cell? ⟨w3.heap.size,2,none⟩=some (.bool gone):=fun W hW=>by
      have k0:=((hI5.blk.below hW hI5.blk.lt).cell off).trans hI5.c0
      have k1:=(hp5.below hW hp5.lt).cell 0
      have hk:=hv5.below hW hv5.lt
      have v0:=hk.cell 0
      have v1:=hk.cell 1
      have v2:=hk.cell 2
      simp only[List.getElem?_toArray,List.getElem?_cons_zero,List.getElem?_cons_succ] at k1 v0 v1 v2
      exact⟨k0,k1,v0,v1,v2⟩
     have HCAR:=LH hcar;clear hcar hv5
     have HI5:=LH hI5;clear hI5
     have HB35:=LH hb35;clear hb35 hf5 HV4 HP4 HB4 hp5
     go_wp2_with fail
     refine wp_region_any (by kernel_rfl) ?_
     change wpAny _ _ _ _ _ _ _ (World.drew _)
     refine q0e (fun W=>W.cell? ⟨g,off,none⟩=some (.map (some b))∧W.cell? ⟨w.heap.size,0,none⟩=some (.string key)∧W.cell? ⟨w3.heap.size,0,none⟩=some (.int .i64 t)∧W.cell? ⟨w3.heap.size,1,none⟩=some (.string vv)∧W.cell? ⟨w3.heap.size,2,none⟩=some (.bool gone)) 11 (fun _ _ _ _ _ h=>h) (fun HQP=>?_)
     have HCC:=HCAR.out w5.drew (Below.refl _ _).drew
     refine nB 0 rfl rfl HQP HCC (fun w' hw'=>by go_simp;rfl) ?_
     refine nB 1 rfl rfl HQP HCC (fun w' hw'=>by go_simp;rfl) ?_
     refine nB 2 rfl rfl HQP HCC (fun w' hw'=>by go_simp;rfl) ?_
     refine nB 3 rfl rfl HQP HCC (fun w' hw'=>by obtain⟨q0,q1,q2,q3,q4⟩:=hw';go_simp;rfl) ?_
     refine nB 4 rfl rfl HQP HCC (fun w' hw'=>by go_simp;rfl) ?_
     refine nB 5 rfl rfl HQP HCC (fun w' hw'=>by obtain⟨q0,q1,q2,q3,q4⟩:=hw';go_simp;rfl) ?_
     refine nB 6 rfl rfl HQP HCC (fun w' hw'=>by go_simp;rfl) ?_
     refine nB 7 rfl rfl HQP HCC (fun w' hw'=>by go_simp;rfl) ?_
     refine nB 8 rfl rfl HQP HCC (fun w' hw'=>by obtain⟨q0,q1,q2,q3,q4⟩:=hw';go_simp;rfl) ?_
     clear HCC
     refine nO 9 rfl (fun KK hK=>?_)
     go_simp
     refine hK _ _ (fun _=>HCAR.out _ ((Below.refl _ _).alloc (Nat.le_refl _) _).drew) ?_
     clear hK KK
     have hb6:Below w5.heap.size w5 (w5.drew.alloc (.cells #[.int .i64 t,.string vv,.bool gone] 145)):=(Below.refl _ _).drew.alloc (Nat.le_refl _) _
     have hv6:Blk (w5.drew.alloc (.cells #[.int .i64 t,.string vv,.bool gone] 145)) w5.heap.size 145 (q0f (ofR ⟨sx key,sx val,gone,t⟩)).toArray:=by rw[HVC.out];exact Blk.new w5.drew _ _
     have hI6:=HI5.out.tall hb6
     have hrow6:=hI6.row (sx key)
     rw[HV.out] at hrow6
     have hins:=vrow_ins base w5.heap.size 1 (.slice A (K (sx key)).length c) (K (sx key)) (ofR ⟨sx key,sx val,gone,t⟩) _ hrow6 hlen hv6 (fun e=>by
      rw[← HV.out] at e
      obtain⟨k1,k2⟩:=q4n e
      have:=((HI5.out.rows _ k1).block k2).2.1
      omega) (by have:=HI5.out.lo;have:=HI5.out.blk.lt;have:=hb6.size;omega)
     have HINS:=LH hins;clear hins hv6 hrow6
     have HI6:=LH hI6;clear hI6
     have HB6:=LH hb6;clear hb6
     refine nO 10 rfl (fun KK hK=>?_)
     go_simp
     refine HINS.out.mono ?_
     rintro e w7 ⟨V7,rfl,hrow7,hm7⟩
     have hC7:w7.cell? ⟨g,off,none⟩=some (.map (some b))∧w7.cell? ⟨w.heap.size,0,none⟩=some (.string key)∧w7.cell? ⟨w3.heap.size,0,none⟩=some (.int .i64 t)∧w7.cell? ⟨w3.heap.size,1,none⟩=some (.string vv)∧w7.cell? ⟨w3.heap.size,2,none⟩=some (.bool gone):=by
      obtain⟨q0,q1,q2,q3,q4⟩:=HCAR.out _ HB6.out
      have hne:∀ q,SFoot (some b) loc K q∨True→q=g∨w.heap.size≤q→¬some q=(Value.slice A (K (sx key)).length c).ownBlock:=fun q _ hq e=>by
       rw[← HV.out] at e
       obtain⟨k1,k2⟩:=q4n e.symm
       rcases hq with rfl|hq
       ·exact HI6.out.notKeyG k1 k2
       ·have:=((HII.out.rows _ k1).block k2).2.1
        omega
      have hlt:∀ q,q<w5.heap.size→q<(w5.drew.alloc (.cells #[.int .i64 t,.string vv,.bool gone] 145)).heap.size:=fun q hq=>Nat.lt_of_lt_of_le hq HB6.out.size
      have hg5:=HI5.out.blk.lt
      have h3z:w.heap.size≤w3.heap.size:=HFR.out.size
      have h5z:w3.heap.size<w5.heap.size:=by
       have:=World.block_lt_of_cell? w5 ⟨w3.heap.size,0,none⟩ (HCAR.out w5 (Below.refl _ _)).2.2.1
       exact this
      refine⟨(hm7.1.cell (p:=⟨g,off,none⟩) (hlt g hg5) (hne g (.inr trivial) (.inl rfl))).trans q0,(hm7.1.cell (p:=⟨w.heap.size,0,none⟩) (hlt _ (by show w.heap.size<_;omega)) (hne _ (.inr trivial) (.inr (Nat.le_refl _)))).trans q1,(hm7.1.cell (p:=⟨w3.heap.size,0,none⟩) (hlt _ h5z) (hne _ (.inr trivial) (.inr h3z))).trans q2,(hm7.1.cell (p:=⟨w3.heap.size,1,none⟩) (hlt _ h5z) (hne _ (.inr trivial) (.inr h3z))).trans q3,(hm7.1.cell (p:=⟨w3.heap.size,2,none⟩) (hlt _ h5z) (hne _ (.inr trivial) (.inr h3z))).trans q4⟩
     have hmap7:MapG kV w7 b n (vmap loc K):=(show MapG kV _ b n (vmap loc K) from HI6.out.map).fr hm7.1 (fun e=>by
      rw[← HV.out] at e
      obtain⟨k1,k2⟩:=q4n e.symm
      exact HI6.out.notKeyBlk k1 k2)
     have HC7:=LH hC7;clear hC7
     have HMP7:=LH hmap7;clear hmap7
     have HROW7:=LH hrow7;clear hrow7
     have HM7:=LH hm7;clear hm7 HINS
     go_simp
     refine hK _ _ (fun _=>HC7.out) ?_
     clear hK KK
     refine nO 11 rfl (fun KK hK=>?_)
     refine wp_setG (C:=kV) 101 142 Tryz.underlying101 (.tmp 75) (.tmp 77) _ rfl (by simp[Act.eval]) HMP7.out (by unfold maxLen;omega) key V7 (by simp[Act.eval,kV,keyS]) (by simp[Act.eval]) hkm ?_
     intro w8 hm8 hf8
     have hstp:StP base (n+1) g off ty (cs.setIfInBounds off (.map (some b))) (some b) loc K (putK K (sx key) (insV (K (sx key)) (ofR ⟨sx key,sx val,gone,t⟩))) low w3 w8:=by
      have hne:insV (K (sx key)) (ofR ⟨sx key,sx val,gone,t⟩)≠[]:=fun e=>by have:=q9y (K (sx key)) (ofR ⟨sx key,sx val,gone,t⟩);rw[e] at this;simp at this
      have hmv:=HM7.out
      rw[← HV.out] at hmv
      obtain⟨s1,s2,s3⟩:=StI.setK (n2:=n+1) (by omega) HI6.out hks hne (fun v hv=>by
       rcases insV_mem.1 hv with rfl|hv
       ·exact⟨ht0,htm⟩
       ·exact HII.out.times _ v hv) (insV_sorted (HII.out.sorted _) HHV.out) (by rw[q9y];have:=HII.out.len (sx key);omega) (.inl HROW7.out) hmv hm8 hf8
      have hb36:=HB35.out.trans (HB6.out.mono HB35.out.size)
      exact StP.trans (v1:=.map (some b)) ⟨hb36.os,hb36.tape,hb36.output,hb36.size,fun k hk _=>hb36.block k hk⟩ (fun q h=>.inl h) ⟨some b,_,by rw[q3i,q3i];exact s1,s2,s3⟩
     have hfin:=HFINF.out w3 b w8 HFR.out HFT.out hstp
     have HF:=LH hfin;clear hfin hm8 hf8
     refine hK _ _ (fun h=>absurd h (by decide)) ?_
     clear hK KK
     refine ndone (by kernel_rfl) ?_ _
     clear HQP
     go_wp2_with fail
     go_ret
     exact HF.out
  ·
   have hfin:q34 base n g off ty cs mb loc K low ⟨sx key,sx val,gone,t⟩ w (.returned (.iface 79 (.int .i64 9))) w2:=by
    unfold q34
    rw[HPS.out,if_pos hh]
    exact⟨rfl,StP.below HII.out (Nat.le_succ n) HB2.out⟩
   have HF:=LH hfin;clear hfin hh
   go_wp2_with fail
   go_ret
   exact HF.out
theorem put_any (hn:n+1≤100000):Calls Tryz.prog 82 #[.pointer (some ⟨g,off,none⟩),.int .i64 t,.agg #[.string key,.string val,.bool gone]] w (q34 base n g off ty cs mb loc K low ⟨sx key,sx val,gone,t⟩ w):=by
 by_cases h:t<0∨1099511627776<t
 ·exact put_range base n g off ty cs mb loc K low key val gone t w hI h
 ·by_cases hl:20<(sx key).length∨40<(sx val).length
  ·exact put_limit base n g off ty cs mb loc K low key val gone t w hI h hl
  ·by_cases hlo:t<low
   ·exact put_none base n g off ty cs mb loc K low key val gone t w hI h hl hlo
   ·exact put_rest base n g off ty cs mb loc K low key val gone t w hI h hl hlo hn
end
def q37 (base n g off:Nat) (ty:TypeId) (cs:Array Value) (mb:Option Nat) (loc:Sx→KLoc) (T:Tb) (x:Ak) (w:World) (e:Ending) (w':World):Prop:=
 ∃ (ok:Bool) (l:List Int) (er:Int) (T':Tb) (A:Option Addr) (c:Nat) (mb':Option Nat) (loc':Sx→KLoc),e=.returned (.tuple #[.bool ok,.slice A l.length c,erV er])∧LockP T x ok l er T'∧
  TabI w' base (n+2) g off ty (cs.setIfInBounds off (.map mb')) mb' loc' T'∧(∀ b,TFoot mb' loc' T' b→TFoot mb loc T b∨w.heap.size≤b)∧Fr (TFr g mb loc T) w w'∧
  Rd w' w'.heap.size 1 A l.length (l.map (Value.int .i64))∧(∀ b o,A=some ⟨b,o,none⟩→0<l.length→w.heap.size≤b∧¬TFoot mb' loc' T' b)
theorem q6y {w w1:World} {g:Nat} {mb:Option Nat} {loc:Sx→KLoc} {T:Tb} {o:Obj} (hf:Fr (fun k=>k=g∨some k=mb) (w.alloc o) w1):Fr (TFr g mb loc T) w w1:=
 ((Fr.refl (fun k=>k=g∨some k=mb) w).alloc o |>.trans hf).mono (fun i _ h=>by
  rcases h with h|h
  ·exact .inl h
  ·exact .inr (.inl h))
theorem qa6 {w w0:World} {mb:Option Nat} {b1:Nat} {loc:Sx→KLoc} {T:Tb} {x:Sx} {L:KLoc} {k':Kx} (hor:AtOr mb w0 b1) (hw:w.heap.size≤w0.heap.size) (hL1:T x≠none→L=loc x) (hL2:T x=none→∀ b,KFoot L b→w0.heap.size≤b) :
  ∀ b,TFoot (some b1) (locP loc x L) (putT T x (some k')) b→TFoot mb loc T b∨w.heap.size≤b:=fun b hb=>by
 rcases hb with hb|⟨y,hy,hb⟩
 ·injection hb with hb
  rcases hor with h|⟨_,h⟩
  ·exact .inl (.inl (by rw[h,hb]))
  ·exact .inr (by omega)
 ·by_cases e:y=x
  ·subst e
   rw[show locP loc y L y=L by unfold locP;rw[if_pos rfl]] at hb
   by_cases hT:T y=none
   ·exact .inr (Nat.le_trans hw (hL2 hT b hb))
   ·exact .inl (.inr ⟨y,hT,hL1 hT▸hb⟩)
  ·rw[show locP loc x L y=loc y by unfold locP;rw[if_neg e]] at hb
   unfold putT at hy
   rw[if_neg e] at hy
   exact .inl (.inr ⟨y,hy,hb⟩)
theorem lock_twice (base n g off:Nat) (ty:TypeId) (cs:Array Value) (mb:Option Nat) (loc:Sx→KLoc) (T:Tb) (s:ByteArray) (tx mode:Int) (w:World) (hI:TabI w base n g off ty cs mb loc T) (hmode:q16 mode) (hl:(sx s).length≤20) (_htx:okN tx) (hn:n<1000000)
  (hw:q0w (atT T (sx s)).ws tx=true) :
  Calls Tryz.prog 64 #[.pointer (some ⟨g,off,none⟩),.int .i64 tx,.string s,.int .i64 mode] w (q37 base n g off ty cs mb loc T ⟨tx,sx s,mode⟩ w):=by
 have hb0:Below w.heap.size w (w.alloc (.cells #[.int .i64 tx] 3)):=(Below.refl _ _).alloc (Nat.le_refl _) _
 have hI0:=hI.tall hb0
 have hB0:Blk (w.alloc (.cells #[.int .i64 tx] 3)) w.heap.size 3 #[.int .i64 tx]:=Blk.new w _ _
 have hat:=at_any base n g off ty cs mb loc T s _ hI0 hl hn
 have HAT:=LH hat;clear hat hI0
 have HI:=LH hI;clear hI
 have HB0:=LH hB0;clear hB0
 have HBW:=LH hb0;clear hb0
 have hl20:¬((s.size:Int) > 20):=by rw[sx_size];omega
 go_enter Tryz.func64,Tryz.ntmps64
 go_upto_block 0 with (fail)
 go_cut [] (fun wx=>wx=w.alloc (.cells #[.int .i64 tx] 3))
 case first=>
  rcases hmode with rfl|rfl
  ·go_wp2_with fail
   go_meet
   rfl
  ·go_wp2_with fail
   go_meet
   rfl
 case rest=>
  subst hcut
  go_wp2_with fail
  refine HAT.out.mono ?_
  rintro e w1 ⟨b1,L,rfl,hI1,hf1,hor,hL1,hL2⟩
  have hT1:putT T (sx s) (some (atT T (sx s))) (sx s)=some (atT T (sx s)):=by unfold putT;rw[if_pos rfl]
  have hK1:=hI1.keys (sx s) _ hT1
  rw[show locP loc (sx s) L (sx s)=L by unfold locP;rw[if_pos rfl]] at hK1
  have hb1:=hf1.blk HB0.out (fun h=>by
   rcases h with h|h
   ·have:=HI.out.blk.lt;omega
   ·have:=(HI.out.foot_lt (.inl h)).2;omega)
  have cb:=hb1.cell 0
  have ck0:=hK1.blk.cell 0
  have ck1:=hK1.blk.cell 1
  have hgl:=hK1.blk.lt
  have hblt:=hb1.lt
  obtain⟨A,c,hV,hnc,_⟩:=q01 hK1.row
  simp only[List.getElem?_toArray,List.getElem?_cons_zero,List.getElem?_cons_succ] at cb ck0 ck1
  rw[hV] at ck1
  have hct:=q2s 87 #[.pointer (some ⟨w.heap.size,0,none⟩)] (fun x=>decide (x.1=tx)) A _ c _ w1 (q1y Tryz.func87 (by kernel_rfl) rfl) (q7v w.heap.size tx w1 cb) (Rd.of_own (hV▸hK1.row)) rfl (by have:=hK1.len;omega)
  rw[show(atT T (sx s)).ws.any (fun x=>decide (x.1=tx))=true from hw] at hct
  have HCT:=LH hct;clear hct
  have HK1:=LH hK1;clear hK1
  have HI1:=LH hI1;clear hI1
  have HF1:=LH hf1;clear hf1
  have HOR:=LH hor;clear hor
  have HL1:=LH hL1;clear hL1
  have HL2:=LH hL2;clear hL2
  have HV:=LH hV;clear hV
  have HBB:=LH hb1;clear hb1 hT1 HAT
  go_wp2_with fail
  refine HCT.out.mono ?_
  rintro e w2 ⟨rfl,hb2⟩
  have hex:T (sx s)≠none:=fun h=>by rw[show atT T (sx s)=k0 by unfold atT;rw[h];rfl] at hw;cases hw
  obtain⟨k,hk⟩:=Option.ne_none_iff_exists'.1 hex
  have hI2:=HI1.out.tall hb2
  have hpt:=q7h hk
  have hT:putT T (sx s) (some (atT T (sx s)))=T:=hpt
  rw[hT] at hI2
  have hfin:q37 base n g off ty cs mb loc T ⟨tx,sx s,mode⟩ w (.returned (.tuple #[.bool false,.slice none 0 0,erV 9])) w2:=by
   refine⟨false,[],9,T,none,0,some b1,_,rfl,.twice hmode hl hw,hI2.mono (by omega),fun b hb=>?_,(q6y HF1.out).trans' (q1p hb2) (fun i hi (h:_≤i)=>?_),Rd.none_ _ _ _ _,fun b o h=>nomatch h⟩
   ·have h2:=qa6 (w:=w) (k':=atT T (sx s)) HOR.out (by simp) HL1.out HL2.out b
    rw[hT] at h2
    exact h2 hb
   ·have:=HF1.out.size;simp at this;omega
  have HF:=LH hfin;clear hfin hI2 hb2 hpt hT hk hex
  unfold erV at HF
  go_wp2_with fail
  go_ret3
  exact HF.out
theorem q9r (T:Tb) (x:Sx) (a b:Option Kx):putT (putT T x a) x b=putT T x b:=by
 funext y
 unfold putT
 split <;> rfl
theorem locP_put (loc:Sx→KLoc) (x:Sx) (L L':KLoc):locP (locP loc x L) x L'=locP loc x L':=by
 funext y
 unfold locP
 split <;> rfl
theorem hM_gain (h:Int→Option Int) (tx mode:Int):putM (hM h) tx (some (.int .i64 (if mode > holdK h tx then mode else holdK h tx)))=hM (gainH h tx mode):=by
 have e:(if mode > holdK h tx then mode else holdK h tx)=max (holdK h tx) mode:=by split <;> omega
 funext o
 unfold putM hM gainH setH
 rw[e]
 split <;> rfl
theorem okN_mode {m:Int} (h:q16 m):okN m:=by rcases h with rfl|rfl <;> rfl
theorem gain_ok {h:Int→Option Int} {tx mode:Int} (hh:∀ o m,h o=some m→okN o∧okN m) (htx:okN tx) (hm:q16 mode):∀ o m,gainH h tx mode o=some m→okN o∧okN m:=fun o m e=>by
 unfold gainH setH at e
 split at e
 ·rename_i e1
  injection e with e
  subst e1
  refine⟨htx,?_⟩
  rw[← e]
  unfold holdK
  rcases Int.le_total ((h o).getD 0) mode with h1|h1
  ·rw[Int.max_eq_right h1];exact okN_mode hm
  ·rw[Int.max_eq_left h1]
   cases e2:h o with
   | none=>rfl
   | some m2=>exact(hh _ _ e2).2
 ·exact hh o m e
theorem lock_got (base n g off:Nat) (ty:TypeId) (cs:Array Value) (mb:Option Nat) (loc:Sx→KLoc) (T:Tb) (s:ByteArray) (tx mode:Int) (w:World) (hI:TabI w base n g off ty cs mb loc T) (hmode:q16 mode) (hl:(sx s).length≤20) (htx:okN tx) (hn:n<1000000)
  (hw:q0w (atT T (sx s)).ws tx=false) (hfb:freeB (atT T (sx s)).h tx mode (atT T (sx s)).ws=true) :
  Calls Tryz.prog 64 #[.pointer (some ⟨g,off,none⟩),.int .i64 tx,.string s,.int .i64 mode] w (q37 base n g off ty cs mb loc T ⟨tx,sx s,mode⟩ w):=by
 have hb0:Below w.heap.size w (w.alloc (.cells #[.int .i64 tx] 3)):=(Below.refl _ _).alloc (Nat.le_refl _) _
 have hI0:=hI.tall hb0
 have hB0:Blk (w.alloc (.cells #[.int .i64 tx] 3)) w.heap.size 3 #[.int .i64 tx]:=Blk.new w _ _
 have hat:=at_any base n g off ty cs mb loc T s _ hI0 hl hn
 have HAT:=LH hat;clear hat hI0
 have HI:=LH hI;clear hI
 have HB0:=LH hB0;clear hB0
 have HBW:=LH hb0;clear hb0
 have hl20:¬((s.size:Int) > 20):=by rw[sx_size];omega
 go_enter Tryz.func64,Tryz.ntmps64
 go_upto_block 0 with (fail)
 go_cut [] (fun wx=>wx=w.alloc (.cells #[.int .i64 tx] 3))
 case first=>
  rcases hmode with rfl|rfl
  ·go_wp2_with fail
   go_meet
   rfl
  ·go_wp2_with fail
   go_meet
   rfl
 case rest=>
  subst hcut
  go_wp2_with fail
  refine HAT.out.mono ?_
  rintro e w1 ⟨b1,L,rfl,hI1,hf1,hor,hL1,hL2⟩
  have hT1:putT T (sx s) (some (atT T (sx s))) (sx s)=some (atT T (sx s)):=by unfold putT;rw[if_pos rfl]
  have hK1:=hI1.keys (sx s) _ hT1
  rw[show locP loc (sx s) L (sx s)=L by unfold locP;rw[if_pos rfl]] at hK1
  have hb1:=hf1.blk HB0.out (fun h=>by
   rcases h with h|h
   ·have:=HI.out.blk.lt;omega
   ·have:=(HI.out.foot_lt (.inl h)).2;omega)
  have cb:=hb1.cell 0
  have ck0:=hK1.blk.cell 0
  have ck1:=hK1.blk.cell 1
  have hgl:=hK1.blk.lt
  have hblt:=hb1.lt
  obtain⟨A,c,hV,hnc,_⟩:=q01 hK1.row
  simp only[List.getElem?_toArray,List.getElem?_cons_zero,List.getElem?_cons_succ] at cb ck0 ck1
  rw[hV] at ck1
  have hct:=q2s 87 #[.pointer (some ⟨w.heap.size,0,none⟩)] (fun x=>decide (x.1=tx)) A _ c _ w1 (q1y Tryz.func87 (by kernel_rfl) rfl) (q7v w.heap.size tx w1 cb) (Rd.of_own (hV▸hK1.row)) rfl (by have:=hK1.len;omega)
  rw[show(atT T (sx s)).ws.any (fun x=>decide (x.1=tx))=false from hw] at hct
  have HCT:=LH hct;clear hct
  have HK1:=LH hK1;clear hK1
  have HI1:=LH hI1;clear hI1
  have HF1:=LH hf1;clear hf1
  have HOR:=LH hor;clear hor
  have HL1:=LH hL1;clear hL1
  have HL2:=LH hL2;clear hL2
  have HV:=LH hV;clear hV
  have HBB:=LH hb1;clear hb1 hT1 HAT
  go_wp2_with fail
  refine HCT.out.mono ?_
  rintro e w2 ⟨rfl,hb2⟩
  have hkeep:∀ W,Below w1.heap.size w1 W→KeyI W base (n+1) L (atT T (sx s))∧W.cell? ⟨w.heap.size,0,none⟩=some (.int .i64 tx)∧W.cell? ⟨L.g,0,none⟩=some (.map (some L.hb))∧W.cell? ⟨L.g,1,none⟩=some (.slice A (atT T (sx s)).ws.length c):=fun W hW=>by
   have h1:=HK1.out.tall hW
   have h2:=h1.blk.cell 0
   have h3:=h1.blk.cell 1
   have h4:=(HBB.out.below hW hblt).cell 0
   simp only[List.getElem?_toArray,List.getElem?_cons_zero,List.getElem?_cons_succ] at h2 h3 h4
   rw[HV.out] at h3
   exact⟨h1,h4,h2,h3⟩
  have hfree:∀ W,Below w1.heap.size w1 W→Calls Tryz.prog 88 #[.pointer (some ⟨L.g,0,none⟩),.int .i64 tx,.int .i64 mode,.slice A (atT T (sx s)).ws.length c] W fun e w'=>e=.returned (.bool true)∧Below W.heap.size W w':=fun W hW=>by
   have h1:=(hkeep W hW).1
   have h2:=qa2 L.g L.hb (n+1) (atT T (sx s)).ws.length c L.V (atT T (sx s)).h tx mode A (atT T (sx s)).ws W h1.blk h1.holds h1.okh htx (Rd.of_own (HV.out▸h1.row)) rfl (by have:=h1.len;omega)
   rw[hfb] at h2
   exact h2
  have HKEEP:=LH hkeep;clear hkeep
  have HFREE:=LH hfree;clear hfree
  have HB2:=LH hb2;clear hb2 HCT
  have HLG:=LH hgl;clear hgl
  clear cb ck0 ck1 hblt hnc
  go_wp2_with fail
  refine wp_region_any (by kernel_rfl) ?_
  change wpAny _ _ _ _ _ _ _ (World.drew _)
  refine q0e (fun w'=>w'.cell? ⟨w.heap.size,0,none⟩=some (.int .i64 tx)∧w'.cell? ⟨L.g,1,none⟩=some (.slice A (atT T (sx s)).ws.length c)) 8 (fun _ _ _ _ _ h=>h) (fun HQP=>?_)
  have hk0:=HKEEP.out w2.drew HB2.out.drew
  have HCC:=And.intro hk0.2.1 hk0.2.2.2
  clear hk0
  refine nC 0 rfl (fun _ _ _ h=>HQP _ _ _ _ _ h) HCC (fun w' hw'=>by go_simp;rfl) ?_
  refine nC 1 rfl (fun _ _ _ h=>HQP _ _ _ _ _ h) HCC (fun w' hw'=>by obtain⟨h0,h1⟩:=hw';go_simp;rfl) ?_
  refine nC 2 rfl (fun _ _ _ h=>HQP _ _ _ _ _ h) HCC (fun w' hw'=>by go_simp;rfl) ?_
  refine nC 3 rfl (fun _ _ _ h=>HQP _ _ _ _ _ h) HCC (fun w' hw'=>by go_simp;rfl) ?_
  refine nC 4 rfl (fun _ _ _ h=>HQP _ _ _ _ _ h) HCC (fun w' hw'=>by go_simp;rfl) ?_
  refine nC 5 rfl (fun _ _ _ h=>HQP _ _ _ _ _ h) HCC (fun w' hw'=>by go_simp;rfl) ?_
  refine nC 6 rfl (fun _ _ _ h=>HQP _ _ _ _ _ h) HCC (fun w' hw'=>by obtain⟨h0,h1⟩:=hw';go_simp;rfl) ?_
  refine nO 7 rfl (fun K hK=>?_)
  go_simp
  refine(HFREE.out w2.drew HB2.out.drew).mono ?_
  rintro e w3 ⟨rfl,hb3⟩
  have hB3:Below w1.heap.size w1 w3:=HB2.out.drew.trans (hb3.mono (by have:=HB2.out.size;simpa using this))
  have HB3:=LH hB3;clear hB3 hb3
  have hk0:=HKEEP.out w3 HB3.out
  go_simp
  refine hK _ _ (fun _=>⟨hk0.2.1,hk0.2.2.2⟩) ?_
  clear hK K HCC
  refine ndone (by kernel_rfl) ?_ _
  clear HQP hk0
  go_wp2_with fail
  refine wp_region_still_tail 13 (by kernel_rfl) (by kernel_rfl) ?_
  change wpStill _ _ (World.drew _) _ _ _
  simp only[List.take_succ_cons,List.take_zero,List.drop_succ_cons,List.drop_zero]
  have HTX:=LH htx;clear htx
  obtain⟨hkI,c0,c1,_⟩:=HKEEP.out w3.drew HB3.out.drew
  have hlk:=qa1 hkI.holds HTX.out
  have HH:=LH hkI.holds;clear hkI
  repeat still_step
  refine wpStill_nil ?_
  refine q0k (C:=kI) rfl 61 3 Tryz.underlying61 (.tmp 51) (.tmp 52) (.tmp 60) rfl (by simp[Act.eval]) HH.out (by unfold maxLen;omega) tx (.int .i64 (if mode > holdK (atT T (sx s)).h tx then mode else holdK (atT T (sx s)).h tx)) (by simp[Act.eval];rfl) (by simp[Act.eval];try (split <;> omega)) HTX.out ?_
  intro w4 hm4 hf4
  have HM4:=LH hm4;clear hm4
  have HF4:=LH hf4;clear hf4
  clear hlk c0 c1 HH
  have hK3:=(HKEEP.out w3.drew HB3.out.drew).1
  have hI3:=HI1.out.tall HB3.out.drew
  have hgain:putM (hM (atT T (sx s)).h) tx (some (.int .i64 (if mode > holdK (atT T (sx s)).h tx then mode else holdK (atT T (sx s)).h tx)))=hM (gainH (atT T (sx s)).h tx mode):=hM_gain _ _ _
  have hm4:=HM4.out
  rw[hgain] at hm4
  have hK4:KeyI w4 base (n+2) L ⟨gainH (atT T (sx s)).h tx mode,(atT T (sx s)).ws⟩:=
   ⟨HF4.out.blk hK3.blk (fun e=>hK3.holds.notBlk hK3.blk e.symm),hm4,HF4.out.own hK3.row (fun b hb e=>by subst e;exact hK3.holds.notOwn hK3.row hb),hK3.log,hK3.loh,fun o m h=>gain_ok hK3.okh HTX.out hmode o m h,hK3.okw,hK3.len⟩
  have hT1:putT T (sx s) (some (atT T (sx s))) (sx s)=some (atT T (sx s)):=by unfold putT;rw[if_pos rfl]
  have hLL:locP loc (sx s) L (sx s)=L:=by unfold locP;rw[if_pos rfl]
  have hI4:=hI3.turn (n':=n+2) (L':=L) (k':=⟨gainH (atT T (sx s)).h tx mode,(atT T (sx s)).ws⟩) hT1 (by omega) (HF4.out.mono (fun i _ (h:i=L.hb)=>by rw[hLL];exact .inr (.inl h))) hK4 (by rw[hLL]) (by rw[hLL]) (fun b hb=>by rw[hLL];exact .inl hb)
  rw[q9r,locP_put] at hI4
  have hfin:q37 base n g off ty cs mb loc T ⟨tx,sx s,mode⟩ w (.returned (.tuple #[.bool true,.slice none 0 0,erV 0])) w4:=by
   refine⟨true,[],0,_,none,0,some b1,_,rfl,.got hmode hl hw hfb,hI4,qa6 HOR.out (by simp) HL1.out HL2.out,?_,Rd.none_ _ _ _ _,fun b o h=>nomatch h⟩
   refine((q6y HF1.out).trans' (q1p HB3.out.drew) (fun i hi (h:_≤i)=>?_)).trans' HF4.out (fun i hi (h:i=L.hb)=>?_)
   ·have:=HF1.out.size;simp at this;omega
   ·by_cases hTn:T (sx s)=none
    ·have:=HL2.out hTn i (.inr (.inl h));simp at this;omega
    ·exact .inr (.inr ⟨sx s,hTn,by rw[← HL1.out hTn];exact .inr (.inl h)⟩)
  have HFIN:=LH hfin;clear hfin hI4 hK4 hm4 hgain hT1 hLL hI3 hK3
  unfold erV at HFIN
  go_wp2_with fail
  all_goals
   go_ret3
   exact HFIN.out
theorem sort_ints (base n:Nat) (V:Value) (l:List Int) (w:World) (h:w.ownsRow base 3 1 V n (l.map (Value.int .i64))) (hl:l.length=n) (hn:n<1000000000) :
  Calls Tryz.prog 92 #[V] w fun e w'=>e=.returned (.tuple #[])∧w'.ownsRow base 3 1 V n ((sortI l).map (Value.int .i64))∧Fr (fun k=>V.ownBlock=some k) w w':=by
 subst hl
 rcases h.2 with ⟨rfl,h0⟩|⟨g,cap,cur,rfl,hbg,hblk,hnc,hcm,hsz,htk⟩
 ·have e:l=[]:=List.eq_nil_of_length_eq_zero h0
  subst e
  refine(srt_int_none none 0 w).mono ?_
  rintro e w' ⟨rfl,rfl⟩
  exact⟨rfl,by rw[show sortI []=[] by simp[sortI]];exact World.ownsRow_nil _ _ _ _,Fr.refl _ _⟩
 ·refine(srt_int g 0 cap l w (holds_of_blockI hblk (by rw[Nat.mul_one] at htk;exact htk)) (by have:=Blk.lt (show Blk w g _ cur from hblk);omega) (by omega)).mono ?_
  rintro e w' ⟨rfl,n,os,rfl⟩
  exact⟨rfl,ownsRow_sortedI (List.length_mergeSort l) hbg hblk hnc hcm hsz,Fr.of_grown (grownBy_sortedI _) (fun k hk=>by injection hk with hk;subst hk;rfl)⟩
theorem okN_ins {ws:List (Int×Int)} {tx mode:Int} (h:∀ x∈ws,okN x.1∧okN x.2) (htx:okN tx) (hm:q16 mode):∀ x∈insW ws (tx,mode),okN x.1∧okN x.2:=fun x hx=>by
 rcases q9x.1 hx with rfl|hx
 ·exact⟨htx,okN_mode hm⟩
 ·exact h x hx
theorem key_ins {W w5:World} {base n:Nat} {L:KLoc} {k:Kx} {tx mode:Int} {V':Value} {i:Nat} (h:KeyI W base n L k) (hi:(k.ws.takeWhile (fun x=>decide (x.1<tx))).length=i) (h50:k.ws.length≠50)
  (hrow:w5.ownsRow base 166 2 V' (k.ws.length+1) (putIn 2 i (q0a (tx,mode)) (k.ws.flatMap q0a))) (hmv:Moved W w5 L.V.ownBlock V'.ownBlock) (htx:okN tx) (hm:q16 mode) :
  KeyI (w5.setCell ⟨L.g,1,none⟩ V') base n ⟨L.g,L.hb,V'⟩ ⟨k.h,insW k.ws (tx,mode)⟩∧Fr (KFoot L) W (w5.setCell ⟨L.g,1,none⟩ V'):=by
 have hb5:=hmv.1.blk h.blk (fun e=>q02 h.row h.blk (by decide) e.symm)
 have hm5:=h.holds.fr hmv.1 (fun e=>h.holds.notOwn h.row e.symm)
 have hne:=q02 hrow hb5 (by decide)
 have hf:=Fr.set1 L.g w5 1 V'
 have hb6:=hb5.set_ 1 V'
 refine⟨⟨hb6,hm5.fr hf (fun e=>hm5.notBlk hb5 e),?_,h.log,h.loh,h.okh,okN_ins h.okw htx hm,?_⟩,(hmv.1.mono (fun b _ hb=>.inr (.inr hb.symm))).trans ((Fr.refl _ _).setCell (p:=⟨L.g,1,none⟩) (.inl (.inl rfl)) V')⟩
 ·have:=hf.own hrow (fun g hg e=>hne (by rw[hg,e]))
  rw[putIn_ins hi] at this
  rw[insW_len]
  exact this
 ·rw[insW_len];have:=h.len;show k.ws.length+1≤50;omega
theorem foot_ins {mb:Option Nat} {loc:Sx→KLoc} {T:Tb} {x:Sx} {L L':KLoc} {k k':Kx} {B:Nat} (hg:L'.g=L.g) (hh:L'.hb=L.hb) (hV:∀ b,L'.V.ownBlock=some b→L.V.ownBlock=some b∨B≤b) :
  ∀ b,TFoot mb (locP loc x L') (putT T x (some k')) b→TFoot mb (locP loc x L) (putT T x (some k)) b∨B≤b:=fun b hb=>by
 rcases hb with hb|⟨y,hy,hb⟩
 ·exact .inl (.inl hb)
 ·by_cases e:y=x
  ·subst e
   rw[show locP loc y L' y=L' by unfold locP;rw[if_pos rfl]] at hb
   have key:KFoot L b∨B≤b:=by
    rcases hb with h|h|h
    ·exact .inl (.inl (by rw[h,hg]))
    ·exact .inl (.inr (.inl (by rw[h,hh])))
    ·rcases hV b h with h|h
     ·exact .inl (.inr (.inr h))
     ·exact .inr h
   rcases key with h|h
   ·exact .inl (.inr ⟨y,by unfold putT;rw[if_pos rfl];simp,by rw[show locP loc y L y=L by unfold locP;rw[if_pos rfl]];exact h⟩)
   ·exact .inr h
  ·rw[show locP loc x L' y=loc y by unfold locP;rw[if_neg e]] at hb
   unfold putT at hy
   rw[if_neg e] at hy
   exact .inl (.inr ⟨y,by unfold putT;rw[if_neg e];exact hy,by rw[show locP loc x L y=loc y by unfold locP;rw[if_neg e]];exact hb⟩)
theorem q0z.cnt_le {P:Program} {kt:TypeId} {κ:Type} {C:KeyC P kt κ} {w:World} {b r n:Nat} {m:κ→Option Value} {left:κ→Bool} {cnt:Nat} (h:q0z C w b r n m left cnt):cnt≤n:=by
 obtain⟨D,l,⟨es,clock,since,seen,c0,_,_,hn,_,_,_,hc,_⟩,_⟩:=h
 rw[← hc]
 exact Nat.le_trans (Array.size_filter_le) hn
section
variable {l:List Int} {left:Int→Bool} {h:Int→Option Int} {tx mode o m:Int}
theorem left_off {_:∀ p,Decidable (p=o)} : ∀ p,(left p && !decide (p=o))=false↔left p=false∨p=o:=fun p=>by
 by_cases e:p=o <;> simp[e]
theorem wl_skip {d:∀ p,Decidable (p=o)} (hl:∀ p,p∈l↔left p=false∧∃ m,h p=some m∧tx<p∧clash m mode=true) (hm:h o=some m) (hlo:left o=true) (hno:¬(tx<o∧clash m mode=true)) :
  ∀ p,p∈l↔(left p && !decide (p=o))=false∧∃ m,h p=some m∧tx<p∧clash m mode=true:=fun p=>by
 rw[left_off p,hl p]
 constructor
 ·rintro ⟨h1,h2⟩;exact⟨.inl h1,h2⟩
 ·rintro ⟨h1|h1,m2,h2,h3⟩
  ·exact⟨h1,m2,h2,h3⟩
  ·subst h1;rw[hm] at h2;injection h2 with h2;subst h2;exact absurd h3 hno
theorem wl_take {d:∀ p,Decidable (p=o)} (hl:∀ p,p∈l↔left p=false∧∃ m,h p=some m∧tx<p∧clash m mode=true) (hm:h o=some m) (hlo:left o=true) (hyes:tx<o∧clash m mode=true) (hnd:l.Nodup) :
  (l++[o]).Nodup∧∀ p,p∈l++[o]↔(left p && !decide (p=o))=false∧∃ m,h p=some m∧tx<p∧clash m mode=true:=by
 refine⟨List.nodup_append.2 ⟨hnd,by simp,fun a ha b hb=>?_⟩,fun p=>?_⟩
 ·simp at hb
  subst hb
  rintro rfl
  have:=((hl a).1 ha).1
  rw[hlo] at this;cases this
 ·rw[left_off p,List.mem_append,hl p,List.mem_singleton]
  constructor
  ·rintro (⟨h1,h2⟩|h1)
   ·exact⟨.inl h1,h2⟩
   ·subst h1;exact⟨.inr rfl,m,hm,hyes⟩
  ·rintro ⟨h1|h1,h2⟩
   ·exact .inl ⟨h1,h2⟩
   ·exact .inr h1
end
def wlB (tx mode o m:Int):Bool:=decide (tx<o) && clash m mode
theorem int_infoL:(Tryz.prog.info? 3).map (fun i=>(i.zero,i.size,i.bytes))=some (some (.int .i64 0),1,8):=by kernel_rfl
def WlRel (W:World) (h:Int→Option Int) (tx mode:Int) (hb r n:Nat) (v:Value) (wr:World):Prop:=
 ∃ (left:Int→Bool) (cnt:Nat) (l:List Int),q0z kI wr hb r n (hM h) left cnt∧l.length+cnt≤n∧wr.ownsRow (W.heap.size+1) 3 1 v l.length (l.map (Value.int .i64))∧l.Nodup∧
  (∀ o,o∈l↔left o=false∧∃ m,h o=some m∧tx<o∧clash m mode=true)∧Below W.heap.size W wr∧W.heap.size+1≤wr.heap.size
def InsRel (base n g off:Nat) (ty:TypeId) (cs:Array Value) (mb:Option Nat) (loc:Sx→KLoc) (T:Tb) (x:Ak) (w:World) (lg hb:Nat) (wx:World):Prop:=
 ∃ (b1:Nat) (V:Value),TabI wx base (n+1) g off ty (cs.setIfInBounds off (.map (some b1))) (some b1) (locP loc x.key ⟨lg,hb,V⟩) (putT T x.key (some ⟨(atT T x.key).h,insW (atT T x.key).ws (x.tx,x.mode)⟩))∧
  (∀ b,TFoot (some b1) (locP loc x.key ⟨lg,hb,V⟩) (putT T x.key (some ⟨(atT T x.key).h,insW (atT T x.key).ws (x.tx,x.mode)⟩)) b→TFoot mb loc T b∨w.heap.size≤b)∧Fr (TFr g mb loc T) w wx∧Blk wx w.heap.size 3 #[.int .i64 x.tx]∧lg<wx.heap.size
theorem lock_blocked (base n g off:Nat) (ty:TypeId) (cs:Array Value) (mb:Option Nat) (loc:Sx→KLoc) (T:Tb) (s:ByteArray) (tx mode:Int) (w:World) (hI:TabI w base n g off ty cs mb loc T) (hmode:q16 mode) (hl:(sx s).length≤20) (htx:okN tx) (hn:n<1000000)
  (hw:q0w (atT T (sx s)).ws tx=false) (hfb:freeB (atT T (sx s)).h tx mode (atT T (sx s)).ws=false) (hsort:(atT T (sx s)).ws.Pairwise (·.1 < ·.1)) :
  Calls Tryz.prog 64 #[.pointer (some ⟨g,off,none⟩),.int .i64 tx,.string s,.int .i64 mode] w (q37 base n g off ty cs mb loc T ⟨tx,sx s,mode⟩ w):=by
 have hb0:Below w.heap.size w (w.alloc (.cells #[.int .i64 tx] 3)):=(Below.refl _ _).alloc (Nat.le_refl _) _
 have hI0:=hI.tall hb0
 have hB0:Blk (w.alloc (.cells #[.int .i64 tx] 3)) w.heap.size 3 #[.int .i64 tx]:=Blk.new w _ _
 have hat:=at_any base n g off ty cs mb loc T s _ hI0 hl hn
 have HAT:=LH hat;clear hat hI0
 have HI:=LH hI;clear hI
 have HB0:=LH hB0;clear hB0
 have HBW:=LH hb0;clear hb0
 have hl20:¬((s.size:Int) > 20):=by rw[sx_size];omega
 go_enter Tryz.func64,Tryz.ntmps64
 go_upto_block 0 with (fail)
 go_cut [] (fun wx=>wx=w.alloc (.cells #[.int .i64 tx] 3))
 case first=>
  rcases hmode with rfl|rfl
  ·go_wp2_with fail
   go_meet
   rfl
  ·go_wp2_with fail
   go_meet
   rfl
 case rest=>
  subst hcut
  go_wp2_with fail
  refine HAT.out.mono ?_
  rintro e w1 ⟨b1,L,rfl,hI1,hf1,hor,hL1,hL2⟩
  have hT1:putT T (sx s) (some (atT T (sx s))) (sx s)=some (atT T (sx s)):=by unfold putT;rw[if_pos rfl]
  have hK1:=hI1.keys (sx s) _ hT1
  rw[show locP loc (sx s) L (sx s)=L by unfold locP;rw[if_pos rfl]] at hK1
  have hb1:=hf1.blk HB0.out (fun h=>by
   rcases h with h|h
   ·have:=HI.out.blk.lt;omega
   ·have:=(HI.out.foot_lt (.inl h)).2;omega)
  have cb:=hb1.cell 0
  have ck0:=hK1.blk.cell 0
  have ck1:=hK1.blk.cell 1
  have hgl:=hK1.blk.lt
  have hblt:=hb1.lt
  obtain⟨A,c,hV,hnc,_⟩:=q01 hK1.row
  simp only[List.getElem?_toArray,List.getElem?_cons_zero,List.getElem?_cons_succ] at cb ck0 ck1
  rw[hV] at ck1
  have hct:=q2s 87 #[.pointer (some ⟨w.heap.size,0,none⟩)] (fun x=>decide (x.1=tx)) A _ c _ w1 (q1y Tryz.func87 (by kernel_rfl) rfl) (q7v w.heap.size tx w1 cb) (Rd.of_own (hV▸hK1.row)) rfl (by have:=hK1.len;omega)
  rw[show(atT T (sx s)).ws.any (fun x=>decide (x.1=tx))=false from hw] at hct
  have HCT:=LH hct;clear hct
  have HK1:=LH hK1;clear hK1
  have HI1:=LH hI1;clear hI1
  have HF1:=LH hf1;clear hf1
  have HOR:=LH hor;clear hor
  have HL1:=LH hL1;clear hL1
  have HL2:=LH hL2;clear hL2
  have HV:=LH hV;clear hV
  have HBB:=LH hb1;clear hb1 hT1 HAT
  go_wp2_with fail
  refine HCT.out.mono ?_
  rintro e w2 ⟨rfl,hb2⟩
  have hkeep:∀ W,Below w1.heap.size w1 W→KeyI W base (n+1) L (atT T (sx s))∧W.cell? ⟨w.heap.size,0,none⟩=some (.int .i64 tx)∧W.cell? ⟨L.g,0,none⟩=some (.map (some L.hb))∧W.cell? ⟨L.g,1,none⟩=some (.slice A (atT T (sx s)).ws.length c):=fun W hW=>by
   have h1:=HK1.out.tall hW
   have h2:=h1.blk.cell 0
   have h3:=h1.blk.cell 1
   have h4:=(HBB.out.below hW hblt).cell 0
   simp only[List.getElem?_toArray,List.getElem?_cons_zero,List.getElem?_cons_succ] at h2 h3 h4
   rw[HV.out] at h3
   exact⟨h1,h4,h2,h3⟩
  have hfree:∀ W,Below w1.heap.size w1 W→Calls Tryz.prog 88 #[.pointer (some ⟨L.g,0,none⟩),.int .i64 tx,.int .i64 mode,.slice A (atT T (sx s)).ws.length c] W fun e w'=>e=.returned (.bool false)∧Below W.heap.size W w':=fun W hW=>by
   have h1:=(hkeep W hW).1
   have h2:=qa2 L.g L.hb (n+1) (atT T (sx s)).ws.length c L.V (atT T (sx s)).h tx mode A (atT T (sx s)).ws W h1.blk h1.holds h1.okh htx (Rd.of_own (HV.out▸h1.row)) rfl (by have:=h1.len;omega)
   rw[hfb] at h2
   exact h2
  have HKEEP:=LH hkeep;clear hkeep
  have HFREE:=LH hfree;clear hfree
  have HB2:=LH hb2;clear hb2 HCT
  have HLG:=LH hgl;clear hgl
  have HBLT:=LH hblt
  have HTX:=LH htx
  clear cb ck0 ck1 hblt hnc
  go_upto_region 8 with (fail)
  go_cut [47] (fun s47 wx=>s47=.bool false∧Below w1.heap.size w1 wx)
  case first=>
   refine wp_region_any (by kernel_rfl) ?_
   change wpAny _ _ _ _ _ _ _ (World.drew _)
   refine q0e (fun w'=>w'.cell? ⟨w.heap.size,0,none⟩=some (.int .i64 tx)∧w'.cell? ⟨L.g,1,none⟩=some (.slice A (atT T (sx s)).ws.length c)) 8 (fun _ _ _ _ _ h=>h) (fun HQP=>?_)
   have hk0:=HKEEP.out w2.drew HB2.out.drew
   have HCC:=And.intro hk0.2.1 hk0.2.2.2
   clear hk0
   refine nB 0 rfl rfl HQP HCC (fun w' hw'=>by go_simp;rfl) ?_
   refine nB 1 rfl rfl HQP HCC (fun w' hw'=>by obtain⟨h0,h1⟩:=hw';go_simp;rfl) ?_
   refine nB 2 rfl rfl HQP HCC (fun w' hw'=>by go_simp;rfl) ?_
   refine nB 3 rfl rfl HQP HCC (fun w' hw'=>by go_simp;rfl) ?_
   refine nB 4 rfl rfl HQP HCC (fun w' hw'=>by go_simp;rfl) ?_
   refine nB 5 rfl rfl HQP HCC (fun w' hw'=>by go_simp;rfl) ?_
   refine nB 6 rfl rfl HQP HCC (fun w' hw'=>by obtain⟨h0,h1⟩:=hw';go_simp;rfl) ?_
   refine nO 7 rfl (fun K hK=>?_)
   go_simp
   refine(HFREE.out w2.drew HB2.out.drew).mono ?_
   rintro e w3 ⟨rfl,hb3⟩
   have hB3:Below w1.heap.size w1 w3:=HB2.out.drew.trans (hb3.mono (by have:=HB2.out.size;simpa using this))
   have HB3:=LH hB3;clear hB3 hb3
   have hk0:=HKEEP.out w3 HB3.out
   go_simp
   refine hK _ _ (fun _=>⟨hk0.2.1,hk0.2.2.2⟩) ?_
   clear hK K HCC
   refine ndone (by kernel_rfl) ?_ _
   clear HQP hk0
   go_wp2_with fail
   go_meet
   exact⟨rfl,HB3.out⟩
  case rest=>
   obtain⟨hu47,hb3⟩:=hcut
   subst hu47
   clear HFREE HB2
   have HB3:=LH hb3;clear hb3
   have hI3:=HI1.out.tall HB3.out
   have HI3:=LH hI3;clear hI3
   obtain⟨_,ctx,cg0,cg1⟩:=HKEEP.out wc HB3.out
   by_cases h50:(atT T (sx s)).ws.length=50
   ·
    have hfin:q37 base n g off ty cs mb loc T ⟨tx,sx s,mode⟩ w (.returned (.tuple #[.bool false,.slice none 0 0,erV 4])) wc:=by
     have hex:T (sx s)≠none:=fun h=>by rw[show atT T (sx s)=k0 by unfold atT;rw[h];rfl] at h50;cases h50
     obtain⟨k,hk⟩:=Option.ne_none_iff_exists'.1 hex
     have hT:putT T (sx s) (some (atT T (sx s)))=T:=q7h hk
     have hI2:=HI3.out
     rw[hT] at hI2
     refine⟨false,[],4,T,none,0,some b1,_,rfl,.full hmode hl hw hfb h50,hI2.mono (by omega),fun b hb=>?_,(q6y HF1.out).trans' (q1p HB3.out) (fun i hi (h:_≤i)=>?_),Rd.none_ _ _ _ _,fun b o h=>(nomatch h)⟩
     ·have h2:=qa6 (w:=w) (k':=atT T (sx s)) HOR.out (by simp) HL1.out HL2.out b
      rw[hT] at h2
      exact h2 hb
     ·have:=HF1.out.size;simp at this;omega
    have HFIN:=LH hfin;clear hfin
    have d50:(((atT T (sx s)).ws.length:Int) == 50)=true:=by simp[h50]
    unfold erV at HFIN
    go_wp2_with fail
    go_ret3
    exact HFIN.out
   have d50:(((atT T (sx s)).ws.length:Int) == 50)=false:=by rw[beq_eq_false_iff_ne];omega
   have H50:=LH h50;clear h50
   go_upto_region 13 with (fail)
   clear d50 ctx cg0 cg1
   go_cut [12] (fun s12 wx=>∃ i:Nat,s12=.int .i64 i∧Hid (i≤(atT T (sx s)).ws.length∧((atT T (sx s)).ws.takeWhile (fun x=>decide (x.1<tx))).length=i)∧Below w1.heap.size w1 wx)
   case first=>
    refine wp_region_any (by kernel_rfl) ?_
    change wpAny _ _ _ _ _ _ _ (World.drew _)
    refine q0e (fun w'=>w'.cell? ⟨w.heap.size,0,none⟩=some (.int .i64 tx)∧w'.cell? ⟨L.g,1,none⟩=some (.slice A (atT T (sx s)).ws.length c)) 10 (fun _ _ _ _ _ h=>h) (fun HQP=>?_)
    have hk0:=HKEEP.out wc.drew HB3.out.drew
    have HCC:=And.intro hk0.2.1 hk0.2.2.2
    have hbs:=wsearch_any 90 (cfW tx) A _ c (atT T (sx s)).ws tx wc.drew (q1y Tryz.func90 (by kernel_rfl) rfl) (lock2_any tx wc.drew) (Rd.of_own (HV.out▸hk0.1.row)) rfl (by have:=hk0.1.len;omega) (fun _ _=>trivial) (cfW_mono hsort)
    have HBS:=LH hbs;clear hbs
    clear hk0
    refine nB 0 rfl rfl HQP HCC (fun w' hw'=>by go_simp;rfl) ?_
    refine nB 1 rfl rfl HQP HCC (fun w' hw'=>by go_simp;rfl) ?_
    refine nB 2 rfl rfl HQP HCC (fun w' hw'=>by go_simp;rfl) ?_
    refine nB 3 rfl rfl HQP HCC (fun w' hw'=>by obtain⟨h0,h1⟩:=hw';go_simp;rfl) ?_
    refine nB 4 rfl rfl HQP HCC (fun w' hw'=>by obtain⟨h0,h1⟩:=hw';go_simp;rfl) ?_
    refine nO 5 rfl (fun K hK=>?_)
    go_simp
    refine HBS.out.mono ?_
    rintro e w4 ⟨i,f,rfl,hi,hlo,hhi,_,hb4⟩
    have hpl:=place_eq hi hlo hhi
    have HPL:=LH (And.intro hi hpl);clear hi hlo hhi hpl
    have hB4:Below w1.heap.size w1 w4:=HB3.out.drew.trans (hb4.mono (by have:=HB3.out.size;simpa using this))
    have HB4:=LH hB4;clear hB4 hb4 HBS
    have hk0:=HKEEP.out w4 HB4.out
    have HCC2:=And.intro hk0.2.1 hk0.2.2.2
    clear hk0 HCC
    have HCC:=HCC2;clear HCC2
    go_simp
    refine hK _ _ (fun _=>HCC) ?_
    clear hK K
    refine nO 6 rfl (fun K hK=>?_)
    go_simp
    refine hK _ _ (fun _=>HCC) ?_
    clear hK K
    refine nB 7 rfl rfl HQP HCC (fun w' hw'=>by go_simp;rfl) ?_
    refine nB 8 rfl rfl HQP HCC (fun w' hw'=>by go_simp;rfl) ?_
    refine nO 9 rfl (fun K hK=>?_)
    go_simp
    refine hK _ _ (fun _=>HCC) ?_
    clear hK K
    refine nO 10 rfl (fun K hK=>?_)
    go_simp
    refine hK _ _ (fun h=>absurd h (by decide)) ?_
    clear hK K
    refine ndone (by kernel_rfl) ?_ _
    clear HQP HCC
    go_wp2_with fail
    go_meet
    exact⟨i,rfl,HPL,HB4.out⟩
   case rest=>
    obtain⟨i,hu12,hpl,hb4⟩:=hcut
    subst hu12
    have HB4:=LH hb4;clear hb4 HB3 HI3
    have HPL:=LH hpl.out;clear hpl
    go_upto_region 14 with (fail)
    go_cut [] (fun wx=>InsRel base n g off ty cs mb loc T ⟨tx,sx s,mode⟩ w L.g L.hb wx)
    case first=>
     refine wp_region_any (by kernel_rfl) ?_
     change wpAny _ _ _ _ _ _ _ (World.drew _)
     refine q0e (fun w'=>w'.cell? ⟨w.heap.size,0,none⟩=some (.int .i64 tx)∧w'.cell? ⟨L.g,1,none⟩=some (.slice A (atT T (sx s)).ws.length c)) 11 (fun _ _ _ _ _ h=>h) (fun HQP=>?_)
     have hk0:=HKEEP.out wc.drew HB4.out.drew
     have HCC:=And.intro hk0.2.1 hk0.2.2.2
     clear hk0
     refine nB 0 rfl rfl HQP HCC (fun w' hw'=>by go_simp;rfl) ?_
     refine nB 1 rfl rfl HQP HCC (fun w' hw'=>by go_simp;rfl) ?_
     refine nB 2 rfl rfl HQP HCC (fun w' hw'=>by go_simp;rfl) ?_
     refine nB 3 rfl rfl HQP HCC (fun w' hw'=>by go_simp;rfl) ?_
     refine nB 4 rfl rfl HQP HCC (fun w' hw'=>by obtain⟨h0,h1⟩:=hw';go_simp;rfl) ?_
     refine nB 5 rfl rfl HQP HCC (fun w' hw'=>by go_simp;rfl) ?_
     refine nB 6 rfl rfl HQP HCC (fun w' hw'=>by obtain⟨h0,h1⟩:=hw';go_simp;rfl) ?_
     refine nB 7 rfl rfl HQP HCC (fun w' hw'=>by go_simp;rfl) ?_
     refine nB 8 rfl rfl HQP HCC (fun w' hw'=>by go_simp;rfl) ?_
     refine nO 9 rfl (fun K hK=>?_)
     go_simp
     have hB5:Below w1.heap.size w1 ((wc.alloc (.cells #[.int .i64 tx,.int .i64 mode] 166)).drew):=(HB4.out.alloc (by have:=HB4.out.size;simpa using this) _).drew
     have hk5:=HKEEP.out _ hB5
     have hI5:=HI1.out.tall hB5
     have hvb:Blk ((wc.alloc (.cells #[.int .i64 tx,.int .i64 mode] 166)).drew) wc.heap.size 166 #[.int .i64 tx,.int .i64 mode]:=Blk.new wc _ _
     have hbx5:=HBB.out.below hB5 HBLT.out
     have hins:=wins_any base (atT T (sx s)).ws.length i wc.heap.size 1 L.V ((atT T (sx s)).ws.flatMap q0a) (q0a (tx,mode)) _ hk5.1.row HPL.out.1 (by have:=hk5.1.len;omega) (fun u hu=>by
      obtain⟨x,_,hx⟩:=List.mem_flatMap.1 hu
      simp only[q0a,List.mem_cons,List.not_mem_nil,or_false] at hx
      rcases hx with rfl|rfl <;> rfl) rfl (fun u hu=>by
      simp only[q0a,List.mem_cons,List.not_mem_nil,or_false] at hu
      rcases hu with rfl|rfl <;> rfl) hvb (fun e=>by have:=(HK1.out.foot_lt (.inr (.inr e))).2;have:=HB4.out.size;omega) (by have:=HI1.out.bg;have:=HB4.out.size;simp;omega)
     generalize hW5:(wc.alloc (.cells #[.int .i64 tx,.int .i64 mode] 166)).drew=w5 at *
     have HINS:=LH hins;clear hins
     have HK5:=LH hk5.1
     have HI5:=LH hI5;clear hI5
     have HB5:=LH hB5;clear hB5
     have HX5:=LH hbx5;clear hbx5 hvb
     have HCC2:=And.intro hk5.2.1 hk5.2.2.2
     clear hk5 HCC
     have HCC:=HCC2;clear HCC2
     clear hW5
     refine hK _ _ (fun _=>HCC) ?_
     clear hK K
     refine nO 10 rfl (fun K hK=>?_)
     rw[HV.out] at HINS
     go_simp
     refine HINS.out.mono ?_
     rintro e w6 ⟨V',rfl,hrow,hmv⟩
     rw[← HV.out] at hmv
     obtain⟨hK6,hf6⟩:=key_ins HK5.out HPL.out.2 H50.out hrow hmv HTX.out hmode
     have hb6:=hmv.1.blk HK5.out.blk (fun e=>q02 HK5.out.row HK5.out.blk (by decide) e.symm)
     have cs1:=hb6.cell 1
     have cf1:=hb6.frozen 1
     have hg6:=hb6.lt
     simp only[List.getElem?_toArray,List.getElem?_cons_zero,List.getElem?_cons_succ] at cs1
     have hbx6:=hmv.1.blk HX5.out (fun e=>q02 HK5.out.row HX5.out (by decide) e.symm)
     have cx6:=hbx6.cell 0
     simp only[List.getElem?_toArray,List.getElem?_cons_zero] at cx6
     have hc6:=cs1
     rw[HV.out] at hc6
     have HC6:=LH (And.intro cx6 hc6);clear cx6 hc6 hbx6
     have hfin:InsRel base n g off ty cs mb loc T ⟨tx,sx s,mode⟩ w L.g L.hb (w6.setCell ⟨L.g,1,none⟩ V'):=by
      have hT1:putT T (sx s) (some (atT T (sx s))) (sx s)=some (atT T (sx s)):=by unfold putT;rw[if_pos rfl]
      have hLL:locP loc (sx s) L (sx s)=L:=by unfold locP;rw[if_pos rfl]
      have hI6:=HI5.out.turn (n':=n+1) (L':=⟨L.g,L.hb,V'⟩) (k':=⟨(atT T (sx s)).h,insW (atT T (sx s)).ws (tx,mode)⟩) hT1 (Nat.le_refl _) (by rw[hLL];exact hf6) hK6 (by rw[hLL]) (by rw[hLL]) (fun b hb=>by
       rw[hLL]
       rcases hmv.2 with e|⟨g',e,hg'⟩
       ·exact .inl (e.symm.trans hb)
       ·rw[hb] at e;injection e with e;exact .inr (by omega))
      rw[q9r,locP_put] at hI6
      refine⟨b1,V',hI6,fun b hb=>?_,?_,?_,by simp[World.setCell];exact hg6⟩
      ·rcases foot_ins (L:=L) (L':=⟨L.g,L.hb,V'⟩) (k:=atT T (sx s)) (k':=⟨(atT T (sx s)).h,insW (atT T (sx s)).ws (tx,mode)⟩) (B:=w5.heap.size) rfl rfl (fun b hb=>by
        rcases hmv.2 with e|⟨g',e,hg'⟩
        ·exact .inl (e.symm.trans hb)
        ·have hb':V'.ownBlock=some b:=hb
         rw[hb'] at e;injection e with e;exact .inr (by omega)) b hb with h|h
       ·exact qa6 HOR.out (by simp) HL1.out HL2.out b h
       ·exact .inr (by have:=HB5.out.size;have:=HF1.out.size;simp at this;omega)
      ·refine((q6y HF1.out).trans' (q1p HB5.out) (fun i hi (h:_≤i)=>?_)).trans' hf6 (fun i hi (h:KFoot L i)=>?_)
       ·have:=HF1.out.size;simp at this;omega
       ·by_cases hTn:T (sx s)=none
        ·have:=HL2.out hTn i h;simp at this;omega
        ·exact .inr (.inr ⟨sx s,hTn,by rw[← HL1.out hTn];exact h⟩)
      ·exact(hmv.1.blk HX5.out (fun e=>q02 HK5.out.row HX5.out (by decide) e.symm)).far (fun e=>HX5.out.ne_ HK5.out.blk (by decide) e) _
     obtain⟨A',c',hV',_,_⟩:=q01 hrow
     have HFIN:=LH hfin;clear hfin hK6 hf6 hb6 hrow hmv
     subst hV'
     clear HCC
     go_simp
     refine hK _ _ (fun _=>HC6.out) ?_
     clear hK K
     refine nO 11 rfl (fun K hK=>?_)
     go_simp
     refine hK _ _ (fun h=>absurd h (by decide)) ?_
     clear hK K
     refine nO 12 rfl (fun K hK=>?_)
     go_simp
     refine hK _ _ (fun h=>absurd h (by decide)) ?_
     clear hK K
     refine nO 13 rfl (fun K hK=>?_)
     go_simp
     refine hK _ _ (fun h=>absurd h (by decide)) ?_
     clear hK K
     refine ndone (by kernel_rfl) ?_ _
     clear HQP cs1 cf1 hg6
     go_wp2_with fail
     go_meet
     exact HFIN.out
    case rest=>
     obtain⟨b2,V,hI6,hft,hfr,hbx,hlg⟩:=hcut
     rename World=>W6
     clear HKEEP HPL HB4 HF1 HOR HL1 HL2 HV HK1 HI1
     have hK6:=hI6.keys (sx s) _ (show putT T (sx s) _ (sx s)=_ by unfold putT;rw[if_pos rfl])
     rw[show locP loc (sx s) ⟨L.g,L.hb,V⟩ (sx s)=⟨L.g,L.hb,V⟩ by unfold locP;rw[if_pos rfl]] at hK6
     have ck0:=hK6.blk.cell 0
     have cb:=hbx.cell 0
     simp only[List.getElem?_toArray,List.getElem?_cons_zero] at ck0 cb
     have hbl:=hbx.lt
     have HMAP:=LH hK6.holds
     have HOKH:=LH hK6.okh
     have hhb:=hK6.holds.lt
     have HI6:=LH hI6;clear hI6
     have HFT:=LH hft;clear hft
     have HFR:=LH hfr;clear hfr
     have HBX:=LH hbx;clear hbx hK6
     have HHB:=LH hhb;clear hhb
     go_wp2_with (at_range;refine q23 rfl _ 61 3 rfl Tryz.underlying61 rfl HMAP.out ?_;intro w0 cnt0 hrg0 hf0 hs0)
     try go_frame
     go_loopw [14] (fun v wr=>WlRel W6 (atT T (sx s)).h tx mode L.hb W6.heap.size (n+1) v wr) (fun _ wr=>wr.rangeLeft L.hb W6.heap.size)
     case atStart=>exact⟨_,cnt0,[],hrg0,(by simpa using hrg0.cnt_le),World.ownsRow_nil _ _ _ _,List.nodup_nil,(fun o=>by
      simp only[List.not_mem_nil,false_iff]
      rintro ⟨h1,m,h2,_⟩
      simp[hM,h2] at h1),hf0.none_below,by omega⟩
     case round=>
      obtain⟨left,cnt,l,hrg,hcn,hown,hnd,hmem,hbw,hsz⟩:=hrel
      have cb1:=(hbw.cell (p:=⟨w.heap.size,0,none⟩) hbl).trans cb
      have hblw:w.heap.size<wr.heap.size:=by omega
      have HRG:=LH hrg;clear hrg
      have HOWN:=LH hown;clear hown
      have HND:=LH hnd;clear hnd
      have HMEM:=LH hmem;clear hmem
      have HBW:=LH hbw;clear hbw
      have HCN:=LH hcn;clear hcn
      have HSZ:=LH hsz;clear hsz
      go_wp2_with (at_next;refine q2i rfl _ rfl rfl HRG.out ?_ ?_)
      ·
       intro hl0
       have hsrt:=sort_ints (W6.heap.size+1) l.length _ l wr HOWN.out rfl (by have:=HCN.out;omega)
       have HSRT:=LH hsrt;clear hsrt
       obtain⟨A2,c2,hV2,_,hA2⟩:=q01 HOWN.out
       subst hV2
       go_wp2_with fail
       refine HSRT.out.mono ?_
       rintro e w9 ⟨rfl,hown9,hf9⟩
       have hfin:q37 base n g off ty cs mb loc T ⟨tx,sx s,mode⟩ w (.returned (.tuple #[.bool false,.slice A2 l.length c2,erV 0])) w9:=by
        have hb9:Below W6.heap.size W6 w9:=HBW.out.trans (hf9.below (fun i hi=>by have:=(HOWN.out.lt i hi).1;omega) (by have:=HBW.out.size;omega))
        have hsl:(sortI l).length=l.length:=List.length_mergeSort l
        refine⟨false,sortI l,0,_,A2,c2,some b2,_,by rw[hsl],.waits hmode hl hw hfb H50.out ⟨sortI_lt HND.out,fun o=>?_⟩,(HI6.out.tall hb9).mono (by omega),HFT.out,HFR.out.trans' (q1p hb9) (fun i hi (h:_≤i)=>by have:=HFR.out.size;omega),?_,fun b o e h0=>?_⟩
        ·rw[mem_sortI,HMEM.out o]
         constructor
         ·rintro ⟨_,m,h1,h2,h3⟩;exact⟨h2,m,h1,h3⟩
         ·rintro ⟨h2,m,h1,h3⟩;exact⟨hl0 o (HOKH.out o m h1).1,m,h1,h2,h3⟩
        ·rw[hsl];exact Rd.of_own hown9
        ·have h1:=HOWN.out.lt b (by rw[hA2 _ e])
         refine⟨by have:=HFR.out.size;omega,fun h2=>?_⟩
         have:=(HI6.out.foot_lt h2).2
         omega
       have HFIN:=LH hfin;clear hfin hf9 hown9
       unfold erV at HFIN
       go_wp2_with fail
       go_ret3
       exact HFIN.out
      ·intro o v w3 cnt3 hox hlx hmx hrg3 hlt hf3 hs3 hen
       obtain⟨m,hm,rfl⟩:∃ m,(atT T (sx s)).h o=some m∧v=.int .i64 m:=by
        unfold hM at hmx
        cases e:(atT T (sx s)).h o with
        | none=>rw[e] at hmx;cases hmx
        | some m=>rw[e] at hmx;injection hmx with hmx;exact⟨m,rfl,hmx.symm⟩
       have hb3:Below W6.heap.size W6 w3:=HBW.out.trans (hf3.below (fun i (hi:i=_)=>by omega) (by have:=HBW.out.size;omega))
       have hown3:=hf3.own HOWN.out (fun b hb (e:b=_)=>by have:=(HOWN.out.lt b hb).1;omega)
       have cb3:=(hf3.cell (p:=⟨w.heap.size,0,none⟩) hblw (fun e=>by have:w.heap.size=W6.heap.size:=e;omega)).trans cb1
       have hblw3:w.heap.size<w3.heap.size:=by omega
       have HB3:=LH hb3;clear hb3
       have HO3:=LH hown3;clear hown3
       have HM3:=LH hm;clear hm
       have HRG3:=LH hrg3;clear hrg3 hmx
       have HLX:=LH hlx;clear hlx
       rw[show kI.val o=Value.int .i64 o from rfl] at hen ⊢
       have hms:w3.rangeLeft L.hb W6.heap.size<wr.rangeLeft L.hb W6.heap.size:=by
        rw[HRG3.out.left_eq,HRG.out.left_eq];exact hlt
       have HMS:=LH hms;clear hms
       have HLT:=LH hlt;clear hlt hf3
       have HS3:=LH hs3;clear hs3
       clear cb1 hblw
       have hskip:¬(tx<o∧clash m mode=true)→WlRel W6 (atT T (sx s)).h tx mode L.hb W6.heap.size (n+1) _ w3:=fun hno=>
        ⟨_,cnt3,l,HRG3.out,by have:=HCN.out;have:=HLT.out;omega,HO3.out,HND.out,wl_skip HMEM.out HM3.out HLX.out hno,HB3.out,by have:=HSZ.out;have:=HS3.out;omega⟩
       have HSKIP:=LH hskip;clear hskip
       have hgo:∀ V9 w9,(tx<o∧clash m mode=true)→w9.ownsRow (W6.heap.size+1) 3 1 V9 (l.length+1) (l.map (Value.int .i64)++[Value.int .i64 o])→Below (W6.heap.size+1) w3 w9→
         WlRel W6 (atT T (sx s)).h tx mode L.hb W6.heap.size (n+1) V9 w9∧w9.rangeLeft L.hb W6.heap.size<wr.rangeLeft L.hb W6.heap.size:=fun V9 w9 hyes hown9 hb9=>by
        have hrg9:q0z kI w9 L.hb W6.heap.size (n+1) (hM (atT T (sx s)).h) _ cnt3:=HRG3.out.of_blocks (hb9.block _ (by have:=HHB.out;omega)) (hb9.block _ (by omega))
        have hw:=wl_take (d:=fun p=>Classical.propDecidable (p=o)) HMEM.out HM3.out HLX.out hyes HND.out
        refine⟨⟨_,cnt3,l++[o],hrg9,by have:=HCN.out;have:=HLT.out;simp;omega,by simpa using hown9,hw.1,hw.2,HB3.out.trans (hb9.mono (by omega)),by have:=hb9.size;have:=HSZ.out;have:=HS3.out;omega⟩,?_⟩
        rw[hrg9.left_eq,HRG.out.left_eq];exact HLT.out
       have HGO:=LH hgo;clear hgo
       go_upto_region 19 with (fail)
       go_cut [110] (fun s110 wx=>s110=.bool (wlB tx mode o m)∧wx=w3)
       case first=>
        by_cases h1:tx<o
        ·have d1:decide (o > tx)=true:=decide_eq_true h1
         by_cases h2:m=2
         ·have d2:(m == 2)=true:=by simpa using h2
          have HV9:=LH (show wlB tx mode o m=true by simp[wlB,h1,clash,h2])
          go_wp2_with fail
          go_meet
          exact⟨by rw[HV9.out],rfl⟩
         ·have d2:(m == 2)=false:=by simpa using h2
          by_cases h3:mode=2
          ·have d3:(mode == 2)=true:=by simpa using h3
           have HV9:=LH (show wlB tx mode o m=true by simp[wlB,h1,clash,h3])
           go_wp2_with fail
           go_meet
           exact⟨by rw[HV9.out],rfl⟩
          ·have d3:(mode == 2)=false:=by simpa using h3
           have HV9:=LH (show wlB tx mode o m=false by simp[wlB,h1,clash,h2,h3])
           go_wp2_with fail
           go_meet
           exact⟨by rw[HV9.out],rfl⟩
        ·have d1:decide (o > tx)=false:=decide_eq_false h1
         have HV9:=LH (show wlB tx mode o m=false by simp[wlB,h1])
         go_wp2_with fail
         go_meet
         exact⟨by rw[HV9.out],rfl⟩
       case rest=>
        obtain⟨hu110,hwc⟩:=hcut
        subst hu110 hwc
        rcases hyB:wlB tx mode o m with _|_
        ·have hno:¬(tx<o∧clash m mode=true):=fun h=>by simp[wlB,h.1,h.2] at hyB
         have HR:=LH (HSKIP.out hno)
         go_wp2_with fail
         go_roundw
         case rel=>exact HR.out
         case measure=>exact HMS.out
        ·have hyes:tx<o∧clash m mode=true:=by simpa [wlB] using hyB
         have HY:=LH hyes;clear hyes
         go_wp2_with (at_builtin;refine stop ?_)
         refine back ?_
         refine q0h _ _ rfl (.tmp 111) (.tmp 113) 26 rfl (W6.heap.size+1) 3 (.int .i64 0) 1 8 Tryz.underlying26 int_infoL rfl (by decide) _ _ _ #[.int .i64 o] rfl HO3.out 1 rfl _ rfl rfl (by simp[Value.oneCell']) ?_ ?_ ?_ ?_
         ·have:=HCN.out;unfold maxLen;omega
         ·have:=HCN.out;omega
         ·have:=HSZ.out;have:=HS3.out;omega
         intro v' w9 hown9 hmv
         have h9:=HGO.out v' w9 HY.out (by simpa using hown9) (hmv.below (fun b hb=>(HO3.out.lt b hb).1) (by have:=HSZ.out;have:=HS3.out;omega))
         have H9:=LH h9;clear h9 hown9 hmv
         go_wp2_with fail
         go_roundw
         case rel=>exact H9.out.1
         case measure=>exact H9.out.2

end Go.Proofs.YtccahlhdifadfaaGreatDoor
