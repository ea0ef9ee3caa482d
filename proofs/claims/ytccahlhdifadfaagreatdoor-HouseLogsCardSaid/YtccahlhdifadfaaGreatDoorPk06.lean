/- Part 7 of the texts that the claim rests on (of 19): Lk9, SKeys, Rel1, Rel3, Rel2, HsP, HsT. -/
import Derived.Test.YtccahlhdifadfaaGreatDoorPk05
namespace Go.Proofs.YtccahlhdifadfaaGreatDoor
open Go.RowKit
set_option maxRecDepth 100000
set_option maxHeartbeats 16000000
def wIs (tx:Int) (x:Int×Int):Bool:=decide (x.1=tx)
def fillW (w:World) (g o:Nat) (x:Int×Int):World:=(w.setCell ⟨g,o,none⟩ (.int .i64 x.1)).setCell ⟨g,o+1,none⟩ (.int .i64 x.2)
theorem fillW_fr (w:World) (g o:Nat) (x:Int×Int):Fr (fun i=>i=g) w (fillW w g o x):=
 ((Fr.refl (fun i=>i=g) w).setCell (p:=⟨g,o,none⟩) (.inl rfl) _).setCell (p:=⟨g,o+1,none⟩) (.inl rfl) _
theorem set2:∀ (M:List (Int×Int)) (i:Nat) (x:Int×Int),i<M.length→(((M.flatMap q0a).set (i*2) (.int .i64 x.1)).set (i*2+1) (.int .i64 x.2))=(M.set i x).flatMap q0a
 | [],i,x,h=>by simp at h
 | y::M,0,x,_=>by simp[q0a]
 | y::M,i+1,x,h=>by
  have ih:=set2 M i x (by simpa using h)
  have e0:(i+1)*2=i*2+2:=by omega
  rw[e0,List.set_cons_succ,List.flatMap_cons,List.flatMap_cons,← ih]
  simp[q0a,Nat.add_right_comm]
theorem own_fillW {w:World} {base g n cap i:Nat} {M:List (Int×Int)} (h:w.ownsRow base 166 2 (.slice (some ⟨g,0,none⟩) n cap) n (M.flatMap q0a)) (x:Int×Int) (hi:i<M.length) :
  (fillW w g (i*2) x).ownsRow base 166 2 (.slice (some ⟨g,0,none⟩) n cap) n ((M.set i x).flatMap q0a):=by
 rw[← set2 M i x hi]
 exact((h.stored _ _).1.stored _ _).1
theorem fr_of_belowW {B:Nat} {w w':World} (h:Below B w w'):Fr (fun k=>B≤k) w w':=⟨h.os,h.tape,h.output,h.size,fun k _ hn=>h.block k (by omega)⟩
theorem flat2_take' (L:List (Int×Int)) (i:Nat):(L.flatMap q0a).take (i*2)=(L.take i).flatMap q0a:=by
 induction L generalizing i with
 | nil=>simp
 | cons x L ih=>
  cases i with
  | zero=>simp
  | succ i=>rw[show(i+1)*2=i*2+2 by omega,List.flatMap_cons,List.take_succ_cons,List.flatMap_cons,← ih];simp[q0a]
theorem q0q {w w':World} {base e size n:Nat} {v:Value} {xs:List Value} (h:w.ownsRow base e size v n xs) (hb:Below w.heap.size w w'):w'.ownsRow base e size v n xs:=
 Fr.own (S:=fun k=>w.heap.size≤k) ⟨hb.os,hb.tape,hb.output,hb.size,fun k _ hn=>hb.block k (by omega)⟩ h (fun g hg (h':w.heap.size≤g)=>by have:=(h.lt g hg).2;omega)
def WdRel (base gv n cap:Nat) (tx:Int) (L:List (Int×Int)) (w:World) (u v:Value) (wr:World):Prop:=
 ∃ (i j:Nat) (M:List (Int×Int)),u=.int .i64 i∧v=.int .i64 j∧i<j∧j≤n∧M.length=n∧M.take i=offW (L.take j) tx∧M.drop j=L.drop j∧wr.ownsRow base 166 2 (.slice (some ⟨gv,0,none⟩) n cap) n (M.flatMap q0a)∧Fr (fun k=>k=gv) w wr
def WdPost (base gv cap:Nat) (n:Nat) (l:List (Int×Int)) (w:World) (e:Ending) (w':World):Prop:=
 e=.returned (.slice (some ⟨gv,0,none⟩) l.length cap)∧w'.ownsRow base 166 2 (.slice (some ⟨gv,0,none⟩) l.length cap) l.length (l.flatMap q0a)∧Fr (fun k=>k=gv) w w'∧l.length≤n
theorem q9t {tx:Int} {L:List (Int×Int)} {j:Nat} {x:Int×Int} (h:L[j]? = some x):offW (L.take (j+1)) tx=if wIs tx x then offW (L.take j) tx else offW (L.take j) tx++[x]:=by
 unfold offW
 rw[List.take_add_one,h,List.filter_append]
 rcases hg:wIs tx x with _|_ <;> (unfold wIs at hg;simp[hg])
theorem off_first {tx:Int} {L:List (Int×Int)} {i:Nat} (h:wIdx (wIs tx) L=i):i<L.length∧L.take i=offW (L.take (i+1)) tx:=by
 unfold wIdx at h
 rcases hf:L.findIdx? (wIs tx) with _|j
 ·rw[hf] at h;simp only at h;omega
 ·rw[hf] at h
  have e:j=i:=by have h':(j:Int)=i:=h;omega
  subst e
  rw[List.findIdx?_eq_some_iff_getElem] at hf
  obtain⟨hl,h1,h2⟩:=hf
  refine⟨hl,?_⟩
  rw[q9t (List.getElem?_eq_getElem hl),if_pos h1]
  unfold offW
  rw[List.filter_eq_self.2]
  intro x hx
  obtain⟨k,hk,rfl⟩:=List.mem_take_iff_getElem.1 hx
  have:=h2 k (by omega)
  unfold wIs at this
  simpa using this
theorem off_all {tx:Int} {L:List (Int×Int)} (h:wIdx (wIs tx) L = -1):offW L tx=L:=by
 unfold wIdx at h
 rcases hf:L.findIdx? (wIs tx) with _|j
 ·unfold offW
  rw[List.filter_eq_self.2]
  intro x hx
  rw[List.findIdx?_eq_none_iff] at hf
  have:=hf x hx
  unfold wIs at this
  simpa using this
 ·rw[hf] at h;simp only at h;omega
theorem wIdx_cases (tx:Int) (L:List (Int×Int)):wIdx (wIs tx) L = -1∨∃ i:Nat,wIdx (wIs tx) L=i:=by
 unfold wIdx
 split
 ·exact .inr ⟨_,rfl⟩
 ·exact .inl rfl
theorem w_zero (w:World):(zeroValue 166).run Tryz.prog w=.ok (.agg #[.int .i64 0,.int .i64 0]) w:=by kernel_rfl
theorem wdelete_any (base gv n cap b:Nat) (tx:Int) (L:List (Int×Int)) (w:World) (hrow:w.ownsRow base 166 2 (.slice (some ⟨gv,0,none⟩) n cap) n (L.flatMap q0a)) (hl:L.length=n) (hn:n≤100000)
  (hb:w.cell? ⟨b,0,none⟩=some (.int .i64 tx)) (hne:b≠gv):Calls Tryz.prog 102 #[.slice (some ⟨gv,0,none⟩) n cap,.func (.func 103) #[] #[.pointer (some ⟨b,0,none⟩)]] w (WdPost base gv cap n (offW L tx) w):=by
 have hix:=q5p 103 #[.pointer (some ⟨b,0,none⟩)] (wIs tx) (some ⟨gv,0,none⟩) n cap L w (q1y Tryz.func103 (by kernel_rfl) rfl) (q3y b tx w hb) (Rd.of_own hrow) hl hn
 have hbl:=World.block_lt_of_cell? w _ hb
 have HIX:=LH hix;clear hix
 have HROW:=LH hrow;clear hrow
 have HB:=LH hb;clear hb
 have HL:=LH hl;clear hl
 rcases wIdx_cases tx L with hf|⟨i0,hf⟩
 ·rw[hf] at HIX
  go_enter Tryz.func102,Tryz.ntmps102
  go_wp2_with fail
  refine HIX.out.mono ?_
  rintro e w1 ⟨rfl,hb1⟩
  have hfin:WdPost base gv cap n (offW L tx) w (.returned (.slice (some ⟨gv,0,none⟩) n cap)) w1:=by
   rw[off_all hf]
   unfold WdPost
   rw[HL.out]
   exact⟨rfl,q0q HROW.out hb1,⟨hb1.os,hb1.tape,hb1.output,hb1.size,fun k hk _=>hb1.block k hk⟩,Nat.le_refl _⟩
  have HFIN:=LH hfin;clear hfin
  go_wp2_with fail
  go_ret
  exact HFIN.out
 ·rw[hf] at HIX
  obtain⟨hi0,hk0⟩:=off_first hf
  have hi0:i0<n:=by have:=HL.out;omega
  have hne1:((i0:Int) == -1)=false:=by rw[beq_eq_false_iff_ne];omega
  go_enter Tryz.func102,Tryz.ntmps102
  go_wp2_with fail
  refine HIX.out.mono ?_
  rintro e w1 ⟨rfl,hb1⟩
  have hstart:WdRel base gv n cap tx L w (.int .i64 i0) (.int .i64 ((i0:Int)+1)) w1:=⟨i0,i0+1,L,rfl,rfl,by omega,by omega,HL.out,hk0,rfl,q0q HROW.out hb1,⟨hb1.os,hb1.tape,hb1.output,hb1.size,fun k hk _=>hb1.block k hk⟩⟩
  have HST:=LH hstart;clear hstart
  clear hf hk0
  go_wp2_with fail
  clear hne1 hi0 hb1
  go_loopw [5,6] (WdRel base gv n cap tx L w) (fun _ v _=>n-(intOf v).toNat)
  case atStart=>exact HST.out
  case round=>
   obtain⟨i,j,M,rfl,rfl,hij,hj,hM,hMt,hMd,hrow,hfr⟩:=hrel
   by_cases hlt:(j:Int)<n
   ·have hx:M[j]? = L[j]?:=by
     have:=congrArg (fun l=>l[0]?) hMd
     simpa using this
    obtain⟨g',o',x,hA,hga,hxM,h0,h1⟩:=(Rd.of_own hrow).cells2 hM (j:=j) (by omega)
    simp only[Option.some.injEq,Addr.mk.injEq,and_true] at hA
    obtain⟨rfl,rfl⟩:=hA
    rw[Nat.zero_add] at h0 h1
    have hxL:L[j]? = some x:=hx▸hxM
    have hw1:Fr (fun _=>False) wr (wr.alloc (.cells #[.int .i64 x.1,.int .i64 x.2] 166)):=(Fr.refl _ _).alloc _
    have hcb:=(hw1.cell (p:=⟨b,0,none⟩) (Nat.lt_of_lt_of_le hbl hfr.size) (fun h=>h)).trans ((hfr.cell (p:=⟨b,0,none⟩) hbl hne).trans HB.out)
    have hcall:=q3y b tx _ hcb _ x (Below.refl _ _)
    unfold wtV at hcall
    rw[show(fun y:Int×Int=>decide (y.1=tx)) x=wIs tx x from rfl] at hcall
    have hB1:Blk (wr.alloc (.cells #[.int .i64 x.1,.int .i64 x.2] 166)) wr.heap.size 166 #[.int .i64 x.1,.int .i64 x.2]:=Blk.new wr _ _
    have hrow1:=hw1.own hrow (fun _ _ h=>h)
    have HC:=LH hcall;clear hcall
    have HB1:=LH hB1;clear hB1
    have HR1:=LH hrow1;clear hrow1
    have HFR:=LH (hfr.trans' hw1 (fun _ _ h=>h.elim));clear hfr hw1
    have HMT:=LH hMt;clear hMt
    have HMD:=LH hMd;clear hMd
    have HXL:=LH hxL;clear hxL hx hxM hcb
    have HM:=LH hM;clear hM
    go_wp2_with fail
    refine HC.out.mono ?_
    rintro e w2 ⟨rfl,hb2⟩
    have hf2:Fr (fun k=>k=gv) w w2:=HFR.out.trans' (fr_of_belowW hb2) (fun i hi (h:_≤i)=>by have:=HFR.out.size;simp at h this;omega)
    have hrow2:=q0q HR1.out hb2
    have hB2:Blk w2 wr.heap.size 166 #[.int .i64 x.1,.int .i64 x.2]:=HB1.out.below hb2 HB1.out.lt
    have HF2:=LH hf2;clear hf2
    rcases hp:wIs tx x with _|_
    ·have hxk:=q9t (tx:=tx) HXL.out
     rw[hp,if_neg (by simp)] at hxk
     have hiM:i<M.length:=by rw[HM.out];omega
     have q0:=hB2.cell 0
     have q1:=hB2.cell 1
     simp only[List.getElem?_toArray,List.getElem?_cons_succ,List.getElem?_cons_zero] at q0 q1
     obtain⟨g',o',y,hA,_,_,p0,p1⟩:=(Rd.of_own hrow2).cells2 HM.out (j:=i) (by omega)
     simp only[Option.some.injEq,Addr.mk.injEq,and_true] at hA
     obtain⟨rfl,rfl⟩:=hA
     rw[Nat.zero_add] at p0 p1
     have f0:=hrow2.frozenAt (i*2)
     have f1:=hrow2.frozenAt (i*2+1)
     have hgv:gv<w2.heap.size:=(hrow2.lt gv rfl).2
     have hnew:=own_fillW hrow2 x hiM
     have hrel2:WdRel base gv n cap tx L w (.int .i64 ((i:Int)+1)) (.int .i64 ((j:Int)+1)) (fillW w2 gv (i*2) x):=by
      refine⟨i+1,j+1,M.set i x,rfl,rfl,by omega,by omega,by rw[List.length_set];exact HM.out,?_,?_,hnew,HF2.out.trans (fillW_fr w2 gv (i*2) x)⟩
      ·rw[hxk,← HMT.out,List.take_add_one,List.take_set,List.getElem?_set_self hiM,List.set_eq_of_length_le (by rw[List.length_take];omega)]
       simp
      ·rw[List.drop_set_of_lt (by omega),← List.drop_drop,HMD.out,List.drop_drop]
     have HREL:=LH hrel2;clear hrel2 hnew hxk hiM
     have HP:=LH hp;clear hp
     have HR2:=LH hrow2;clear hrow2
     clear hB2 h0 h1
     unfold fillW at HREL
     go_wp2_with fail
     go_roundw
     case rel=>exact HREL.out
     case measure=>simp[intOf];omega
    ·have hxk:=q9t (tx:=tx) HXL.out
     rw[hp,if_pos rfl] at hxk
     have hrel2:WdRel base gv n cap tx L w (.int .i64 i) (.int .i64 ((j:Int)+1)) w2:=
      ⟨i,j+1,M,rfl,rfl,by omega,by omega,HM.out,by rw[HMT.out,hxk],by rw[← List.drop_drop,HMD.out,List.drop_drop],hrow2,HF2.out⟩
     have HREL:=LH hrel2;clear hrel2 hxk hrow2
     have HP:=LH hp;clear hp hB2 h0 h1
     go_wp2_with fail
     go_roundw
     case rel=>exact HREL.out
     case measure=>simp[intOf];omega
   ·obtain rfl:j=n:=by omega
    have hcap:=(q2u hrow).1
    have hall:L.take j=L:=List.take_of_length_le (by have:=HL.out;omega)
    rw[hall] at hMt
    have hkl:(offW L tx).length=i:=by rw[← hMt,List.length_take];omega
    have hpre:=q3m hrow (i:=i) (by omega)
    rw[flat2_take',hMt] at hpre
    obtain⟨w2,hcl,hrow2,hf2⟩:=q3w 164 (.agg #[.int .i64 0,.int .i64 0]) w_und w_zero (by rfl) (by decide) hpre (m:=j-i) (c:=cap-i) (by omega)
    have s1:=q3u (size:=2) 164 (by rw[q3b];exact w_und) (fun W=>by rw[q3b];exact q3a W) wr gv j cap i (i:Int) rfl (by omega)
    have s2:=q2x 164 w_und q3b q3a w2 gv j cap i (i:Int) rfl (by omega)
    have hfin:WdPost base gv cap j (offW L tx) w (.returned (.slice (some ⟨gv,0,none⟩) i cap)) w2:=by
     unfold WdPost
     rw[hkl]
     exact⟨rfl,hrow2,hfr.trans hf2,by omega⟩
    have HFIN:=LH hfin;clear hfin hrow2 hf2 hpre hrow hMt hMd hM hfr hkl hall
    go_wp2_with fail
    go_ret
    exact HFIN.out
section
open Go.RowKit Go.Maps Go.Sort Go.Shelf
theorem q6r {w:World} {base base':Nat} {e:TypeId} {size n:Nat} {v:Value} {xs:List Value} (h:w.ownsRow base e size v n xs) (hb:base'≤base):w.ownsRow base' e size v n xs:=
 ⟨h.1,h.2.imp id fun⟨g,cap,cur,h1,h2,r⟩=>⟨g,cap,cur,h1,Nat.le_trans hb h2,r⟩⟩
theorem q6g {H:Type} {D:DataW H} {P:Program} {k:TypeId} {R:Value→Option (DataW H×List MemPlace)} {w:World} {b n:Nat} (hown:w.ownsMap P k R b n D) (K:Keyed P k) (hk:P.underlying k=some .string) :
  (strKeys D).Nodup∧(∀ x,x∈strKeys D↔has D (.string x)=true)∧(strKeys D).length=Maps.size D:=by
 obtain⟨es,hD,hpw,_⟩:=hown.entries K
 obtain⟨es',hD',hko⟩:=hown.keysOf
 obtain rfl:es=es':=by rw[hD] at hD';simpa using hD'
 subst hD
 have hstr:∀ p∈es,∃ x,p.1=.string x:=fun p hp=>by obtain⟨v,hv⟩:=hko p hp;obtain⟨x,_,hx,_⟩:=Maps.keyOf_str hk hv;exact⟨x,hx⟩
 refine⟨?_,fun x=>?_,?_⟩
 ·show(es.map fun p=>Go.strOf p.1).Nodup
  refine List.pairwise_map.2 (hpw.imp_of_mem fun {p q} hp' hq' hne e=>hne ?_)
  obtain⟨a,ha⟩:=hstr p hp'
  obtain⟨b,hb⟩:=hstr q hq'
  rw[ha,hb] at e ⊢
  exact congrArg _ e
 ·rw[has_eq,List.any_eq_true]
  show x∈es.map (fun p=>Go.strOf p.1)↔_
  rw[List.mem_map]
  constructor
  ·rintro ⟨p,hp',rfl⟩
   obtain⟨a,ha⟩:=hstr p hp'
   exact⟨p,hp',by rw[ha];simp[Lit.sameKey,Go.strOf]⟩
  ·rintro ⟨p,hp',hs⟩
   obtain⟨a,ha⟩:=hstr p hp'
   rw[ha] at hs
   exact⟨p,hp',by rw[ha];simpa [Lit.sameKey,Go.strOf] using hs⟩
 ·show(es.map fun p=>Go.strOf p.1).length=_
  simp[Maps.size]
def KsPost (T:Tb) (n:Nat) (w:World) (e:Ending) (w':World):Prop:=
 ∃ (V:Value) (ks:List Sx),e=.returned V∧KeysP T ks∧ks.length≤n∧w'.ownsRow w.heap.size 9 1 V ks.length (ks.map encStr)∧Below w.heap.size w w'
theorem keysOf_any (mb:Option Nat) (W:World):Calls Tryz.prog 101 #[.map mb] W fun e w'=>e=.returned (.func (.func 123) #[] #[.pointer (some ⟨W.heap.size,0,none⟩)])∧w'=W.alloc (.cells #[.map mb] 98):=
 callsIn_wide.1 (kyKeysOf mb W)
theorem keys_view {w:World} {n b:Nat} {loc:Sx→KLoc} {T:Tb} {D:DataW Value} (hv:ViewG kS D (mapOf loc T)) (hs:∀ x,T x≠none→x.length≤20) (hown:w.ownsMap Tryz.prog 9 heldR b n D) :
  ∀ x,has D (.string x)=true↔T x≠none:=fun x=>by
 have key:∀ y:Sx,y.length≤maxLen→(has D (.string y)=true↔T y≠none):=fun y hy=>by
  have h1:=hv ⟨y.toArray⟩ (show(ByteArray.mk y.toArray).size≤maxLen by show y.toArray.size≤maxLen;simpa using hy)
  have e:(kS).kl ⟨y.toArray⟩=.string y:=by show Lit.string _=_;simp
  rw[e] at h1
  rw[h1.1]
  have e2:sx ⟨y.toArray⟩=y:=by show y.toArray.toList=y;simp
  unfold mapOf
  rw[e2]
  cases T y <;> simp
 constructor
 ·intro h
  have hm:x∈strKeys D:=((q6g hown kS.law Tryz.underlying9).2.1 x).2 h
  exact(key x (strKeys_le hown Tryz.underlying9 x hm)).1 h
 ·intro h
  exact(key x (by have:=hs x h;unfold maxLen;omega)).2 h
theorem sorted_any {n:Nat} {mb:Option Nat} {loc:Sx→KLoc} {T:Tb} (w:World) (hm:TabM w n mb loc T) (hs:∀ x,T x≠none→x.length≤20) (hn:n≤2000000) :
  Calls Tryz.prog 100 #[.func (.func 123) #[] #[.pointer (some ⟨w.heap.size,0,none⟩)]] (w.alloc (.cells #[.map mb] 98)) (KsPost T n w):=by
 have hb1:Below w.heap.size w (w.alloc (.cells #[.map mb] 98)):=(Below.refl _ _).alloc (Nat.le_refl _) _
 have hsz:w.heap.size≤(w.alloc (.cells #[.map mb] 98)).heap.size:=by simp
 rcases mb with _|b
 ·refine(callsIn_wide.1 (kySortedNil w)).mono ?_
  rintro e w' ⟨v,ss,rfl,rfl,hrow,_,hb⟩
  refine⟨v,[],rfl,⟨List.Pairwise.nil,fun x=>?_⟩,Nat.zero_le _,?_,hb1.trans (hb.mono hsz)⟩
  ·have:=hm x;simp[this]
  ·have:=q6r hrow hsz
   simpa using this
 ·obtain⟨D,hown,hv⟩:=hm
  obtain⟨hnd,hmem,hlen⟩:=q6g hown kS.law Tryz.underlying9
  have hle:=hown.size_le
  refine(callsIn_wide.1 (kySortedOf b n D heldR w hown (by unfold maxLen;omega) (by omega))).mono ?_
  rintro e w' ⟨v,ss,rfl,hp,hrow,_,hb⟩
  have hsl:(sortS ss).length=ss.length:=List.length_mergeSort ss
  refine⟨v,sortS ss,rfl,⟨sortS_lt (hp.nodup_iff.2 hnd),fun x=>?_⟩,?_,?_,hb1.trans (hb.mono hsz)⟩
  ·rw[mem_sortS,hp.mem_iff,hmem,keys_view hv hs hown]
  ·rw[hsl,hp.length_eq,hlen];exact hle
  ·rw[hsl];exact q6r hrow hsz
end
theorem hM_del (h:Int→Option Int) (tx:Int):putM (hM h) tx none=hM (setH h tx none):=by
 funext o
 unfold putM hM setH
 split <;> rfl
theorem key_del {w w':World} {base n:Nat} {L:KLoc} {k:Kx} {tx:Int} (h:KeyI w base n L k) (hm:MapG kI w' L.hb n (putM (hM k.h) tx none)) (hf:Fr (fun b=>b=L.hb) w w'):KeyI w' base n L ⟨setH k.h tx none,k.ws⟩:=
 ⟨hf.blk h.blk (fun e=>h.holds.notBlk h.blk e.symm),by rw[hM_del] at hm;exact hm,hf.own h.row (fun b hb e=>by subst e;exact h.holds.notOwn h.row hb),h.log,h.loh,fun o m ho=>by
  have ho':setH k.h tx none o=some m:=ho
  unfold setH at ho'
  split at ho'
  ·cases ho'
  ·exact h.okh o m ho',h.okw,h.len⟩
theorem gain_okN {h:Int→Option Int} {tx mode:Int} (hh:∀ o m,h o=some m→okN o∧okN m) (htx:okN tx) (hm:okN mode):∀ o m,gainH h tx mode o=some m→okN o∧okN m:=fun o m e=>by
 unfold gainH setH at e
 split at e
 ·rename_i e1
  injection e with e
  subst e1
  refine⟨htx,?_⟩
  rw[← e]
  unfold holdK
  rcases Int.le_total ((h o).getD 0) mode with h1|h1
  ·rw[Int.max_eq_right h1];exact hm
  ·rw[Int.max_eq_left h1]
   cases e2:h o with
   | none=>rfl
   | some m2=>exact(hh _ _ e2).2
 ·exact hh o m e
theorem key_gain {w w':World} {base n:Nat} {L:KLoc} {k:Kx} {tx mode:Int} (h:KeyI w base n L k) (hm:MapG kI w' L.hb (n+1) (putM (hM k.h) tx (some (.int .i64 (if mode > holdK k.h tx then mode else holdK k.h tx))))) (hf:Fr (fun b=>b=L.hb) w w') (htx:okN tx) (hmode:okN mode) :
  KeyI w' base (n+1) L ⟨gainH k.h tx mode,k.ws⟩:=
 ⟨hf.blk h.blk (fun e=>h.holds.notBlk h.blk e.symm),by rw[hM_gain] at hm;exact hm,hf.own h.row (fun b hb e=>by subst e;exact h.holds.notOwn h.row hb),h.log,h.loh,fun o m ho=>gain_okN h.okh htx hmode o m ho,h.okw,h.len⟩
theorem key_row {W w5:World} {base n:Nat} {L:KLoc} {k:Kx} {V':Value} {ws':List (Int×Int)} (h:KeyI W base n L k) (hb5:Blk w5 L.g 168 #[.map (some L.hb),L.V]) (hm5:MapG kI w5 L.hb n (hM k.h))
  (hrow:w5.ownsRow base 166 2 V' ws'.length (ws'.flatMap q0a)) (hok:∀ x∈ws',okN x.1∧okN x.2) (hlen:ws'.length≤50):KeyI (w5.setCell ⟨L.g,1,none⟩ V') base n ⟨L.g,L.hb,V'⟩ ⟨k.h,ws'⟩:=by
 have hf:=Fr.set1 L.g w5 1 V'
 have hne:=q02 hrow hb5 (by decide)
 exact⟨hb5.set_ 1 V',hm5.fr hf (fun e=>hm5.notBlk hb5 e),hf.own hrow (fun g hg e=>hne (by rw[hg,e])),h.log,h.loh,h.okh,hok,hlen⟩
theorem wdelete_nil (b:Nat) (tx:Int) (w:World) (hb:w.cell? ⟨b,0,none⟩=some (.int .i64 tx)):Calls Tryz.prog 102 #[.slice none 0 0,.func (.func 103) #[] #[.pointer (some ⟨b,0,none⟩)]] w
  fun e w'=>e=.returned (.slice none 0 0)∧Below w.heap.size w w':=by
 have hix:=q5p 103 #[.pointer (some ⟨b,0,none⟩)] (wIs tx) none 0 0 [] w (q1y Tryz.func103 (by kernel_rfl) rfl) (q3y b tx w hb) (Rd.none_ _ _ _ _) rfl (by omega)
 rw[show wIdx (wIs tx) [] = -1 from rfl] at hix
 have HIX:=LH hix;clear hix
 go_enter Tryz.func102,Tryz.ntmps102
 go_wp2_with fail
 refine HIX.out.mono ?_
 rintro e w1 ⟨rfl,hb1⟩
 have HB:=LH hb1;clear hb1
 go_wp2_with fail
 go_ret
 exact⟨rfl,HB.out⟩
theorem offW_le (ws:List (Int×Int)) (tx:Int):(offW ws tx).length≤ws.length:=List.length_filter_le _ _
theorem wdel_all (base n b:Nat) (tx:Int) (V:Value) (L:List (Int×Int)) (w:World) (hrow:w.ownsRow base 166 2 V n (L.flatMap q0a)) (hl:L.length=n) (hn:n≤100000) (hb:w.cell? ⟨b,0,none⟩=some (.int .i64 tx)) (hne:V.ownBlock≠some b) :
  Calls Tryz.prog 102 #[V,.func (.func 103) #[] #[.pointer (some ⟨b,0,none⟩)]] w fun e w'=>
   ∃ A c,e=.returned (.slice A (offW L tx).length c)∧w'.ownsRow base 166 2 (.slice A (offW L tx).length c) (offW L tx).length ((offW L tx).flatMap q0a)∧Fr (fun k=>V.ownBlock=some k) w w'∧(Value.slice A (offW L tx).length c).ownBlock=V.ownBlock:=by
 rcases hrow.2 with ⟨rfl,h0⟩|⟨g,cap,cur,rfl,_⟩
 ·have e:L=[]:=List.eq_nil_of_length_eq_zero (by omega)
  subst e
  refine(wdelete_nil b tx w hb).mono ?_
  rintro e w' ⟨rfl,hb1⟩
  exact⟨none,0,rfl,World.ownsRow_nil _ _ _ _,⟨hb1.os,hb1.tape,hb1.output,hb1.size,fun k hk _=>hb1.block k hk⟩,rfl⟩
 ·refine(wdelete_any base g n cap b tx L w hrow hl hn hb (fun e=>hne (by rw[e];rfl))).mono ?_
  rintro e w' ⟨rfl,hr,hf,_⟩
  exact⟨some ⟨g,0,none⟩,cap,rfl,hr,hf.mono (fun i _ (h:i=g)=>by rw[h];rfl),rfl⟩
theorem TabI.turn2 {w w':World} {base n n' g off:Nat} {ty:TypeId} {cs:Array Value} {mb:Option Nat} {loc:Sx→KLoc} {T:Tb} (h:TabI w base n g off ty cs mb loc T) {x:Sx} {k k':Kx} {L':KLoc} (hx:T x=some k) (hn:n≤n')
  {U:Nat→Prop} (hf:Fr (fun b=>KFoot (loc x) b∨U b) w w') (hU:∀ b,U b→b≠g∧¬TFoot mb loc T b) (hk:KeyI w' base n' L' k') (hg:L'.g=(loc x).g) (hh:L'.hb=(loc x).hb) (hV:∀ b,L'.V.ownBlock=some b→(loc x).V.ownBlock=some b∨w.heap.size≤b) :
  TabI w' base n' g off ty cs mb (locP loc x L') (putT T x (some k')):=by
 have hfoot:∀ b,KFoot L' b→KFoot (loc x) b∨w.heap.size≤b:=fun b hb=>by
  rcases hb with hb|hb|hb
  ·exact .inl (.inl (by rw[hb,hg]))
  ·exact .inl (.inr (.inl (by rw[hb,hh])))
  ·rcases hV b hb with h|h
   ·exact .inl (.inr (.inr h))
   ·exact .inr h
 have hput:∀ y,putT T x (some k') y≠none→y=x∨(y≠x∧T y≠none):=fun y hy=>by
  unfold putT at hy
  split at hy
  ·rename_i e;exact .inl e
  ·rename_i e;exact .inr ⟨e,hy⟩
 have hN:∀ y,y≠x→locP loc x L' y=loc y:=fun y e=>by unfold locP;rw[if_neg e]
 have hS:locP loc x L' x=L':=by unfold locP;rw[if_pos rfl]
 have hxn:T x≠none:=by rw[hx];simp
 have hap:∀ y,y≠x→T y≠none→∀ b,KFoot (loc y) b→¬KFoot (loc x) b:=fun y e hy b hb=>h.apart y x e hy hxn b hb
 refine⟨hf.blk h.blk (fun hb=>hb.elim (fun hb=>h.key_ne hx hb rfl) (fun hb=>(hU _ hb).1 rfl)),h.c0,?_,fun y ky hy=>?_,fun y z hyz hy hz b hb=>?_,fun y hy=>?_,h.ne,h.mlo,fun y hy=>?_,Nat.le_trans h.bg hf.size⟩
 ·have hm:=h.map
  rcases hmb:mb with _|c
  ·rw[hmb] at hm
   exact absurd (hm x) hxn
  ·rw[hmb] at hm
   have e:mapOf (locP loc x L') (putT T x (some k'))=mapOf loc T:=by
    funext t
    unfold mapOf
    by_cases e:sx t=x
    ·rw[e,hS,hg];unfold putT;rw[if_pos rfl,hx];rfl
    ·rw[hN _ e];unfold putT;rw[if_neg e]
   show MapG kS w' c n' _
   rw[e]
   exact(MapG.fr (C:=kS) hm hf (fun hb=>hb.elim (fun hb=>h.key_map hx hmb hb rfl) (fun hb=>(hU _ hb).2 (.inl hmb.symm)))).mono hn
 ·unfold putT at hy
  split at hy
  ·rename_i e;subst e;injection hy with hy;rw[← hy,hS];exact hk
  ·rename_i e;rw[hN y e];exact((h.keys y ky hy).fr hf (fun b hb h2=>h2.elim (fun h2=>hap y e (by rw[hy];simp) b hb h2) (fun h2=>(hU _ h2).2 (.inr ⟨y,by rw[hy];simp,hb⟩)))).mono hn
 ·rcases hput y hy with rfl|⟨e1,h1⟩
  ·rcases hput z hz with rfl|⟨e2,h2⟩
   ·exact absurd rfl hyz
   ·rw[hN z e2];rw[hS] at hb
    intro h3
    rcases hfoot b hb with h4|h4
    ·exact hap z e2 h2 b h3 h4
    ·obtain⟨kz,hkz⟩:=Option.ne_none_iff_exists'.1 h2
     have:=((h.keys z kz hkz).foot_lt h3).2;omega
  ·rw[hN y e1] at hb
   rcases hput z hz with rfl|⟨e2,h2⟩
   ·rw[hS]
    intro h3
    rcases hfoot b h3 with h4|h4
    ·exact hap y e1 h1 b hb h4
    ·obtain⟨ky,hky⟩:=Option.ne_none_iff_exists'.1 h1
     have:=((h.keys y ky hky).foot_lt hb).2;omega
   ·rw[hN z e2];exact h.apart y z hyz h1 h2 b hb
 ·rcases hput y hy with rfl|⟨_,h1⟩
  ·exact h.small y hxn
  ·exact h.small y h1
 ·rcases hput y hy with rfl|⟨e1,h1⟩
  ·rw[hS,hh];exact h.mdis y hxn
  ·rw[hN y e1];exact h.mdis y h1
theorem tab_gone {w w':World} {base n g off b:Nat} {ty:TypeId} {cs:Array Value} {loc:Sx→KLoc} {T:Tb} {s:ByteArray} (h:TabI w base n g off ty cs (some b) loc T) (hm:MapG kS w' b n (putM (mapOf loc T) s none)) (hf:Fr (fun k=>k=b) w w') :
  TabI w' base n g off ty cs (some b) loc (putT T (sx s) none):=by
 have hput:∀ y,putT T (sx s) none y≠none→y≠sx s∧T y≠none:=fun y hy=>by
  unfold putT at hy
  split at hy
  ·exact absurd rfl hy
  ·rename_i e;exact⟨e,hy⟩
 have hgb:g≠b:=fun e=>(MapG.notBlk (C:=kS) h.map h.blk) e.symm
 refine⟨hf.blk h.blk hgb,h.c0,?_,fun y ky hy=>?_,fun y z hyz hy hz=>h.apart y z hyz (hput y hy).2 (hput z hz).2,fun y hy=>h.small y (hput y hy).2,h.ne,h.mlo,fun y hy=>h.mdis y (hput y hy).2,Nat.le_trans h.bg hf.size⟩
 ·show MapG kS w' b n _
  have e:mapOf loc (putT T (sx s) none)=putM (mapOf loc T) s none:=by
   funext t
   unfold putM mapOf putT
   by_cases e:t=s
   ·subst e;simp
   ·have:¬sx t=sx s:=fun h=>e (sx_inj h)
    simp[e,this]
  rw[e];exact hm
 ·have h1:=hput y (by rw[hy];simp)
  have hy':T y=some ky:=by unfold putT at hy;rw[if_neg h1.1] at hy;exact hy
  exact(h.keys y ky hy').fr hf (fun b' hb' e=>by subst e;exact h.key_map hy' rfl hb' rfl)
def q2n (a:Ak):List Value:=[.int .i64 a.tx,.string ⟨a.key.toArray⟩,.int .i64 a.mode]
theorem g_info:(Tryz.prog.info? 179).map (fun i=>(i.zero,i.size,i.bytes))=some (some (.agg #[.int .i64 0,.string ⟨#[]⟩,.int .i64 0]),3,32):=by kernel_rfl
theorem TabI.notRow {w:World} {base n g off:Nat} {ty:TypeId} {cs:Array Value} {mb:Option Nat} {loc:Sx→KLoc} {T:Tb} (h:TabI w base n g off ty cs mb loc T) {base' size m:Nat} {e:TypeId} {v:Value} {xs:List Value} (hr:w.ownsRow base' e size v m xs)
  (h1:e≠ty) (h2:e≠168) (h3:e≠166) {b:Nat} (hb:v.ownBlock=some b):b≠g∧¬TFoot mb loc T b:=by
 refine⟨fun e'=>q02 hr h.blk h1 (by rw[hb,e']),?_⟩
 rintro (hm|⟨x,hx,hk⟩)
 ·have:=h.map
  rw[← hm] at this
  exact MapG.notOwn (C:=kS) this hr hb
 ·obtain⟨k,hk'⟩:=Option.ne_none_iff_exists'.1 hx
  have hK:=h.keys x k hk'
  rcases hk with rfl|rfl|hk
  ·exact q02 hr hK.blk h2 hb
  ·exact hK.holds.notOwn hr hb
  ·rcases hr.2 with ⟨rfl,_⟩|⟨g1,cap,cur,rfl,_,hh,_⟩
   ·cases hb
   ·have hb':g1=b:=by injection hb
    subst hb'
    exact q02 hK.row (show Blk w g1 e cur from hh) (fun e'=>h3 e'.symm) hk
section
open Go.RowKit Go.Maps Go.Sort Go.Shelf
open Classical in
noncomputable def tkT (T:Tb) (tx:Int) (ks:List Sx) (j:Nat):Tb:=fun x=>if x∈ks.take j then(T x).bind fun k=>relO k tx else T x
theorem tkT_0 (T:Tb) (tx:Int) (ks:List Sx):tkT T tx ks 0=T:=by funext x;simp[tkT]
theorem tkT_all {T:Tb} {tx:Int} {ks:List Sx} (h:KeysP T ks):tkT T tx ks ks.length=relT T tx:=by
 funext x
 unfold tkT relT
 rw[List.take_length]
 split
 ·rfl
 ·rename_i hx
  have:T x=none:=Classical.byContradiction fun h2=>hx ((h.2 x).2 h2)
  rw[this];rfl
theorem q9o {ks:List Sx} (h:ks.Pairwise (· < ·)):ks.Nodup:=List.Pairwise.imp (R:=(· < ·)) (by intro a b h e;subst e;exact List.lt_irrefl _ h) h
theorem take_fresh {ks:List Sx} {j:Nat} {x:Sx} (h:ks.Nodup) (hx:ks[j]? = some x):x ∉ ks.take j:=fun hm=>by
 obtain⟨i,hi,he⟩:=List.mem_take_iff_getElem.1 hm
 obtain⟨hj,hxe⟩:=List.getElem?_eq_some_iff.1 hx
 exact List.pairwise_iff_getElem.1 h i j (by omega) hj (by omega) (by rw[he,hxe])
theorem tkT_at {T:Tb} {tx:Int} {ks:List Sx} {j:Nat} {x:Sx} (hf:x ∉ ks.take j):tkT T tx ks j x=T x:=by unfold tkT;rw[if_neg hf]
theorem tkT_step {T:Tb} {tx:Int} {ks:List Sx} {j:Nat} {x:Sx} {k:Kx} (hx:ks[j]? = some x) (hT:T x=some k):tkT T tx ks (j+1)=putT (tkT T tx ks j) x (relO k tx):=by
 funext y
 unfold tkT putT
 rw[List.take_add_one,hx]
 by_cases e:y=x
 ·subst e;simp[hT]
 ·simp[e]
def RlRel (base n g off:Nat) (ty:TypeId) (cs:Array Value) (mb:Option Nat) (loc:Sx→KLoc) (T:Tb) (tx:Int) (w:World) (ks:List Sx) (Vk:Value) (v5 v19:Value) (wr:World):Prop:=
 ∃ (j:Nat) (loc':Sx→KLoc) (gs:List Ak),v19=.int .i64 j∧j≤ks.length∧gs=(ks.take j).flatMap (q19 T tx)∧TabI wr base (n+50) g off ty cs mb loc' (tkT T tx ks j)∧
  (∀ x k,T x=some k→x ∉ ks.take j→KeyI wr base n (loc' x) k)∧(∀ b,TFoot mb loc' (tkT T tx ks j) b→TFoot mb loc T b∨w.heap.size≤b)∧Fr (TFr g mb loc T) w wr∧
  wr.ownsRow (w.heap.size+1) 179 3 v5 gs.length (gs.flatMap q2n)∧gs.length≤50*j∧wr.ownsRow w.heap.size 9 1 Vk ks.length (ks.map encStr)∧Blk wr w.heap.size 3 #[.int .i64 tx]
def RelPost (base n g off:Nat) (ty:TypeId) (cs:Array Value) (mb:Option Nat) (loc:Sx→KLoc) (T:Tb) (tx:Int) (w:World) (e:Ending) (w':World):Prop:=
 ∃ (V:Value) (ks:List Sx) (loc':Sx→KLoc),e=.returned V∧KeysP T ks∧w'.ownsRow (w.heap.size+1) 179 3 V (ks.flatMap (q19 T tx)).length ((ks.flatMap (q19 T tx)).flatMap q2n)∧
  TabI w' base (n+50) g off ty cs mb loc' (relT T tx)∧(∀ b,TFoot mb loc' (relT T tx) b→TFoot mb loc T b∨w.heap.size≤b)∧Fr (TFr g mb loc T) w w'
def InRel (base n:Nat) (L1:KLoc) (h0:Int→Option Int) (ws1:List (Int×Int)) (B0:Nat) (gs0:List Ak) (x:Sx) (O0:Option Nat) (W:World) (v5 v9 v48:Value) (wr:World):Prop:=
 ∃ (i:Nat) (h:Int→Option Int) (lf done:List (Int×Int)),v48=.int .i64 i∧i≤ws1.length∧KeyI wr base (n+i) L1 ⟨h,ws1⟩∧wr.ownsRow W.heap.size 166 2 v9 lf.length (lf.flatMap q0a)∧
  wr.ownsRow B0 179 3 v5 (gs0.length+done.length) ((gs0++done.map fun d=>(⟨d.1,x,d.2⟩:Ak)).flatMap q2n)∧
  q0p h0 [] ws1=((q0p h lf (ws1.drop i)).1,(q0p h lf (ws1.drop i)).2.1,done++(q0p h lf (ws1.drop i)).2.2)∧Fr (fun b=>b=L1.hb∨O0=some b) W wr∧
  (∀ y∈lf,y∈ws1)∧lf.length≤i∧done.length≤i∧(∀ b,v5.ownBlock=some b→O0=some b∨W.heap.size≤b)
theorem q49 {w:World} {base base' size size' m m':Nat} {e e':TypeId} {v v':Value} {xs xs':List Value} (h:w.ownsRow base e size v m xs) (h':w.ownsRow base' e' size' v' m' xs') (hne:e≠e') {b:Nat} (hb:v.ownBlock=some b):v'.ownBlock≠some b:=by
 rcases h.2 with ⟨rfl,_⟩|⟨g1,cap,cur,rfl,_,hh,_⟩
 ·cases hb
 ·have hb':g1=b:=by injection hb
  subst hb'
  exact q02 h' (show Blk w g1 e cur from hh) (fun e=>hne e.symm)
theorem TabI.notBlk {w:World} {base n g off:Nat} {ty:TypeId} {cs:Array Value} {mb:Option Nat} {loc:Sx→KLoc} {T:Tb} (h:TabI w base n g off ty cs mb loc T) {b:Nat} {t:TypeId} {cs':Array Value} (hb:Blk w b t cs')
  (h1:t≠ty) (h2:t≠168) (h3:t≠166):b≠g∧¬TFoot mb loc T b:=by
 refine⟨hb.ne_ h.blk h1,?_⟩
 rintro (hm|⟨x,hx,hk⟩)
 ·have:=h.map
  rw[← hm] at this
  exact MapG.notBlk (C:=kS) this hb rfl
 ·obtain⟨k,hk'⟩:=Option.ne_none_iff_exists'.1 hx
  have hK:=h.keys x k hk'
  rcases hk with hk|hk|hk
  ·exact hb.ne_ hK.blk h2 hk
  ·exact hK.holds.notBlk hb hk.symm
  ·exact q02 hK.row hb (fun e=>h3 e.symm) hk
theorem q5z {h:Int→Option Int} {lf ws:List (Int×Int)} {y:Int×Int} (hf:freeB h y.1 y.2 lf=false):q0p h lf (y::ws)=q0p h (lf++[y]) ws:=by
 rw[q0p,if_neg (by simp[hf])]
theorem q4o {h:Int→Option Int} {lf ws:List (Int×Int)} {y:Int×Int} (hf:freeB h y.1 y.2 lf=true):q0p h lf (y::ws)=((q0p (gainH h y.1 y.2) lf ws).1,(q0p (gainH h y.1 y.2) lf ws).2.1,y::(q0p (gainH h y.1 y.2) lf ws).2.2):=by
 rw[q0p,if_pos hf]
section
variable {base n g off b:Nat} {ty:TypeId} {cs:Array Value} {loc loc':Sx→KLoc} {T:Tb} {tx:Int} {w W0 w7:World} {ks:List Sx} {Vk v5 V9 v5':Value} {j:Nat} {x:Sx} {k:Kx} {h:Int→Option Int} {lf done:List (Int×Int)} {gs:List Ak}
theorem rl_step (hty:ty≠9∧ty≠179∧ty≠3) (hI:TabI W0 base (n+50) g off ty cs (some b) loc' (tkT T tx ks j)) (hun:∀ x k,T x=some k→x ∉ ks.take j→KeyI W0 base n (loc' x) k)
  (hft:∀ b',TFoot (some b) loc' (tkT T tx ks j) b'→TFoot (some b) loc T b'∨w.heap.size≤b') (hfr:Fr (TFr g (some b) loc T) w W0) (hout:W0.ownsRow (w.heap.size+1) 179 3 v5 gs.length (gs.flatMap q2n))
  (hgs:gs=(ks.take j).flatMap (q19 T tx)) (hgl:gs.length≤50*j) (hrow:W0.ownsRow w.heap.size 9 1 Vk ks.length (ks.map encStr)) (hbx:Blk W0 w.heap.size 3 #[.int .i64 tx]) (hx:ks[j]? = some x) (hfresh:x ∉ ks.take j) (hT:T x=some k)
  (hrel:relK k tx=(⟨h,lf⟩,done)) (hK:KeyI w7 base (n+50) ⟨(loc' x).g,(loc' x).hb,V9⟩ ⟨h,lf⟩) (hV9:∀ b',V9.ownBlock=some b'→W0.heap.size≤b') (hf:Fr (fun b'=>KFoot (loc' x) b'∨v5.ownBlock=some b') W0 w7)
  (hout':w7.ownsRow (w.heap.size+1) 179 3 v5' (gs.length+done.length) ((gs++done.map fun d=>(⟨d.1,x,d.2⟩:Ak)).flatMap q2n)) (hdl:done.length≤50) :
  TabI w7 base (n+50) g off ty cs (some b) (locP loc' x ⟨(loc' x).g,(loc' x).hb,V9⟩) (putT (tkT T tx ks j) x (some ⟨h,lf⟩))∧
  (¬q9f ⟨h,lf⟩→RlRel base n g off ty cs (some b) loc T tx w ks Vk v5' (.int .i64 ((j+1:Nat):Int)) w7)∧
  (q9f ⟨h,lf⟩→∀ w8,MapG kS w8 b (n+50) (putM (mapOf (locP loc' x ⟨(loc' x).g,(loc' x).hb,V9⟩) (putT (tkT T tx ks j) x (some ⟨h,lf⟩))) ⟨x.toArray⟩ none)→Fr (fun k=>k=b) w7 w8→
   RlRel base n g off ty cs (some b) loc T tx w ks Vk v5' (.int .i64 ((j+1:Nat):Int)) w8):=by
 have hTj:=(tkT_at (T:=T) (tx:=tx) hfresh).trans hT
 have hxn:tkT T tx ks j x≠none:=by rw[hTj];simp
 have hU:∀ b',v5.ownBlock=some b'→b'≠g∧¬TFoot (some b) loc' (tkT T tx ks j) b':=fun b' hb'=>hI.notRow hout (fun e=>hty.2.1 e.symm) (by decide) (by decide) hb'
 have hI7:=hI.turn2 (n':=n+50) hTj (Nat.le_refl _) hf hU hK rfl rfl (fun b' hb'=>.inr (hV9 b' hb'))
 have hjl:j<ks.length:=(List.getElem?_eq_some_iff.1 hx).1
 have hgs':gs++done.map (fun d=>(⟨d.1,x,d.2⟩:Ak))=(ks.take (j+1)).flatMap (q19 T tx):=by
  rw[List.take_add_one,hx,List.flatMap_append,← hgs]
  congr 1
  show _=[x].flatMap (q19 T tx)
  rw[List.flatMap_singleton]
  unfold q19
  rw[hT]
  simp only[hrel]
 have hft7:∀ b',TFoot (some b) (locP loc' x ⟨(loc' x).g,(loc' x).hb,V9⟩) (putT (tkT T tx ks j) x (some ⟨h,lf⟩)) b'→TFoot (some b) loc T b'∨w.heap.size≤b':=fun b' hb'=>by
  rcases foot_ins (L:=loc' x) (L':=⟨(loc' x).g,(loc' x).hb,V9⟩) (k:=k) (B:=W0.heap.size) rfl rfl (fun b' hb'=>.inr (hV9 b' hb')) b' hb' with h1|h1
  ·rw[locP_same] at h1
   refine hft b' ?_
   rcases h1 with h1|⟨y,hy,h1⟩
   ·exact .inl h1
   ·refine .inr ⟨y,?_,h1⟩
    unfold putT at hy
    split at hy
    ·rename_i e;rw[e];exact hxn
    ·exact hy
  ·exact .inr (Nat.le_trans hfr.size h1)
 have hfr7:Fr (TFr g (some b) loc T) w w7:=hfr.trans' hf (fun i hi h1=>by
  rcases h1 with h1|h1
  ·rcases hft i (.inr ⟨x,hxn,h1⟩) with h2|h2
   ·exact .inr h2
   ·omega
  ·have:=(hout.lt i h1).1;omega)
 have hS:∀ {b':Nat},¬TFoot (some b) loc' (tkT T tx ks j) b'→v5.ownBlock≠some b'→¬(KFoot (loc' x) b'∨v5.ownBlock=some b'):=fun h1 h2 h3=>h3.elim (fun h3=>h1 (.inr ⟨x,hxn,h3⟩)) h2
 have hrow7:w7.ownsRow w.heap.size 9 1 Vk ks.length (ks.map encStr):=hf.own hrow (fun b' hb'=>hS (hI.notRow hrow (fun e=>hty.1 e.symm) (by decide) (by decide) hb').2 (q49 hrow hout (by decide) hb'))
 have hbx7:Blk w7 w.heap.size 3 #[.int .i64 tx]:=hf.blk hbx (hS (hI.notBlk hbx (fun e=>hty.2.2 e.symm) (by decide) (by decide)).2 (q02 hout hbx (by decide)))
 have hun7:∀ y ky,T y=some ky→y ∉ ks.take (j+1)→y≠x∧y ∉ ks.take j∧KeyI w7 base n (loc' y) ky:=fun y ky hy hny=>by
  rw[List.take_add_one,hx] at hny
  simp only[Option.toList_some,List.mem_append,List.mem_singleton,not_or] at hny
  have hyT:tkT T tx ks j y≠none:=by rw[tkT_at hny.1,hy];simp
  refine⟨hny.2,hny.1,(hun y ky hy hny.1).fr hf (fun b' hb' h3=>?_)⟩
  rcases h3 with h3|h3
  ·exact hI.apart y x hny.2 hyT hxn b' hb' h3
  ·exact(hU b' h3).2 (.inr ⟨y,hyT,hb'⟩)
 have hlen7:(gs++done.map (fun d=>(⟨d.1,x,d.2⟩:Ak))).length=gs.length+done.length:=by simp
 refine⟨hI7,fun hne=>?_,fun he w8 hm8 hf8=>?_⟩
 ·have hro:relO k tx=some ⟨h,lf⟩:=by unfold relO;rw[hrel,if_neg hne]
  have hst:=tkT_step (T:=T) (tx:=tx) (ks:=ks) (j:=j) hx hT
  rw[hro] at hst
  refine⟨j+1,_,_,rfl,hjl,rfl,by rw[hst];exact hI7,fun y ky hy hny=>?_,by rw[hst];exact hft7,hfr7,by rw[← hgs',hlen7];exact hout',by rw[← hgs',hlen7];omega,hrow7,hbx7⟩
  have h1:=hun7 y ky hy hny
  unfold locP;rw[if_neg h1.1];exact h1.2.2
 ·have hro:relO k tx=none:=by unfold relO;rw[hrel,if_pos he]
  have hst:=tkT_step (T:=T) (tx:=tx) (ks:=ks) (j:=j) hx hT
  rw[hro] at hst
  have hsx:sx ⟨x.toArray⟩=x:=by show x.toArray.toList=x;simp
  have hI8:=tab_gone hI7 hm8 hf8
  rw[hsx,q9r,← hst] at hI8
  have hnb:∀ {b':Nat} {t:TypeId} {base' size m:Nat} {v:Value} {xs:List Value},w7.ownsRow base' t size v m xs→v.ownBlock=some b'→b'≠b:=fun hr hb' e=>by subst e;exact MapG.notOwn (C:=kS) hI7.map hr hb'
  refine⟨j+1,_,_,rfl,hjl,rfl,hI8,fun y ky hy hny=>?_,fun b' hb'=>hft7 b' ?_,hfr7.trans' hf8 (fun i _ (e:i=b)=>.inr (.inl (by rw[e]))),by rw[← hgs',hlen7];exact hf8.own hout' (fun b' hb' e=>hnb hout' hb' e),by rw[← hgs',hlen7];omega,hf8.own hrow7 (fun b' hb' e=>hnb hrow7 hb' e),hf8.blk hbx7 (fun e=>MapG.notBlk (C:=kS) hI7.map hbx7 e.symm)⟩
  ·have h1:=hun7 y ky hy hny
   unfold locP;rw[if_neg h1.1]
   have hy7:putT (tkT T tx ks j) x (some ⟨h,lf⟩) y=some ky:=by unfold putT;rw[if_neg h1.1,tkT_at h1.2.1,hy]
   have hloc:locP loc' x ⟨(loc' x).g,(loc' x).hb,V9⟩ y=loc' y:=by unfold locP;rw[if_neg h1.1]
   exact h1.2.2.fr hf8 (fun b' hb' e=>hI7.key_map hy7 rfl (hloc▸hb') e)
  ·rcases hb' with hb'|⟨y,hy,hb'⟩
   ·exact .inl hb'
   ·refine .inr ⟨y,?_,hb'⟩
    rw[hst] at hy
    unfold putT at hy ⊢
    split at hy
    ·exact absurd rfl hy
    ·rename_i e;rw[if_neg e];exact hy
end
end
section
open Go.RowKit Go.Maps Go.Sort Go.Shelf
theorem key_gainM {w w':World} {base n:Nat} {L:KLoc} {k:Kx} {tx mode:Int} (h:KeyI w base n L k) (hm:MapG kI w' L.hb (n+1) (putM (hM k.h) tx (some (.int .i64 (max (holdK k.h tx) mode))))) (hf:Fr (fun b=>b=L.hb) w w') (htx:okN tx) (hmode:okN mode) :
  KeyI w' base (n+1) L ⟨gainH k.h tx mode,k.ws⟩:=key_gain h (by
 rw[show(if mode > holdK k.h tx then mode else holdK k.h tx)=max (holdK k.h tx) mode by split <;> omega];exact hm) hf htx hmode
theorem emp_iff {w:World} {base n:Nat} {L:KLoc} {h:Int→Option Int} {lf:List (Int×Int)} (hK:KeyI w base n L ⟨h,lf⟩) {kk:Nat} (hkk:kk=0↔∀ x,kI.ok x→hM h x=none):q9f ⟨h,lf⟩↔kk=0∧lf.length=0:=by
 have e1:q9f ⟨h,lf⟩↔(∀ o,h o=none)∧lf=[]:=Iff.rfl
 rw[hkk,e1]
 constructor
 ·rintro ⟨h1,h2⟩
  exact⟨fun o _=>by unfold hM;rw[h1 o];rfl,by rw[h2];rfl⟩
 ·rintro ⟨h1,h2⟩
  refine⟨fun o=>?_,List.eq_nil_of_length_eq_zero h2⟩
  cases e:h o with
  | none=>rfl
  | some m=>
   have:=h1 o (hK.okh o m e).1
   unfold hM at this
   rw[e] at this
   cases this
theorem KeyI.notRow {w:World} {base n:Nat} {L:KLoc} {k:Kx} (h:KeyI w base n L k) {base' size m:Nat} {e:TypeId} {v:Value} {xs:List Value} (hr:w.ownsRow base' e size v m xs) (h2:e≠168) (h3:e≠166) {b:Nat} (hb:v.ownBlock=some b):¬KFoot L b:=by
 rintro (rfl|rfl|hk)
 ·exact q02 hr h.blk h2 hb
 ·exact h.holds.notOwn hr hb
 ·exact q49 hr h.row h3 hb hk
theorem release_any (base n g off:Nat) (ty:TypeId) (cs:Array Value) (mb:Option Nat) (loc:Sx→KLoc) (T:Tb) (tx:Int) (w:World) (hI:TabI w base n g off ty cs mb loc T) (htx:okN tx) (hn:n<1000000) (hty:ty≠9∧ty≠179∧ty≠3) :
  Calls Tryz.prog 70 #[.pointer (some ⟨g,off,none⟩),.int .i64 tx] w (RelPost base n g off ty cs mb loc T tx w):=by
 have hb0:Below w.heap.size w (w.alloc (.cells #[.int .i64 tx] 3)):=(Below.refl _ _).alloc (Nat.le_refl _) _
 have hI0:=hI.tall hb0
 have hB0:Blk (w.alloc (.cells #[.int .i64 tx] 3)) w.heap.size 3 #[.int .i64 tx]:=Blk.new w _ _
 have c0:=(hI0.blk.cell off).trans hI0.c0
 have hgl:=hI0.blk.lt
 have hko:=keysOf_any mb (w.alloc (.cells #[.int .i64 tx] 3))
 have hso:=sorted_any (w.alloc (.cells #[.int .i64 tx] 3)) hI0.map hI0.small (by omega)
 rw[show(w.alloc (.cells #[.int .i64 tx] 3)).heap.size=w.heap.size+1 by simp] at hso
 have HKO:=LH hko;clear hko
 have HSO:=LH hso;clear hso
 have HI:=LH hI;clear hI
 have HI0:=LH hI0;clear hI0
 have HB0:=LH hB0;clear hB0
 have HBW:=LH hb0;clear hb0
 have HTX:=LH htx;clear htx
 go_enter Tryz.func70,Tryz.ntmps70
 go_wp2_with fail
 refine HKO.out.mono ?_
 rintro e w2 ⟨rfl,rfl⟩
 go_wp2_with fail
 refine HSO.out.mono ?_
 rintro e w3 ⟨Vk,ks,rfl,hks,hkl,hrow,hb3⟩
 have hb4:Below w.heap.size w w3:=HBW.out.trans (hb3.mono (by simp))
 have hst:RlRel base n g off ty cs mb loc T tx w ks Vk (.slice none 0 0) (.int .i64 (0:Nat)) w3:=by
  have hIm:=HI.out.tall hb4
  exact⟨0,loc,[],rfl,Nat.zero_le _,rfl,by rw[tkT_0];exact hIm.mono (by omega),fun x k hx _=>hIm.keys x k hx,fun b hb=>by rw[tkT_0] at hb;exact .inl hb,(show Fr _ w w3 from⟨hb4.os,hb4.tape,hb4.output,hb4.size,fun k hk _=>hb4.block k hk⟩),World.ownsRow_nil _ _ _ _,by simp,q6r hrow (by simp),HB0.out.below hb3 (by simp)⟩
 have HST:=LH hst;clear hst
 have HKS:=LH hks;clear hks
 have HKL:=LH hkl;clear hkl
 obtain⟨Ak,ck,rfl,_,_⟩:=q01 hrow
 have HSZ3:=LH hb4.size
 clear hb3 hb4 hrow c0 hgl HKO HSO HI0 HB0 HBW
 go_wp2_with fail
 go_loopw [5,19] (RlRel base n g off ty cs mb loc T tx w ks (.slice Ak ks.length ck)) (fun _ v _=>ks.length-(intOf v).toNat)
 case atStart=>exact HST.out
 case round=>
  obtain⟨j,loc',gs,rfl,hj,hgs,hI,hun,hft,hfr,hout,hgl,hrow,hbx⟩:=hrel
  by_cases hlt:(j:Int)<ks.length
  ·have hx:ks[j]? = some ks[j]:=List.getElem?_eq_getElem (by omega)
   generalize hxe:ks[j]=x at hx
   clear hxe
   have hnd:=q9o HKS.out.1
   have hfresh:=take_fresh hnd hx
   obtain⟨k,hT⟩:=Option.ne_none_iff_exists'.1 ((HKS.out.2 x).1 (List.mem_of_getElem? hx))
   have hTj:=(tkT_at (T:=T) (tx:=tx) hfresh).trans hT
   obtain⟨b,rfl⟩:∃ b,mb=some b:=by
    rcases mb with _|b
    ·have:=hI.map x;rw[hTj] at this;cases this
    ·exact⟨b,rfl⟩
   obtain⟨gk,ok,hAk,hgk,hck⟩:=(Rd.of_own hrow).2 (by omega)
   subst hAk
   have cn:=hck j (encStr x) (by rw[List.getElem?_map,hx];rfl)
   have cg:=(hI.blk.cell off).trans hI.c0
   have hglt:=hI.blk.lt
   have hxl:=HI.out.small x (by rw[hT];simp)
   have hsx:sx ⟨x.toArray⟩=x:=by show x.toArray.toList=x;simp
   have hlk:=q9l (s:=⟨x.toArray⟩) hI.map (by rw[q25,hsx];unfold maxLen;omega)
   rw[hsx,hTj] at hlk
   have hK:=hun x k hT hfresh
   have ck0:=hK.blk.cell 0
   have ck1:=hK.blk.cell 1
   have hLg:=hK.blk.lt
   have cb:=hbx.cell 0
   have hbl:=hbx.lt
   obtain⟨A,c,hV,_,_⟩:=q01 hK.row
   simp only[List.getElem?_toArray,List.getElem?_cons_zero,List.getElem?_cons_succ] at ck0 ck1 cb
   have HUN:=LH hun;clear hun
   have HFT:=LH hft;clear hft
   have HFR:=LH hfr;clear hfr
   have HOUT:=LH hout;clear hout
   have HGS:=LH hgs;clear hgs
   have HGL:=LH hgl;clear hgl
   have HROW:=LH hrow;clear hrow
   have HBX:=LH hbx;clear hbx
   have HIJ:=LH hI;clear hI
   have HX:=LH hx;clear hx
   have HFRE:=LH hfresh;clear hfresh hnd
   have HTT:=LH hT;clear hT
   have HTJ:=LH hTj;clear hTj
   have HK:=LH hK;clear hK
   have HV:=LH hV;clear hV
   clear hck
   go_upto_region 6 with (fail)
   clear cn cg hlk
   refine wp_region_still_tail 5 (by kernel_rfl) (by kernel_rfl) ?_
   change wpStill _ _ (World.drew _) _ _ _
   simp only[List.take_succ_cons,List.take_zero,List.drop_succ_cons,List.drop_zero]
   repeat still_step
   refine wpStill_nil ?_
   refine wpList_delG (C:=kI) rfl 61 3 Tryz.underlying61 (.tmp 32) (.tmp 33) (by kernel_rfl) (by simp[Act.eval]) (show MapG kI _ _ n _ from HK.out.holds) tx (by simp[Act.eval];rfl) HTX.out ?_
   intro w4 hm4 hf4
   have hf4:Fr (fun k=>k=(loc' x).hb) wr w4:=(Fr.refl _ wr).drew.trans hf4
   have hK4:=key_del HK.out hm4 hf4
   have hb4:=(hf4.blk HBX.out (fun e=>HK.out.holds.notBlk HBX.out e.symm))
   have ck1':=hK4.blk.cell 1
   have cb4:=hb4.cell 0
   simp only[List.getElem?_toArray,List.getElem?_cons_zero,List.getElem?_cons_succ] at ck1' cb4
   have hbl4:=hb4.lt
   have hLg4:=hK4.blk.lt
   have hdel:=wdel_all base k.ws.length w.heap.size tx (loc' x).V k.ws w4 hK4.row rfl (by have:k.ws.length≤50:=hK4.len;omega) cb4 (fun e=>q02 hK4.row hb4 (by decide) e)
   rw[HV.out] at hdel ck1'
   have HDEL:=LH hdel;clear hdel
   have HK4:=LH hK4;clear hK4
   have HF4:=LH hf4;clear hf4 hm4
   have HB4:=LH hb4;clear hb4
   clear ck0 ck1 cb hglt hLg hbl
   go_wp2_with fail
   refine HDEL.out.mono ?_
   rintro e w5 ⟨A5,c5,rfl,hrow5,hf5,hob5⟩
   rw[← HV.out] at hf5 hob5
   have hne5:∀ b',(loc' x).V.ownBlock=some b'→b'≠(loc' x).g:=fun b' hb' e=>q02 HK4.out.row HK4.out.blk (by decide) (e▸hb')
   have hb5:=hf5.blk HK4.out.blk (fun e=>hne5 _ e rfl)
   have hm5:=HK4.out.holds.fr hf5 (fun e=>HK4.out.holds.notOwn HK4.out.row e)
   have cs1:=hb5.cell 1
   have cf1:=hb5.frozen 1
   have hg5:=hb5.lt
   have hok1:∀ y∈offW k.ws tx,okN y.1∧okN y.2:=fun y hy=>HK4.out.okw y (List.mem_filter.1 hy).1
   have hl1:(offW k.ws tx).length≤50:=Nat.le_trans (offW_le _ _) HK4.out.len
   have hK6:=key_row HK4.out hb5 hm5 hrow5 hok1 hl1
   simp only[List.getElem?_toArray,List.getElem?_cons_zero,List.getElem?_cons_succ] at cs1
   rw[HV.out] at cs1
   have hf6:Fr (KFoot (loc' x)) wr (w5.setCell ⟨(loc' x).g,1,none⟩ (.slice A5 (offW k.ws tx).length c5)):=
    ((HF4.out.mono (fun i _ (e:i=_)=>.inr (.inl e))).trans' hf5 (fun i _ e=>.inr (.inr e))).setCell (p:=⟨(loc' x).g,1,none⟩) (.inl (.inl rfl)) _
   have hV5:∀ b',(Value.slice A5 (offW k.ws tx).length c5).ownBlock=some b'→(loc' x).V.ownBlock=some b':=fun b' hb'=>by rw[← hob5];exact hb'
   have HK6:=LH hK6;clear hK6
   have HF6:=LH hf6;clear hf6 hf5 hm5 hb5 hrow5 hne5 hob5
   have HOK1:=LH hok1;clear hok1
   have HL1:=LH hl1;clear hl1
   have HV5:=LH hV5;clear hV5
   go_upto_region 8 with (fail)
   clear cs1 cf1 hg5 cb4 ck1' hbl4 hLg4
   generalize w5.setCell ⟨(loc' x).g,1,none⟩ (.slice A5 (offW k.ws tx).length c5)=w6 at *
   clear HK4 HF4 HB4 HDEL
   have hw6:w.heap.size+1≤w6.heap.size:=by have:=HF6.out.size;have:=HBX.out.lt;omega
   have HW6:=LH hw6;clear hw6
   have ck1:=HK6.out.blk.cell 1
   simp only[List.getElem?_toArray,List.getElem?_cons_zero,List.getElem?_cons_succ] at ck1
   have hg6:=HK6.out.blk.lt
   have hfx:∀ b',KFoot (loc' x) b'→TFoot (some b) loc' (tkT T tx ks j) b':=fun b' hb'=>.inr ⟨x,by rw[HTJ.out];simp,hb'⟩
   have hout6:=HF6.out.own HOUT.out (fun b' hb' e=>(HIJ.out.notRow HOUT.out (fun e=>hty.2.1 e.symm) (by decide) (by decide) hb').2 (hfx b' e))
   have hin0:InRel base n ⟨(loc' x).g,(loc' x).hb,.slice A5 (offW k.ws tx).length c5⟩ (setH k.h tx none) (offW k.ws tx) (w.heap.size+1) gs x u5.ownBlock w6 u5 (.slice none 0 0) (.int .i64 (0:Nat)) w6:=
    ⟨0,_,[],[],rfl,Nat.zero_le _,HK6.out,World.ownsRow_nil _ _ _ _,by simpa using hout6,by simp,Fr.refl _ _,(fun y hy=>by cases hy),Nat.le_refl _,Nat.le_refl _,fun b' hb'=>.inl hb'⟩
   have HIN0:=LH hin0;clear hin0 hout6
   have HFX:=LH hfx;clear hfx
   go_wp2_with fail
   clear ck1 hg6
   generalize u5=U0 at *
   go_loopw [5,9,48] (InRel base n ⟨(loc' x).g,(loc' x).hb,.slice A5 (offW k.ws tx).length c5⟩ (setH k.h tx none) (offW k.ws tx) (w.heap.size+1) gs x U0.ownBlock w6) (fun _ _ v _=>(offW k.ws tx).length-(intOf v).toNat)
   case atStart=>exact HIN0.out
   case round=>
    clear HIN0
    obtain⟨i,h,lf,done,rfl,hi,hKi,hleft,houti,hreg,hfri,hsub,hll,hdl,hob⟩:=hrel
    have hws6:=hfri.size
    have hL1:=HL1.out
    by_cases hlti:(i:Int)<(offW k.ws tx).length
    ·obtain⟨g',o',y,hA5,hg',hy,hy0,hy1⟩:=(Rd.of_own hKi.row).cells2 (l:=offW k.ws tx) rfl (j:=i) (by omega)
     subst hA5
     have hdrop:(offW k.ws tx).drop i=y::(offW k.ws tx).drop (i+1):=by
      obtain⟨h1,h2⟩:=List.getElem?_eq_some_iff.1 hy
      rw[List.drop_eq_getElem_cons h1,h2]
     rw[hdrop] at hreg
     have hyk:=HOK1.out y (List.mem_of_getElem? hy)
     have hbl:Below wr.heap.size wr (wr.alloc (.cells #[.int .i64 y.1,.int .i64 y.2] 166)):=(Below.refl _ _).alloc (Nat.le_refl _) _
     have hK1:=hKi.tall hbl
     have hleft1:=q0q hleft hbl
     have hout1:=q0q houti hbl
     have hw1:Blk (wr.alloc (.cells #[.int .i64 y.1,.int .i64 y.2] 166)) wr.heap.size 166 #[.int .i64 y.1,.int .i64 y.2]:=Blk.new _ _ _
     obtain⟨Al,cl,hVl,_,_⟩:=q01 hleft
     subst hVl
     have hfree:=qa2 (loc' x).g (loc' x).hb (n+i) lf.length cl _ h y.1 y.2 Al lf _ hK1.blk hK1.holds hK1.okh hyk.1 (Rd.of_own hleft1) rfl (by omega)
     have HFREE:=LH hfree;clear hfree
     have HK1:=LH hK1;clear hK1
     have HLE1:=LH hleft1;clear hleft1
     have HOU1:=LH hout1;clear hout1
     have HW1:=LH hw1;clear hw1
     have HBL:=LH hbl;clear hbl
     have HKI:=LH hKi;clear hKi
     have HREG:=LH hreg;clear hreg
     have HFRI:=LH hfri;clear hfri
     have HSUB:=LH hsub;clear hsub
     have HOB:=LH hob;clear hob
     have HY:=LH hy;clear hy hdrop
     have HYK:=LH hyk;clear hyk
     have HLEF:=LH hleft;clear hleft
     have HOUI:=LH houti;clear houti
     have HWS:=LH hws6;clear hws6
     have HLL:=LH hll;clear hll
     have HDL:=LH hdl;clear hdl
     clear hL1
     go_upto_region 12 with (fail)
     clear hy0 hy1
     generalize hW1:wr.alloc (.cells #[.int .i64 y.1,.int .i64 y.2] 166)=w1 at *
     have hsz1:w1.heap.size=wr.heap.size+1:=by rw[← hW1];simp
     clear hW1
     have HSZ1:=LH hsz1;clear hsz1
     have cw0:=HW1.out.cell 0
     have cw1:=HW1.out.cell 1
     simp only[List.getElem?_toArray,List.getElem?_cons_zero,List.getElem?_cons_succ] at cw0 cw1
     have hwl1:=HW1.out.lt
     go_wp2_with fail
     clear cw0 cw1 hwl1
     refine HFREE.out.mono ?_
     rintro e wA ⟨rfl,hbA⟩
     have hKA:=HK1.out.tall hbA
     have hleA:=q0q HLE1.out hbA
     have houA:=q0q HOU1.out hbA
     have hwA:=HW1.out.below hbA HW1.out.lt
     have cw0:=hwA.cell 0
     have cw1:=hwA.cell 1
     have hwlA:=hwA.lt
     simp only[List.getElem?_toArray,List.getElem?_cons_zero,List.getElem?_cons_succ] at cw0 cw1
     have hszA:wr.heap.size+1≤wA.heap.size:=by have:=hbA.size;have:=HSZ1.out;omega
     have hbwA:Below wr.heap.size wr wA:=HBL.out.trans (hbA.mono (by have:=HSZ1.out;omega))
     have HKA:=LH hKA;clear hKA
     have HLEA:=LH hleA;clear hleA
     have HOUA:=LH houA;clear houA
     have HWA:=LH hwA;clear hwA
     have HSZA:=LH hszA;clear hszA
     have HBWA:=LH hbwA;clear hbwA hbA
     clear HFREE HK1 HLE1 HOU1 HW1 HBL HSZ1
     rcases hfb:freeB h y.1 y.2 lf with _|_
     ·
      go_wp2_with (at_builtin;refine stop ?_)
      refine back ?_
      refine q0h _ _ rfl (.tmp 60) (.tmp 62) 164 rfl w6.heap.size 166 (.agg #[.int .i64 0,.int .i64 0]) 2 16 w_und w_info rfl (by decide) _ _ _ #[.int .i64 y.1,.int .i64 y.2] rfl HLEA.out 1 rfl _ rfl rfl (by simp[Value.oneCell']) ?_ ?_ ?_ ?_
      ·have:=HLL.out;have:=HL1.out;unfold maxLen;omega
      ·have:=HLL.out;have:=HL1.out;omega
      ·have:=HSZA.out;have:=HWS.out;omega
      intro v' w9 hown9 hmv
      have hb9:Below w6.heap.size wA w9:=hmv.below (fun b' hb'=>(HLEA.out.lt b' hb').1) (by have:=HSZA.out;have:=HWS.out;omega)
      have hK9:KeyI w9 base (n+(i+1)) ⟨(loc' x).g,(loc' x).hb,.slice (some ⟨g',o',none⟩) (offW k.ws tx).length c5⟩ ⟨h,offW k.ws tx⟩:=(HKA.out.fr hmv.1 (fun b' hb' e=>by
       have h1:=(HLEA.out.lt b' e.symm).1
       have h2:=(HK6.out.foot_lt (b:=b') hb').2
       omega)).mono (by omega)
      have hout9:=hmv.1.own HOUA.out (fun b' hb' e=>q49 HOUA.out HLEA.out (by decide) hb' e.symm)
      have hreg9:=HREG.out
      rw[q5z hfb] at hreg9
      have hrel9:InRel base n ⟨(loc' x).g,(loc' x).hb,.slice (some ⟨g',o',none⟩) (offW k.ws tx).length c5⟩ (setH k.h tx none) (offW k.ws tx) (w.heap.size+1) gs x U0.ownBlock w6 u5 v' (.int .i64 ((i+1:Nat):Int)) w9:=by
       have hyl:=(List.getElem?_eq_some_iff.1 HY.out).1
       refine⟨i+1,h,lf++[y],done,rfl,hyl,hK9,by simpa [q0a] using hown9,hout9,hreg9,(HFRI.out.trans' (q1p HBWA.out) (fun q hq (e:_≤q)=>by have:=HWS.out;omega)).trans' hmv.1 (fun q hq e=>by have:=(HLEA.out.lt q e.symm).1;omega),fun z hz=>?_,by have:=HLL.out;simp;omega,by have:=HDL.out;omega,HOB.out⟩
       rcases List.mem_append.1 hz with hz|hz
       ·exact HSUB.out z hz
       ·rw[List.mem_singleton.1 hz];exact List.mem_of_getElem? HY.out
      have HREL9:=LH hrel9;clear hrel9 hK9 hout9 hreg9 hown9 hmv hb9 cw0 cw1 hwlA
      have hib:i<50:=by have:=HL1.out;omega
      go_wp2_with fail
      go_roundw
      case rel=>exact HREL9.out
      case measure=>simp[intOf];omega
     ·
      have hib:i<50:=by have:=HL1.out;omega
      go_upto_region 14 with (fail)
      refine wp_region_still_tail 16 (by kernel_rfl) (by kernel_rfl) ?_
      change wpStill _ _ (World.drew _) _ _ _
      simp only[List.take_succ_cons,List.take_zero,List.drop_succ_cons,List.drop_zero]
      have ck0:=HKA.out.blk.cell 0
      have hkl:=HKA.out.blk.lt
      simp only[List.getElem?_toArray,List.getElem?_cons_zero] at ck0
      have hlk:=qa1 (w:=wA.drew) HKA.out.holds HYK.out.1
      repeat still_step
      refine wpStill_nil ?_
      refine q0k (C:=kI) rfl 61 3 Tryz.underlying61 (.tmp 67) (.tmp 69) (.tmp 79) (by kernel_rfl) (by simp[Act.eval]) (show MapG kI _ _ (n+i) _ from HKA.out.holds) (by have:=HL1.out;unfold maxLen;omega) y.1 (.int .i64 (max (holdK h y.1) y.2)) (by simp[Act.eval];rfl) (by simp[Act.eval]) HYK.out.1 ?_
      intro wB hmB hfB
      have hfB:Fr (fun b'=>b'=(loc' x).hb) wA wB:=(Fr.refl _ wA).drew.trans hfB
      have hKB:KeyI wB base (n+i+1) ⟨(loc' x).g,(loc' x).hb,.slice (some ⟨g',o',none⟩) (offW k.ws tx).length c5⟩ ⟨gainH h y.1 y.2,offW k.ws tx⟩:=key_gainM HKA.out hmB hfB HYK.out.1 HYK.out.2
      have hleB:=hfB.own HLEA.out (fun b' hb' e=>by have h1:=(HLEA.out.lt b' hb').1;have h2:=(HK6.out.foot_lt (b:=b') (.inr (.inl e))).2;omega)
      have houB:=hfB.own HOUA.out (fun b' hb' e=>by subst e;exact HKA.out.holds.notOwn HOUA.out hb')
      have hwB:=hfB.blk HWA.out (fun e=>HKA.out.holds.notBlk HWA.out e.symm)
      have cv0:=hwB.cell 0
      have cv1:=hwB.cell 1
      have hwlB:=hwB.lt
      simp only[List.getElem?_toArray,List.getElem?_cons_zero,List.getElem?_cons_succ] at cv0 cv1
      have hszB:wr.heap.size+1≤wB.heap.size:=by have:=hfB.size;have:=HSZA.out;omega
      have hfrB:Fr (fun b'=>b'=(loc' x).hb∨U0.ownBlock=some b') w6 wB:=(HFRI.out.trans' (q1p HBWA.out) (fun q hq (e:_≤q)=>by have:=HWS.out;omega)).trans' hfB (fun q _ e=>.inl e)
      have HKB:=LH hKB;clear hKB
      have HLEB:=LH hleB;clear hleB
      have HOUB:=LH houB;clear houB hwB
      have HSZB:=LH hszB;clear hszB
      have HFRB:=LH hfrB;clear hfrB hmB hfB
      clear hlk ck0 hkl cw0 cw1 hwlA HKA HLEA HOUA HWA HSZA HBWA
      go_upto_region 15 with (fail)
      go_wp2_with (at_builtin;refine stop ?_)
      refine back ?_
      refine q0h _ _ rfl (.tmp 80) (.tmp 87) 138 rfl (w.heap.size+1) 179 (.agg #[.int .i64 0,.string ⟨#[]⟩,.int .i64 0]) 3 32 Tryz.underlying138 g_info rfl (by decide) _ _ _ #[.int .i64 y.1,.string ⟨x.toArray⟩,.int .i64 y.2] rfl HOUB.out 1 rfl _ rfl rfl (by simp[Value.oneCell']) ?_ ?_ ?_ ?_
      ·have:=HGL.out;have:=HDL.out;have:=HKL.out;unfold maxLen;omega
      ·have:=HGL.out;have:=HDL.out;have:=HKL.out;omega
      ·have:=HSZB.out;have:=HWS.out;have:=HW6.out;omega
      intro v' w9 hown9 hmv
      have hK9:KeyI w9 base (n+(i+1)) ⟨(loc' x).g,(loc' x).hb,.slice (some ⟨g',o',none⟩) (offW k.ws tx).length c5⟩ ⟨gainH h y.1 y.2,offW k.ws tx⟩:=HKB.out.fr hmv.1 (fun b' hb' e=>HKB.out.notRow HOUB.out (by decide) (by decide) e.symm hb')
      have hle9:=hmv.1.own HLEB.out (fun b' hb' e=>q49 HLEB.out HOUB.out (by decide) hb' e.symm)
      have hreg9:=HREG.out
      rw[q4o hfb] at hreg9
      have hrel9:InRel base n ⟨(loc' x).g,(loc' x).hb,.slice (some ⟨g',o',none⟩) (offW k.ws tx).length c5⟩ (setH k.h tx none) (offW k.ws tx) (w.heap.size+1) gs x U0.ownBlock w6 v' (.slice Al lf.length cl) (.int .i64 ((i+1:Nat):Int)) w9:=by
       have hyl:=(List.getElem?_eq_some_iff.1 HY.out).1
       refine⟨i+1,gainH h y.1 y.2,lf,done++[y],rfl,hyl,hK9,hle9,?_,by rw[List.append_assoc];exact hreg9,HFRB.out.trans' hmv.1 (fun q hq e=>?_),HSUB.out,by have:=HLL.out;omega,by have:=HDL.out;simp;omega,fun b' hb'=>?_⟩
       ·have:=hown9
        simp only[List.map_append,List.map_cons,List.map_nil,List.length_append,List.length_cons,List.length_nil,List.flatMap_append,List.flatMap_cons,List.flatMap_nil,q2n,List.append_assoc,List.append_nil] at this ⊢
        exact this
       ·rcases HOB.out q e.symm with h1|h1
        ·exact .inr h1
        ·omega
       ·rcases hmv.2 with e|⟨g9,e,hg9⟩
        ·exact HOB.out b' (e.symm.trans hb')
        ·rw[hb'] at e;injection e with e;exact .inr (by have:=HSZB.out;have:=HWS.out;omega)
      have HREL9:=LH hrel9;clear hrel9 hK9 hle9 hreg9 hown9 hmv cv0 cv1 hwlB
      go_wp2_with fail
      all_goals
       go_roundw
       case rel=>exact HREL9.out
       case measure=>simp[intOf];omega
    ·
     obtain rfl:i=(offW k.ws tx).length:=by omega
     rw[List.drop_length,q30] at hreg
     have hrel:relK k tx=(⟨h,lf⟩,done):=by unfold relK;rw[hreg];simp
     obtain⟨Al,cl,hVl,_,_⟩:=q01 hleft
     subst hVl
     have cs1:=hKi.blk.cell 1
     have cf1:=hKi.blk.frozen 1
     have hgl1:=hKi.blk.lt
     have ck0:=hKi.blk.cell 0
     simp only[List.getElem?_toArray,List.getElem?_cons_zero,List.getElem?_cons_succ] at cs1 ck0
     have hleb:wr.ownsRow base 166 2 (.slice Al lf.length cl) lf.length (lf.flatMap q0a):=q6r hleft (by have:=HI.out.bg;have:=HW6.out;omega)
     have hK7:=(key_row hKi hKi.blk hKi.holds hleb (fun z hz=>HOK1.out z (hsub z hz)) (by omega)).mono (n':=n+50) (by omega)
     have hne7:∀ b',(Value.slice Al lf.length cl).ownBlock=some b'→wr.heap.size≤b'∨w6.heap.size≤b':=fun b' hb'=>.inr (hleft.lt b' hb').1
     have hou7:=(Fr.set1 (loc' x).g wr 1 (.slice Al lf.length cl)).own houti (fun b' hb' e=>by subst e;exact q02 houti hKi.blk (by decide) hb')
     have hV9:=fun b' (hb':(Value.slice Al lf.length cl).ownBlock=some b')=>Nat.le_trans HF6.out.size (hleft.lt b' hb').1
     have hf7:=((HF6.out.mono (T:=fun b'=>KFoot (loc' x) b'∨U0.ownBlock=some b') (fun i _ h=>.inl h)).trans' hfri (fun i _ e=>e.elim (fun e=>.inl (.inr (.inl e))) .inr)).setCell (p:=⟨(loc' x).g,1,none⟩) (.inl (.inl (.inl rfl))) (.slice Al lf.length cl)
     have hstep:=rl_step hty HIJ.out HUN.out HFT.out HFR.out HOUT.out HGS.out HGL.out HROW.out HBX.out HX.out HFRE.out HTT.out hrel hK7 hV9 hf7 hou7 (by omega)
     have HSTEP:=LH hstep;clear hstep
     obtain⟨kk,hlen,_,hkk⟩:=hK7.holds.len Tryz.underlying61
     have hemp:=emp_iff hK7 hkk
     have HEMP:=LH hemp;clear hemp hkk
     have HLEN:=LH hlen;clear hlen
     have hjb:j<1000000:=by have:=HKL.out;omega
     have HK7:=LH hK7;clear hK7
     clear hleb hou7 hf7 hV9 hne7 hrel hreg hleft houti hfri hsub hob hws6 hL1
     clear HUN HFT HFR HOUT HGS HGL HROW HBX HX HFRE HTT HIJ HK6 HF6 HOK1 HV5 HFX HTJ HK HV
     go_upto_region 18 with (fail)
     clear cs1 cf1 ck0 hgl1 hKi
     generalize wr.setCell ⟨(loc' x).g,1,none⟩ (.slice Al lf.length cl)=w7 at *
     have ck0:=HK7.out.blk.cell 0
     have ck1:=HK7.out.blk.cell 1
     have hgl7:=HK7.out.blk.lt
     simp only[List.getElem?_toArray,List.getElem?_cons_zero,List.getElem?_cons_succ] at ck0 ck1
     have hlen:=HLEN.out 3
     by_cases hk0:kk=0
     ·subst hk0
      by_cases hl0:lf.length=0
      ·have d1:((lf.length:Int) == 0)=true:=by simp[hl0]
       have he:=HEMP.out.2 ⟨rfl,hl0⟩
       have hS:=HSTEP.out.2.2 he
       have hI7:=HSTEP.out.1
       have cg:=(hI7.blk.cell off).trans hI7.c0
       have hgl8:=hI7.blk.lt
       have HM7:=LH hI7.map;clear hI7
       have HS:=LH hS;clear hS
       clear hl0
       go_upto_region 19 with (fail)
       clear d1
       obtain⟨w8,hdrop,hm8,hf8⟩:=MapG.drop (C:=kS) (show MapG kS w7 b (n+50) _ from HM7.out) Tryz.underlying98 (x:=⟨x.toArray⟩) (by show(ByteArray.mk x.toArray).size≤maxLen;rw[q25];show x.toArray.toList.length≤_;unfold maxLen;simp;omega) 0
       rw[show kS.val ⟨x.toArray⟩=encStr x from rfl] at hdrop
       have hfin:=HS.out w8 hm8 hf8
       have HFIN:=LH hfin;clear hfin hm8 hf8
       go_wp2_with fail
       go_roundw
       case rel=>exact HFIN.out
       case measure=>simp[intOf];omega
      ·have d1:((lf.length:Int) == 0)=false:=by rw[beq_eq_false_iff_ne];omega
       have hS:=HSTEP.out.2.1 (fun he=>hl0 (HEMP.out.1 he).2)
       have HS:=LH hS;clear hS hl0
       go_wp2_with fail
       go_roundw
       case rel=>exact HS.out
       case measure=>simp[intOf];omega
     ·have d0:((kk:Int) == 0)=false:=by rw[beq_eq_false_iff_ne];omega
      have hS:=HSTEP.out.2.1 (fun he=>hk0 (HEMP.out.1 he).1)
      have HS:=LH hS;clear hS hk0
      go_wp2_with fail
      go_roundw
      case rel=>exact HS.out
      case measure=>simp[intOf];omega
  ·have hjk:j=ks.length:=by omega
   have hfin:RelPost base n g off ty cs mb loc T tx w (.returned u5) wr:=by
    rw[hjk] at hI hft hgs
    rw[tkT_all HKS.out] at hI hft
    rw[List.take_length] at hgs
    exact⟨u5,ks,loc',rfl,HKS.out,by rw[← hgs];exact hout,hI,hft,hfr⟩
   have HFIN:=LH hfin;clear hfin hI hun hft hfr hout hgs hgl hrow hbx
   go_wp2_with fail
   go_ret
   exact HFIN.out
end
def upd {α:Type} (f:Nat→α) (i:Nat) (v:α):Nat→α:=fun j=>if j=i then v else f j
theorem q03 {α:Type} (f:Nat→α) (i:Nat) (v:α):upd f i v i=v:=by unfold upd;rw[if_pos rfl]
theorem q07 {α:Type} {f:Nat→α} {i j:Nat} (h:j≠i) (v:α):upd f i v j=f j:=by unfold upd;rw[if_neg h]
theorem q9j {α:Type} (f:Nat→α) (i:Nat) (u v:α):upd (upd f i u) i v=upd f i v:=by
 funext j;unfold upd;split <;> rfl
theorem q9k {α:Type} (f:Nat→α) (i:Nat):upd f i (f i)=f:=by
 funext j;unfold upd;split
 ·rename_i h;rw[h]
 ·rfl
structure Shd where
 nd:Nat→Nd
 dead:Int→Bool
 epoch:Int
 size:Int
 tab:Tb
 sto:Kp
 done:Nat
structure Txn where
 state:Int
 writes:List Pr
 shards:Int→Option Int
 places:Int→Option Int
 time:Int
 wants:List (Sx×Int)
structure Hs where
 n:Nat
 c:Nat
 net:NetS
 sh:Nat→Shd
 m:Nat
 tx:Nat→Txn
 time:Int
def setF (f:Int→Option Int) (k v:Int):Int→Option Int:=fun j=>if j=k then some v else f j
def Shd.liveIx (n:Nat) (x:Shd):List Nat:=(List.range n).filter fun j=>!x.dead (x.nd j).id
def Shd.headIx (n:Nat) (x:Shd):Option Nat:=(x.liveIx n).find? fun j=>(x.nd j).head
def Hs.setSh (H:Hs) (s:Nat) (x:Shd):Hs:={ H with sh:=upd H.sh s x }
def Hs.setTx (H:Hs) (i:Nat) (t:Txn):Hs:={ H with tx:=upd H.tx i t }
def Hs.setNd (H:Hs) (s j:Nat) (d:Nd):Hs:=H.setSh s { H.sh s with nd:=upd (H.sh s).nd j d }
def Hs.send (H:Hs) (ms:List Ms):Hs:={ H with net:=q0o H.net ms }
def Hs.head (H:Hs) (s:Nat):Option Nat:=(H.sh s).headIx H.n
def grB (T:Tb) (tx:Int) (o:Int) (x:Sx):Prop:=∃ k md,T x=some k∧(o,md)∈(relK k tx).2
open Classical in
noncomputable def Hs.granted (H:Hs) (T:Tb) (tx:Int):Hs:=
 { H with tx:=fun i=>{ H.tx i with wants:=(H.tx i).wants.filter fun w=>!decide (grB T tx i w.1) } }
noncomputable def Hs.rel (H:Hs) (s:Nat) (tx:Int):Hs:=
 (H.setSh s { H.sh s with tab:=relT (H.sh s).tab tx }).granted (H.sh s).tab tx
noncomputable def lockT (T:Tb) (tx:Int) (x:Sx) (mode:Int):Tb:=
 if q0w (atT T x).ws tx then T
 else if freeB (atT T x).h tx mode (atT T x).ws then putT T x (some ⟨gainH (atT T x).h tx mode,(atT T x).ws⟩)
 else if (atT T x).ws.length=50 then T
 else putT T x (some ⟨(atT T x).h,insW (atT T x).ws (tx,mode)⟩)
noncomputable def prepT (T:Tb) (tx:Int) (ps:List Pr):Tb:=ps.foldl (fun T p=>lockT T tx (sx p.key) 2) T
def putsK (K:Kp) (t:Int) (ps:List Pr):Kp:=ps.foldl (fun K p=>(putS K 0 ⟨sx p.key,sx p.val,p.gone,t⟩).2) K
def commK (K:Kp) (l:List Cm) (c:Cm):Kp:=l.foldl (fun K w=>if w.kind=2∧w.tx=c.tx then putsK K c.time w.writes else K) K
noncomputable def Hs.take1 (H:Hs) (s:Nat) (l:List Cm) (i:Nat) (c:Cm):Hs:=
 if c.kind=2 then H.setSh s { H.sh s with tab:=prepT (H.sh s).tab c.tx c.writes }
 else if c.kind=3 then(H.setSh s { H.sh s with sto:=commK (H.sh s).sto (l.take i) c }).rel s c.tx
 else if c.kind=4 then H.rel s c.tx
 else H
noncomputable def Hs.takes (s:Nat) (l:List Cm):Nat→Hs→Hs
 | 0,H=>H
 | k+1,H=>match l[(H.sh s).done]? with
  | none=>H
  | some c=>Hs.takes s l k ((H.take1 s l (H.sh s).done c).setSh s { (H.take1 s l (H.sh s).done c).sh s with done:=(H.sh s).done+1 })
noncomputable def Hs.take (H:Hs) (s:Nat):Hs:=match H.head s with
 | none=>H
 | some j=>Hs.takes s ((H.sh s).nd j).log (((H.sh s).nd j).log.length-(H.sh s).done) H
noncomputable def Hs.add (H:Hs) (s j:Nat) (c:Cm) (b:Bool):Int×Hs:=
 if (((H.sh s).nd j).add c b).2.2≠0 then(-1,H)
 else((((H.sh s).nd j).add c b).2.1,(((H.setNd s j (((H.sh s).nd j).add c b).1.1).send (((H.sh s).nd j).add c b).1.2)).take s)
def Txn.comes (t:Txn):List Nat:=[0,1].filter fun k:Nat=>(t.shards k).isSome
def isCm (kind id:Int) (c:Cm):Bool:=c.kind == kind && c.tx == id
def place (l:List Cm) (kind id:Int):Option Nat:=l.findIdx? (isCm kind id)
def q00 (k:Sx):Nat:=(k.map fun b=>b.toNat).sum % 2
noncomputable def Hs.tell1 (i:Nat) (kind:Int) (H:Hs) (k:Nat):Hs:=match H.head k with
 | none=>H
 | some j=>if place ((H.sh k).nd j).log kind i=none∧place ((H.sh k).nd j).log 2 i≠none
  then(H.add k j ⟨kind,i,if kind=3 then(H.tx i).time else 0,[]⟩ false).2 else H
noncomputable def Hs.tells (H:Hs) (i:Nat) (kind:Int):Hs:=(H.tx i).comes.foldl (Hs.tell1 i kind) H
noncomputable def Hs.abort (H:Hs) (i:Nat):Hs:=
 ((H.tx i).comes.foldl (fun(H:Hs) k=>H.rel k i) (H.setTx i { H.tx i with state:=4,wants:=[] })).tells i 4
def Txn.of (t:Txn) (k:Nat):List Pr:=t.writes.filter fun p=>q00 (sx p.key) == k
def Hs.stable (H:Hs) (s j:Nat):Int:=((H.sh s).nd j).stable
def Hs.putPlace (H:Hs) (i k:Nat) (at_:Int):Hs:=H.setTx i { H.tx i with places:=setF (H.tx i).places k at_ }
noncomputable def Hs.end1 (H:Hs) (i k:Nat) (b:Bool):Hs×Option Bool:=match H.head k with
 | none=>(H,some false)
 | some j=>match place ((H.sh k).nd j).log 2 i with
  | some p=>(H.putPlace i k p,some (decide (H.stable k j > p)))
  | none=>
   if (H.tx i).time > 0∨((H.tx i).shards k).getD 0≠(H.sh k).epoch∨((H.tx i).places k).getD 0≥0 then
    if (H.tx i).time=0 then(H.abort i,none) else(H,some false)
   else if (H.add k j ⟨2,i,0,(H.tx i).of k⟩ b).1<0 then((H.add k j ⟨2,i,0,(H.tx i).of k⟩ b).2.abort i,none)
   else((H.add k j ⟨2,i,0,(H.tx i).of k⟩ b).2.putPlace i k (H.add k j ⟨2,i,0,(H.tx i).of k⟩ b).1,
    some (decide ((H.add k j ⟨2,i,0,(H.tx i).of k⟩ b).2.stable k j > (H.add k j ⟨2,i,0,(H.tx i).of k⟩ b).1)))
noncomputable def Hs.endsL (i:Nat) (b:Nat→Bool):List Nat→Hs→Bool→Hs×Option Bool
 | [],H,all=>(H,some all)
 | k::ks,H,all=>match (H.end1 i k (b k)).2 with
  | none=>((H.end1 i k (b k)).1,none)
  | some a=>Hs.endsL i b ks (H.end1 i k (b k)).1 (all && a)
noncomputable def Hs.commit (H:Hs) (i:Nat):Hs:=(H.setTx i { H.tx i with state:=3 }).tells i 3
def Hs.timed (H:Hs) (i:Nat):Hs:=if (H.tx i).time=0 then { H.setTx i { H.tx i with time:=wrap64 (H.time+1) } with time:=wrap64 (H.time+1) } else H
noncomputable def Hs.decides (H:Hs) (i:Nat) (b:Bool):Hs×Bool:=match H.head 2 with
 | none=>(H,false)
 | some j=>match place ((H.sh 2).nd j).log 3 i with
  | some p=>if H.stable 2 j≤p then(H,false) else(H.commit i,true)
  | none=>
   if ((H.timed i).add 2 j ⟨3,i,((H.timed i).tx i).time,[]⟩ b).1<0 then(((H.timed i).add 2 j ⟨3,i,((H.timed i).tx i).time,[]⟩ b).2,false)
   else if ((H.timed i).add 2 j ⟨3,i,((H.timed i).tx i).time,[]⟩ b).2.stable 2 j≤((H.timed i).add 2 j ⟨3,i,((H.timed i).tx i).time,[]⟩ b).1 then(((H.timed i).add 2 j ⟨3,i,((H.timed i).tx i).time,[]⟩ b).2,false)
   else(((H.timed i).add 2 j ⟨3,i,((H.timed i).tx i).time,[]⟩ b).2.commit i,true)
noncomputable def Hs.ends (H:Hs) (i:Nat) (b:Nat→Bool):Hs×Bool:=match (Hs.endsL i b (H.tx i).comes H true).2 with
 | none=>((Hs.endsL i b (H.tx i).comes H true).1,true)
 | some false=>((Hs.endsL i b (H.tx i).comes H true).1,false)
 | some true=>(Hs.endsL i b (H.tx i).comes H true).1.decides i (b 2)
noncomputable def Hs.settle1 (H:Hs) (i:Nat) (b:Nat→Bool):Hs×Bool:=
 if (H.tx i).state=2 then H.ends i b else if (H.tx i).state=3 then(H.tells i 3,false) else if (H.tx i).state=4 then(H.tells i 4,false) else(H,false)
noncomputable def Hs.round (bs:Nat→Nat→Bool):Nat→Nat→Hs×Bool→Hs×Bool
 | 0,_,r=>r
 | k+1,i,r=>Hs.round bs k (i+1) ((r.1.settle1 i (bs i)).1,(r.1.settle1 i (bs i)).2 || r.2)
inductive q10:Hs→Hs→Prop where
 | stop {H:Hs} (bs:Nat→Nat→Bool) (h:(Hs.round bs H.m 1 (H,false)).2=false):q10 H (Hs.round bs H.m 1 (H,false)).1
 | more {H H':Hs} (bs:Nat→Nat→Bool) (h:(Hs.round bs H.m 1 (H,false)).2=true) (r:q10 (Hs.round bs H.m 1 (H,false)).1 H'):q10 H H'
open Classical in
noncomputable def q24 (h:Int→Option Int) (tx mode:Int):List Int:=((List.range 61).map Int.ofNat).filter fun o=>decide (tx<o∧∃ m,h o=some m∧clash m mode=true)
noncomputable def Hs.wound (H:Hs) (o:Int):Hs:=if 1≤o∧o≤H.m∧(H.tx o.toNat).state=1 then H.abort o.toNat else H
def q0u (l:List (Sx×Int)) (x:Sx):Bool:=l.any fun w=>w.1 == x
noncomputable def Hs.lockIn (H:Hs) (i:Nat) (x:Sx) (mode:Int):Int×Hs:=
 let T:=(H.sh (q00 x)).tab
 let H1:=H.setSh (q00 x) { H.sh (q00 x) with tab:=lockT T i x mode }
 if q0w (atT T x).ws i then(9,H1)
 else if freeB (atT T x).h i mode (atT T x).ws then(0,H1)
 else if (atT T x).ws.length=50 then(4,H1)
 else
  let H2:=(q24 (atT T x).h i mode).foldl Hs.wound (H1.setTx i { H1.tx i with wants:=(H1.tx i).wants++[(x,mode)] })
  (if q0u (H2.tx i).wants x then 11 else 0,H2)
noncomputable def Hs.lock (H:Hs) (id:Int) (x:Sx) (mode:Int):Int×Hs:=
 if id<1∨H.m<id then(7,H)
 else if (H.tx id.toNat).state≠1 then(6,H)
 else if 20<x.length then(4,H)
 else if H.head (q00 x)=none then(12,H)
 else if ∃ e,(H.tx id.toNat).shards (q00 x)=some e∧e≠(H.sh (q00 x)).epoch then(6,H.abort id.toNat)
 else
  let H1:=H.setTx id.toNat { H.tx id.toNat with shards:=setF (H.tx id.toNat).shards (q00 x) (H.sh (q00 x)).epoch }
  if q0u (H1.tx id.toNat).wants x then(11,H1) else H1.lockIn id.toNat x mode
noncomputable def Hs.get (H:Hs) (id:Int) (x:Sx):(Int×Sx×Bool)×Hs:=
 let r:=H.lock id x 1
 if r.1≠0 then((r.1,[],false),r.2)
 else match (r.2.tx id.toNat).writes.reverse.find? (fun p=>sx p.key == x) with
  | some p=>((0,sx p.val,!p.gone),r.2)
  | none=>((0,tellV (getV ((r.2.sh (q00 x)).sto x) 1099511627776)),r.2)
def putPr (l:List Pr) (p:Pr):Option (List Pr):=match l.findIdx? (fun o=>o.key == p.key) with
 | some k=>some (l.set k p)
 | none=>if l.length=20 then none else some (l++[p])
noncomputable def Hs.put (H:Hs) (id:Int) (p:Pr):Int×Hs:=
 if 40<p.val.size then(4,H)
 else
  let r:=H.lock id (sx p.key) 2
  if r.1≠0 then(r.1,r.2)
  else match putPr (r.2.tx id.toNat).writes ⟨p.key,if p.gone then⟨#[]⟩ else p.val,p.gone⟩ with
   | some l=>(0,r.2.setTx id.toNat { r.2.tx id.toNat with writes:=l })
   | none=>(4,r.2)
def Hs.ending (H:Hs) (i:Nat):Hs:=H.setTx i { H.tx i with state:=2,places:=fun k=>if ((H.tx i).shards k).isSome then some (-1) else(H.tx i).places k }
inductive EndR (H:Hs) (id:Int):Int→Hs→Prop where
 | missing (h:id<1∨H.m<id):EndR H id 7 H
 | state (h:1≤id∧id≤H.m) (h1:(H.tx id.toNat).state≠1):EndR H id 6 H
 | waits (h:1≤id∧id≤H.m) (h1:(H.tx id.toNat).state=1) (h2:(H.tx id.toNat).wants≠[]):EndR H id 11 H
 | ends (h:1≤id∧id≤H.m) (h1:(H.tx id.toNat).state=1) (h2:(H.tx id.toNat).wants=[]) {H':Hs} (r:q10 (H.ending id.toNat) H'):EndR H id 0 H'
noncomputable def Hs.drop (H:Hs) (id:Int):Int×Hs:=
 if id<1∨H.m<id then(7,H) else if (H.tx id.toNat).state≠1 then(6,H) else(0,H.abort id.toNat)
def txn0:Txn:=⟨1,[],fun _=>none,fun _=>none,0,[]⟩
def Hs.begin (H:Hs):Hs:={ H with m:=H.m+1,tx:=upd H.tx (H.m+1) txn0 }
def Hs.state (H:Hs) (id:Int):Int:=if id<1∨H.m<id then 0 else(H.tx id.toNat).state
def Hs.node (H:Hs) (id:Int):Option (Nat×Nat):=
 ([0,1,2].flatMap fun s=>((H.sh s).liveIx H.n).map fun j=>(s,j)).find? fun q=>((H.sh q.1).nd q.2).id == id
noncomputable def Hs.arrive (H:Hs) (m:Ms):Hs:=match H.node m.to_ with
 | none=>H
 | some (s,j)=>((H.setNd s j (((H.sh s).nd j).step m).1).send (((H.sh s).nd j).step m).2).take s
inductive q1t (H:Hs) (k:Nat):Hs→Prop where
 | none (h:H.net.l.length≤k):q1t H k H
 | some {m:Ms} (h:H.net.l[k]? = some m) {H':Hs} (r:q10 (({ H with net:=takeS H.net k } : Hs).arrive m) H'):q1t H k H'
def Hs.lose (H:Hs) (k:Nat):Hs:={ H with net:=takeS H.net k }
def Hs.twice (H:Hs) (k:Nat):Hs:=match H.net.l[k]? with
 | none=>H
 | some m=>{ H with net:=sendS H.net m }
def Hs.tickNd (s:Nat) (H:Hs) (j:Nat):Hs:=(H.setNd s j ((H.sh s).nd j).tick.1).send ((H.sh s).nd j).tick.2
def Hs.tickSh (H:Hs) (s:Nat):Hs:=((H.sh s).liveIx H.n).foldl (Hs.tickNd s) H
def Hs.ticks (H:Hs):Hs:=[0,1,2].foldl Hs.tickSh H
def TickR (H H':Hs):Prop:=q10 H.ticks H'
inductive q4k:Nat→Hs→Hs→Prop where
 | zero (H:Hs):q4k 0 H H
 | none {k:Nat} {H:Hs} (h:H.net.l=[]):q4k k H H
 | more {k:Nat} {H H1 H':Hs} (h:H.net.l≠[]) (d:q1t H 0 H1) (r:q4k k H1 H'):q4k (k+1) H H'
inductive CalmR:Nat→Hs→Hs→Prop where
 | zero (H:Hs):CalmR 0 H H
 | more {k:Nat} {H H1 H2 H':Hs} (t:TickR H H1) (d:q4k 5000 H1 H2) (r:CalmR k H2 H'):CalmR (k+1) H H'
def Hs.fail (H:Hs) (id:Int):Hs:=match H.node id with
 | none=>H
 | some (s,_)=>{ H.setSh s { H.sh s with dead:=fun i=>decide (i=id) || (H.sh s).dead i } with net:=downS H.net id }
def Hs.joinNd (s:Nat) (ids:List Int) (H:Hs) (j:Nat):Hs:=
 (H.setNd s j (((H.sh s).nd j).join (H.sh s).epoch ids).tick.1).send (((H.sh s).nd j).join (H.sh s).epoch ids).tick.2
def Shd.ids (n:Nat) (x:Shd):List Int:=(x.liveIx n).map fun j=>(x.nd j).id
noncomputable def Hs.fixIn (H:Hs) (s:Nat):Hs:=
 let l:=(H.sh s).liveIx H.n
 let H1:=H.setSh s { H.sh s with epoch:=wrap64 ((H.sh s).epoch+1),size:=l.length }
 let H2:=l.foldl (Hs.joinNd s ((H.sh s).ids H.n)) H1
 (H2.setSh s { H2.sh s with tab:=fun _=>none,sto:=fun _=>[],done:=0 }).take s
noncomputable def Hs.fix (H:Hs) (s:Nat):Hs:=if (H.sh s).liveIx H.n=[] then H else H.fixIn s
def Shd.well (n:Nat) (x:Shd):Bool:=match (x.liveIx n).head?,(x.liveIx n).getLast? with
 | some a,some b=>(x.nd a).head && (x.nd b).tail && ((x.liveIx n).length:Int) == x.size
 | _,_=>true
noncomputable def Hs.fix1 (H:Hs) (s:Nat):Hs:=if (H.sh s).well H.n then H else H.fix s
noncomputable def Hs.stale1 (H:Hs) (i:Nat):Hs:=
 if (H.tx i).state=1∧∃ k∈(H.tx i).comes,(H.tx i).shards k≠some (H.sh k).epoch then H.abort i else H
noncomputable def Hs.stales (H:Hs):Hs:=(List.range' 1 H.m).foldl Hs.stale1 H
def FixR (H H':Hs):Prop:=q10 ([0,1,2].foldl Hs.fix1 H).stales H'
def nd0 (id:Int):Nd:=Nd.fresh id
def shd0 (s:Nat):Shd:=⟨fun j=>nd0 (10*s+j),fun _=>false,0,0,fun _=>none,fun _=>[],0⟩
def hsE (n:Nat):Hs:=⟨n,0,⟨[],fun _=>false⟩,shd0,0,fun _=>txn0,0⟩
noncomputable def Hs.more (H:Hs):Hs:=({ H with c:=H.c+1 } : Hs).fix H.c
noncomputable def hs0 (n:Nat):Hs:=(hsE n).more.more.more
section
open Go.RowKit Go.Maps Go.WideMaps
section
variable {P:Program} {kt:TypeId} {κ:Type} {C:KeyC P kt κ} {w w':World} {b n:Nat} {m:κ→Option Value}
open Classical in
theorem MapG.tight (h:MapG C w b n m) (l:List κ) (hl:∀ x,C.ok x→m x≠none→x∈l):MapG C w b l.length m:=by
 obtain⟨D,ho,hv⟩:=h
 obtain⟨es,clock,hb,F,hs,hD⟩:=ho
 refine⟨D,⟨es,clock,hb,F,?_,hD⟩,hv⟩
 have hap:=Maps.fit_apart C.law F
 have hlen:es.size=(((es.toList.map (Go.WideElems.rg P kt heldR))).map (·.1)).length:=by simp
 rw[hlen,← List.length_map C.kl]
 refine List.Nodup.length_le_of_subset ?_ (fun kl hk=>?_)
 ·rw[List.Nodup,List.pairwise_map]
  exact hap
 ·obtain⟨p,hp,rfl⟩:=List.mem_map.1 hk
  obtain⟨v,hv2⟩:=Maps.fit_keys F p hp
  obtain⟨x,hx,_,e2⟩:=C.inv v _ hv2
  refine List.mem_map.2 ⟨x,hl x hx (fun e=>?_),e2.symm⟩
  have h1:=(hv x hx).1
  rw[e] at h1
  have:Maps.has D (C.kl x)=true:=by
   rw[hD,has_eq,List.any_eq_true]
   exact⟨p,mem_sorted.2 hp,by rw[← e2];exact WideAt.sameKey_self (by rw[e2];exact C.key hx)⟩
  rw[this] at h1
  cases h1
end
end
end Go.Proofs.YtccahlhdifadfaaGreatDoor
