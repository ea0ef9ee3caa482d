/- Part 5 of the texts that the claim rests on (of 19): BsfV, Lk1, Lk2, Lk3, Lk4, Lk5, InsW, BsfW, Lk6, Hv2. -/
import Derived.Test.YtccahlhdifadfaaGreatDoorPk03
import Derived.Deep.CutBlock
import Derived.Test.YtccahlhdifadfaaGreatDoorRows
import Derived.Lib.Hide
import Derived.Deep.QuietTactic
import Derived.BigQuiet
namespace Go.Proofs.YtccahlhdifadfaaGreatDoor
open Go.RowKit
set_option maxRecDepth 100000
set_option maxHeartbeats 16000000
def VCmpW (F:Nat) (cf:VxR→Int) (t:Int) (w:World):Prop:=
 ∀ (W:World) (x:VxR),Below w.heap.size w W→(True)→Calls Tryz.prog F #[vxV x,.int .i64 t] W fun e w'=>e=.returned (.int .i64 (cf x))∧Below W.heap.size W w'
def VBsRel (cf:VxR→Int) (L:List VxR) (n:Nat) (w:World) (u v:Value) (wr:World):Prop:=
 ∃ i j:Nat,u=.int .i64 i∧v=.int .i64 j∧i≤j∧j≤n∧(∀ k (h:k<L.length),k<i→cf L[k]<0)∧(∀ k (h:k<L.length),j≤k→0≤cf L[k])∧Below w.heap.size w wr
def VBsPost (cf:VxR→Int) (L:List VxR) (n:Nat) (w:World) (e:Ending) (w':World):Prop:=
 ∃ (i:Nat) (f:Bool),e=.returned (.tuple #[.int .i64 i,.bool f])∧i≤n∧(∀ k (h:k<L.length),k<i→cf L[k]<0)∧(∀ k (h:k<L.length),i≤k→0≤cf L[k])∧(f=true↔∃ h:i<L.length,cf L[i]=0)∧Below w.heap.size w w'
theorem vsearch_any (F:Nat) (cf:VxR→Int) (A:Option Addr) (n k:Nat) (L:List VxR) (t:Int) (w:World) (eg:∀ args w,(callFunc F args).run Tryz.prog w=.ok (.enter F args) w)
  (hp:VCmpW F cf t w) (hr:Rd w w.heap.size 3 A n (L.flatMap q0f)) (hl:L.length=n) (hn:n≤100000) (hok:∀ x∈L,True)
  (hmono:∀ (i j:Nat) (hi:i<L.length) (hj:j<L.length),i≤j→cf L[i]≤cf L[j]) :
  Calls Tryz.prog 72 #[.slice A n k,.int .i64 t,.func (.func F) #[] #[]] w (VBsPost cf L n w):=by
 have HR:=LH hr;clear hr
 have HP:=LH hp;clear hp
 have HM:=LH hmono;clear hmono
 have HOK:=LH hok;clear hok
 have HL:=LH hl;clear hl
 go_enter Tryz.func72,Tryz.ntmps72
 go_wp2_with fail
 go_loopw [9,10] (VBsRel cf L n w) (fun u v _=>(intOf v).toNat-(intOf u).toNat)
 case atStart=>exact⟨0,n,rfl,rfl,Nat.zero_le _,Nat.le_refl _,fun k h h2=>absurd h2 (by omega),fun k h h2=>absurd h2 (by have:=HL.out;omega),Below.refl _ _⟩
 case round=>
  obtain⟨i,j,rfl,rfl,hij,hjn,hlo,hhi,hbw⟩:=hrel
  have HBW:=LH hbw
  have HLO:=LH hlo;clear hlo
  have HHI:=LH hhi;clear hhi
  by_cases hlt:(i:Int)<j
  ·have hmi:i≤(i+j) / 2:=by omega
   have hmj:(i+j) / 2<j:=by omega
   obtain⟨g',o',x,rfl,hga,hx,h0,h1,h2⟩:=(HR.out.below hbw).cellsV HL.out (j:=(i+j) / 2) (by omega)
   have hgw:g'<wr.heap.size:=Nat.lt_of_lt_of_le hga hbw.size
   have hxok:=HOK.out x (List.mem_of_getElem? hx)
   have hcall:=HP.out wr x hbw hxok
   have HC:=LH hcall;clear hcall
   have HX:=LH hx;clear hx hbw
   go_wp2_with fail
   refine HC.out.mono ?_
   rintro e w2 ⟨rfl,hb2⟩
   have hbw2:=HBW.out.trans (hb2.mono HBW.out.size)
   have HB2:=LH hbw2;clear hbw2 hb2 HC
   obtain⟨hml,hxe⟩:=List.getElem?_eq_some_iff.1 HX.out
   have HXE:=LH hxe;clear hxe
   by_cases hc:cf x<0
   ·have d1:decide (cf x<0)=true:=decide_eq_true hc
    have hrel2:VBsRel cf L n w (.int .i64 (((i+j) / 2+1:Nat):Int)) (.int .i64 j) w2:=by
     refine⟨(i+j) / 2+1,j,rfl,rfl,by omega,hjn,fun q hq h2=>?_,HHI.out,HB2.out⟩
     have:=HM.out q ((i+j) / 2) hq hml (by omega)
     rw[HXE.out] at this
     omega
    have HR2:=LH hrel2;clear hrel2 hc
    go_wp2_with fail
    go_roundw
    case rel=>exact HR2.out
    case measure=>simp[intOf];omega
   ·have d1:decide (cf x<0)=false:=decide_eq_false hc
    have hrel2:VBsRel cf L n w (.int .i64 i) (.int .i64 (((i+j) / 2:Nat):Int)) w2:=by
     refine⟨i,(i+j) / 2,rfl,rfl,by omega,by omega,HLO.out,fun q hq h2=>?_,HB2.out⟩
     have:=HM.out ((i+j) / 2) q hml hq h2
     rw[HXE.out] at this
     omega
    have HR2:=LH hrel2;clear hrel2 hc
    go_wp2_with fail
    go_roundw
    case rel=>exact HR2.out
    case measure=>simp[intOf];omega
  ·obtain rfl:j=i:=by omega
   by_cases hin:(j:Int)<n
   ·obtain⟨g',o',x,rfl,hga,hx,h0,h1,h2⟩:=(HR.out.below hbw).cellsV HL.out (j:=j) (by omega)
    have hgw:g'<wr.heap.size:=Nat.lt_of_lt_of_le hga hbw.size
    have hcall:=HP.out wr x hbw (HOK.out x (List.mem_of_getElem? hx))
    have HC:=LH hcall;clear hcall
    have HX:=LH hx;clear hx hbw
    go_wp2_with fail
    refine HC.out.mono ?_
    rintro e w2 ⟨rfl,hb2⟩
    have hbw2:=HBW.out.trans (hb2.mono HBW.out.size)
    have HB2:=LH hbw2;clear hbw2 hb2 HC
    have hfin:VBsPost cf L n w (.returned (.tuple #[.int .i64 j,.bool (cf x == 0)])) w2:=by
     obtain⟨hml,hxe⟩:=List.getElem?_eq_some_iff.1 HX.out
     refine⟨j,_,rfl,by omega,HLO.out,HHI.out,?_,HB2.out⟩
     rw[beq_iff_eq]
     exact⟨fun h=>⟨hml,by rw[hxe];exact h⟩,fun⟨_,h⟩=>by rw[hxe] at h;exact h⟩
    have HF:=LH hfin;clear hfin
    go_wp2_with fail
    go_ret2
    exact HF.out
   ·have hfin:VBsPost cf L n w (.returned (.tuple #[.int .i64 j,.bool false])) wr:=
     ⟨j,false,rfl,by omega,HLO.out,HHI.out,⟨fun h=>(by cases h),fun⟨h,_⟩=>absurd h (by have:=HL.out;omega)⟩,HBW.out⟩
    have HF:=LH hfin;clear hfin hbw
    go_wp2_with fail
    go_ret2
    exact HF.out
noncomputable abbrev kI:KeyC Tryz.prog 3 Int:=keyI Tryz.underlying3
noncomputable abbrev kS:KeyC Tryz.prog 9 ByteArray:=keyS Tryz.underlying9
abbrev okN (i:Int):Prop:=(Lit.int .i64 i).wf=true
def q0a (x:Int×Int):List Value:=[.int .i64 x.1,.int .i64 x.2]
def hM (h:Int→Option Int):Int→Option Value:=fun i=>(h i).map (Value.int .i64)
structure KLoc where
 g:Nat
 hb:Nat
 V:Value
structure KeyI (w:World) (base n:Nat) (L:KLoc) (k:Kx):Prop where
 blk:Blk w L.g 168 #[.map (some L.hb),L.V]
 holds:MapG kI w L.hb n (hM k.h)
 row:w.ownsRow base 166 2 L.V k.ws.length (k.ws.flatMap q0a)
 log:base≤L.g
 loh:base≤L.hb
 okh:∀ o m,k.h o=some m→okN o∧okN m
 okw:∀ x∈k.ws,okN x.1∧okN x.2
 len:k.ws.length≤50
def KFoot (L:KLoc) (b:Nat):Prop:=b=L.g∨b=L.hb∨L.V.ownBlock=some b
theorem KeyI.fr {S:Nat→Prop} {w w':World} {base n:Nat} {L:KLoc} {k:Kx} (h:KeyI w base n L k) (hf:Fr S w w') (hn:∀ b,KFoot L b→¬S b):KeyI w' base n L k:=
 ⟨hf.blk h.blk (hn _ (.inl rfl)),h.holds.fr hf (hn _ (.inr (.inl rfl))),hf.own h.row (fun g hg=>hn g (.inr (.inr hg))),h.log,h.loh,h.okh,h.okw,h.len⟩
theorem KeyI.foot_lt {w:World} {base n:Nat} {L:KLoc} {k:Kx} (h:KeyI w base n L k) {b:Nat} (hb:KFoot L b):base≤b∧b<w.heap.size:=by
 rcases hb with rfl|rfl|hb
 ·exact⟨h.log,h.blk.lt⟩
 ·exact⟨h.loh,h.holds.lt⟩
 ·exact h.row.lt b hb
theorem KeyI.tall {w w':World} {base n:Nat} {L:KLoc} {k:Kx} (h:KeyI w base n L k) (hb:Below w.heap.size w w'):KeyI w' base n L k:=
 h.fr (S:=fun b=>w.heap.size≤b) ⟨hb.os,hb.tape,hb.output,hb.size,fun i _ hn=>hb.block i (by omega)⟩ (fun b hb2 h2=>by have:=(h.foot_lt hb2).2;omega)
theorem KeyI.mono {w:World} {base n n':Nat} {L:KLoc} {k:Kx} (h:KeyI w base n L k) (hn:n≤n'):KeyI w base n' L k:=
 ⟨h.blk,h.holds.mono hn,h.row,h.log,h.loh,h.okh,h.okw,h.len⟩
theorem struck {κ:Type} {left:κ→Bool} {p o:κ} {_:Decidable (p=o)} (h:(left p && !decide (p=o))=false):left p=false∨p=o:=by
 by_cases e:p=o
 ·exact .inr e
 ·left;simpa [e] using h
def FtRel (_g hb n:Nat) (h:Int→Option Int) (tx mode:Int) (w:World) (wr:World):Prop:=
 ∃ (left:Int→Bool) (cnt:Nat),q0z kI wr hb w.heap.size n (hM h) left cnt∧(∀ o m,h o=some m→left o=false→o≠tx→clash m mode=false)∧Below w.heap.size w wr
def FtPost (h:Int→Option Int) (tx mode:Int) (w:World) (e:Ending) (w':World):Prop:=∃ b:Bool,e=.returned (.bool b)∧(b=true↔FitsK h tx mode)∧Below w.heap.size w w'
theorem fits_any (g hb n:Nat) (V:Value) (h:Int→Option Int) (tx mode:Int) (w:World) (hblk:Blk w g 168 #[.map (some hb),V]) (hm:MapG kI w hb n (hM h)) (hok:∀ o m,h o=some m→okN o∧okN m) :
  Calls Tryz.prog 112 #[.pointer (some ⟨g,0,none⟩),.int .i64 tx,.int .i64 mode] w (FtPost h tx mode w):=by
 have c0:=hblk.cell 0
 simp only[List.getElem?_toArray,List.getElem?_cons_zero] at c0
 have hgl:=hblk.lt
 have HOK:=LH hok;clear hok
 have HM:=LH hm;clear hm
 go_enter Tryz.func112,Tryz.ntmps112
 go_wp2_with (at_range;refine q23 rfl _ 61 3 rfl Tryz.underlying61 rfl HM.out ?_;intro w0 cnt0 hrg0 hf0 hs0)
 go_frame
 go_loopw [7] (fun _ wr=>FtRel g hb n h tx mode w wr) (fun _ wr=>wr.rangeLeft hb w.heap.size)
 case atStart=>
  refine⟨_,cnt0,hrg0,fun o m ho hl=>?_,hf0.none_below⟩
  simp[hM,ho] at hl
 case round=>
  obtain⟨left,cnt,hrg,hno,hbw⟩:=hrel
  have HRG:=LH hrg
  have HNO:=LH hno;clear hno
  have HBW:=LH hbw;clear hbw
  clear hrg
  go_wp2_with (at_next;refine q2i rfl _ rfl rfl HRG.out ?_ ?_)
  ·intro hl0
   go_wp2_with fail
   go_ret
   exact⟨true,rfl,by
    simp only[true_iff]
    exact fun o m ho hne=>HNO.out o m ho (hl0 o (HOK.out o m ho).1) hne,HBW.out⟩
  ·intro o v w1 cnt1 hox hlx hmx hrg1 hlt hf1 hs1 hen
   obtain⟨m,hm,rfl⟩:∃ m,h o=some m∧v=.int .i64 m:=by
    unfold hM at hmx
    cases e:h o with
    | none=>rw[e] at hmx;cases hmx
    | some m=>rw[e] at hmx;injection hmx with hmx;exact⟨m,rfl,hmx.symm⟩
   have hb1:Below w.heap.size w w1:=HBW.out.trans (hf1.below (fun i (hi:i=_)=>by omega) HBW.out.size)
   have HB1:=LH hb1;clear hb1
   have HM1:=LH hm;clear hm
   have HRG1:=LH hrg1;clear hrg1 hmx hlx
   rw[show kI.val o=Value.int .i64 o from rfl] at hen ⊢
   have hstep:(o≠tx→clash m mode=false)→∀ p m,h p=some m→(left p=false∨p=o)→p≠tx→clash m mode=false:=fun hc p m2 hp hl hne=>by
    rcases hl with hl|e
    ·exact HNO.out p m2 hp hl hne
    ·subst e
     rw[HM1.out] at hp
     injection hp with hp
     rw[← hp]
     exact hc hne
   have HST:=LH hstep;clear hstep
   have hms:w1.rangeLeft hb w.heap.size<wr.rangeLeft hb w.heap.size:=by
    rw[HRG1.out.left_eq,HRG.out.left_eq];exact hlt
   have HMS:=LH hms;clear hms hlt hs1 hs0 hf0 hrg0
   by_cases h1:o=tx
   ·have d1:(o != tx)=false:=by simpa using h1
    have HC:=LH (HST.out (fun hne=>absurd h1 hne));clear h1
    go_wp2_with fail
    go_roundw
    case rel=>exact⟨_,cnt1,HRG1.out,fun p m2 hp hl=>HC.out p m2 hp (struck hl),HB1.out⟩
    case measure=>exact HMS.out
   ·have d1:(o != tx)=true:=by simpa using h1
    by_cases h2:m=2
    ·have d2:(m == 2)=true:=by simpa using h2
     have HC:=LH (show ¬FitsK h tx mode from fun hf=>by have:=hf o m HM1.out h1;rw[h2] at this;simp[clash] at this);clear h1
     clear h2
     go_wp2_with fail
     go_ret
     exact⟨false,rfl,by simp only[Bool.false_eq_true,false_iff];exact HC.out,HB1.out⟩
    ·have d2:(m == 2)=false:=by simpa using h2
     by_cases h3:mode=2
     ·have d3:(mode == 2)=true:=by simpa using h3
      have HC:=LH (show ¬FitsK h tx mode from fun hf=>by have:=hf o m HM1.out h1;rw[h3] at this;simp[clash] at this);clear h1 h2 h3
      go_wp2_with fail
      go_ret
      exact⟨false,rfl,by simp only[Bool.false_eq_true,false_iff];exact HC.out,HB1.out⟩
     ·have d3:(mode == 2)=false:=by simpa using h3
      have HC:=LH (HST.out (fun _=>by simp[clash,h2,h3]));clear h1 h2 h3
      go_wp2_with fail
      go_roundw
      case rel=>exact⟨_,cnt1,HRG1.out,fun p m2 hp hl=>HC.out p m2 hp (struck hl),HB1.out⟩
      case measure=>exact HMS.out
theorem flat2:∀ (l:List (Int×Int)) (j:Nat) (x:Int×Int),l[j]? = some x→∀ i,i<2→(l.flatMap q0a)[j*2+i]? = (q0a x)[i]?
 | [],j,p,h,i,hi=>by simp at h
 | q::l,0,p,h,i,hi=>by
  simp at h
  subst h
  rw[List.flatMap_cons,List.getElem?_append_left (by show _<2;omega)]
  simp
 | q::l,j+1,p,h,i,hi=>by
  have h':l[j]? = some p:=by simpa using h
  have e:(j+1)*2+i=(j*2+i)+2:=by omega
  have e3:(q0a q).length=2:=rfl
  rw[e,List.flatMap_cons,List.getElem?_append_right (by rw[e3];omega),e3,Nat.add_sub_cancel]
  exact flat2 l j p h' i hi
theorem Rd.cells2 {w:World} {B n j:Nat} {A:Option Addr} {l:List (Int×Int)} (h:Rd w B 2 A n (l.flatMap q0a)) (hl:l.length=n) (hj:j<n):∃ g off x,A=some ⟨g,off,none⟩∧g<B∧l[j]? = some x∧
  w.cell? ⟨g,off+j*2,none⟩=some (.int .i64 x.1)∧w.cell? ⟨g,off+j*2+1,none⟩=some (.int .i64 x.2):=by
 obtain⟨g,off,e,hb,hc⟩:=h.2 (by omega)
 have hx:l[j]? = some l[j]:=List.getElem?_eq_getElem (by omega)
 have hf:=flat2 l j _ hx
 exact⟨g,off,l[j],e,hb,hx,hc (j*2) _ (hf 0 (by omega)),hc (j*2+1) _ (hf 1 (by omega))⟩
def wtV (x:Int×Int):Value:=.agg #[.int .i64 x.1,.int .i64 x.2]
def PredW (F:Nat) (lb:Array Value) (p:Int×Int→Bool) (w:World):Prop:=
 ∀ (W:World) (x:Int×Int),Below w.heap.size w W→Calls Tryz.prog F (#[wtV x]++lb) W fun e w'=>e=.returned (.bool (p x))∧Below W.heap.size W w'
def wIdx (p:Int×Int→Bool) (L:List (Int×Int)):Int:=match L.findIdx? p with|some i=>(i:Int)|none=>-1
theorem wIdx_any (p:Int×Int→Bool) (L:List (Int×Int)):decide (0≤wIdx p L)=L.any p:=by
 unfold wIdx
 rcases h:L.findIdx? p with _|i
 ·rw[List.findIdx?_eq_none_iff] at h
  have:L.any p=false:=by rw[List.any_eq_false];intro x hx;simp[h x hx]
  rw[this];rfl
 ·rw[List.findIdx?_eq_some_iff_getElem] at h
  obtain⟨hl,h1,_⟩:=h
  have:L.any p=true:=by rw[List.any_eq_true];exact⟨L[i],List.getElem_mem hl,h1⟩
  rw[this]
  simp
theorem wIdx_lo (p:Int×Int→Bool) (L:List (Int×Int)):-1≤wIdx p L∧wIdx p L≤L.length:=by
 unfold wIdx
 rcases h:L.findIdx? p with _|i
 ·simp only;omega
 ·rw[List.findIdx?_eq_some_iff_getElem] at h
  obtain⟨hl,h1,_⟩:=h
  simp only;omega
def WiRel (p:Int×Int→Bool) (L:List (Int×Int)) (n:Nat) (w:World) (v:Value) (wr:World):Prop:=∃ j:Nat,v=.int .i64 j∧j≤n∧(∀ x∈L.take j,p x=false)∧Below w.heap.size w wr
theorem q5p (F:Nat) (lb:Array Value) (p:Int×Int→Bool) (A:Option Addr) (n k:Nat) (L:List (Int×Int)) (w:World) (eg:∀ args w,(callFunc F args).run Tryz.prog w=.ok (.enter F args) w)
  (hp:PredW F lb p w) (hr:Rd w w.heap.size 2 A n (L.flatMap q0a)) (hl:L.length=n) (hn:n≤100000) :
  Calls Tryz.prog 111 #[.slice A n k,.func (.func F) #[] lb] w fun e w'=>e=.returned (.int .i64 (wIdx p L))∧Below w.heap.size w w':=by
 have HR:=LH hr;clear hr
 have HP:=LH hp;clear hp
 go_enter Tryz.func111,Tryz.ntmps111
 go_wp2_with fail
 go_loopw [8] (WiRel p L n w) (fun v _=>n-(intOf v).toNat)
 case atStart=>exact⟨0,rfl,Nat.zero_le _,(fun x hx=>by simp at hx),Below.refl _ _⟩
 case round=>
  obtain⟨j,rfl,hj,hno,hbw⟩:=hrel
  by_cases hlt:(j:Int)<n
  ·obtain⟨g',o',x,rfl,hga,hx,h0,h1⟩:=(HR.out.below hbw).cells2 hl (j:=j) (by omega)
   have hgw:g'<wr.heap.size:=Nat.lt_of_lt_of_le hga hbw.size
   have hcall:=HP.out wr x hbw
   have hjl:j<L.length:=by omega
   have hyes:p x=true→wIdx p L=j:=fun hp=>by
    have:L.findIdx? p=some j:=by
     rw[List.findIdx?_eq_some_iff_getElem]
     refine⟨hjl,?_,fun i hi=>?_⟩
     ·rw[← Option.some.inj ((List.getElem?_eq_getElem hjl).symm.trans hx)] at hp;exact hp
     ·simp only[Bool.not_eq_true]
      exact hno _ (by rw[List.mem_take_iff_getElem];exact⟨i,by omega,rfl⟩)
    unfold wIdx
    rw[this]
   have hstep:p x=false→∀ y∈L.take (j+1),p y=false:=fun hp y hy=>by
    rw[List.take_add_one,hx] at hy
    rcases List.mem_append.1 hy with hy|hy
    ·exact hno y hy
    ·simp at hy;rw[hy];exact hp
   have HYES:=LH hyes;clear hyes
   have HSTEP:=LH hstep;clear hstep
   have HNO:=LH hno;clear hno
   have HX:=LH hx;clear hx
   unfold wtV at hcall
   rcases hp:p x with _|_
   ·rw[hp] at hcall
    have HPX:=LH hp;clear hp
    have HC:=LH hcall;clear hcall
    go_wp2_with fail
    refine HC.out.mono ?_
    rintro e w2 ⟨rfl,hb2⟩
    clear HC
    have HB2:=LH (hbw.trans (hb2.mono hbw.size));clear hb2
    go_wp2_with fail
    go_roundw
    case rel=>exact⟨j+1,rfl,by omega,HSTEP.out HPX.out,HB2.out⟩
    case measure=>simp[intOf];omega
   ·rw[hp] at hcall
    have HPX:=LH hp;clear hp
    have HC:=LH hcall;clear hcall
    go_wp2_with fail
    refine HC.out.mono ?_
    rintro e w2 ⟨rfl,hb2⟩
    clear HC
    have HB2:=LH (hbw.trans (hb2.mono hbw.size));clear hb2
    go_wp2_with fail
    go_ret
    exact⟨by rw[HYES.out HPX.out];rfl,HB2.out⟩
  ·obtain rfl:j=n:=by omega
   have hnone:wIdx p L = -1:=by
    have:L.findIdx? p=none:=by
     rw[List.findIdx?_eq_none_iff]
     intro x hx
     exact hno x (by rw[List.take_of_length_le (by omega)];exact hx)
    unfold wIdx
    rw[this]
   have HN:=LH hnone;clear hnone hno
   go_wp2_with fail
   go_ret
   rw[HN.out]
   exact⟨rfl,hbw⟩
theorem q2s (F:Nat) (lb:Array Value) (p:Int×Int→Bool) (A:Option Addr) (n k:Nat) (L:List (Int×Int)) (w:World) (eg:∀ args w,(callFunc F args).run Tryz.prog w=.ok (.enter F args) w)
  (hp:PredW F lb p w) (hr:Rd w w.heap.size 2 A n (L.flatMap q0a)) (hl:L.length=n) (hn:n≤100000) :
  Calls Tryz.prog 86 #[.slice A n k,.func (.func F) #[] lb] w fun e w'=>e=.returned (.bool (L.any p))∧Below w.heap.size w w':=by
 have hix:=q5p F lb p A n k L w eg hp hr hl hn
 have ha:=wIdx_any p L
 have HIX:=LH hix;clear hix hp hr
 have HA:=LH ha;clear ha
 have hlo:=wIdx_lo p L
 generalize wIdx p L=z at *
 go_enter Tryz.func86,Tryz.ntmps86
 go_wp2_with fail
 refine HIX.out.mono ?_
 rintro e w2 ⟨rfl,hb2⟩
 go_wp2_with fail
 go_ret
 rw[← HA.out]
 exact⟨rfl,hb2⟩
def elP (tx mode:Int) (x:Int×Int):Bool:=decide (x.1<tx) && clash x.2 mode
theorem behind_el (ws:List (Int×Int)) (tx mode:Int):behind ws tx mode=ws.any (elP tx mode):=rfl
theorem q3q {w W:World} (h:Below w.heap.size w W) {p:Addr} {v:Value} (hc:w.cell? p=some v):W.cell? p=some v:=(h.cell (p:=p) (World.block_lt_of_cell? w _ hc)).trans hc
theorem q7v (b:Nat) (tx:Int) (w:World) (hb:w.cell? ⟨b,0,none⟩=some (.int .i64 tx)):PredW 87 #[.pointer (some ⟨b,0,none⟩)] (fun x=>decide (x.1=tx)) w:=by
 intro W x hW
 have hb:=q3q hW hb
 have hlt:=World.block_lt_of_cell? W _ hb
 have hbl:∀ o,Below W.heap.size W (W.alloc o):=fun o=>(Below.refl _ _).alloc (Nat.le_refl _) _
 have HBL:=LH hbl;clear hbl
 unfold wtV
 show Calls _ _ #[_,_] _ _
 go_enter Tryz.func87,Tryz.ntmps87
 go_wp2_with fail
 go_ret
 exact⟨rfl,HBL.out _⟩
theorem q3y (b:Nat) (tx:Int) (w:World) (hb:w.cell? ⟨b,0,none⟩=some (.int .i64 tx)):PredW 103 #[.pointer (some ⟨b,0,none⟩)] (fun x=>decide (x.1=tx)) w:=by
 intro W x hW
 have hb:=q3q hW hb
 have hlt:=World.block_lt_of_cell? W _ hb
 have hbl:∀ o,Below W.heap.size W (W.alloc o):=fun o=>(Below.refl _ _).alloc (Nat.le_refl _) _
 have HBL:=LH hbl;clear hbl
 unfold wtV
 show Calls _ _ #[_,_] _ _
 go_enter Tryz.func103,Tryz.ntmps103
 go_wp2_with fail
 go_ret
 exact⟨rfl,HBL.out _⟩
theorem free1_any (b c:Nat) (tx mode:Int) (w:World) (hb:w.cell? ⟨b,0,none⟩=some (.int .i64 tx)) (hc:w.cell? ⟨c,0,none⟩=some (.int .i64 mode)) :
  PredW 113 #[.pointer (some ⟨b,0,none⟩),.pointer (some ⟨c,0,none⟩)] (elP tx mode) w:=by
 intro W x hW
 have hb:=q3q hW hb
 have hc:=q3q hW hc
 have hlt:=World.block_lt_of_cell? W _ hb
 have hlt2:=World.block_lt_of_cell? W _ hc
 have hbl:∀ o,Below W.heap.size W (W.alloc o):=fun o=>(Below.refl _ _).alloc (Nat.le_refl _) _
 have HBL:=LH hbl;clear hbl
 unfold wtV
 show Calls _ _ #[_,_,_] _ _
 by_cases h1:x.1<tx
 ·have d1:decide (x.1<tx)=true:=decide_eq_true h1
  by_cases h2:x.2=2
  ·have d2:(x.2 == 2)=true:=by simpa using h2
   have HG:=LH (show elP tx mode x=true by simp[elP,clash,h1,h2]);clear h1 h2
   go_enter Tryz.func113,Tryz.ntmps113
   go_wp2_with fail
   go_ret
   rw[HG.out]
   exact⟨rfl,HBL.out _⟩
  ·have d2:(x.2 == 2)=false:=by simpa using h2
   have HG:=LH (show elP tx mode x=(mode == 2) by rw[Bool.eq_iff_iff];simp[elP,clash,h1,h2]);clear h1 h2
   go_enter Tryz.func113,Tryz.ntmps113
   go_wp2_with fail
   go_ret
   rw[HG.out]
   exact⟨rfl,HBL.out _⟩
 ·have d1:decide (x.1<tx)=false:=decide_eq_false h1
  have HG:=LH (show elP tx mode x=false by simp[elP,h1]);clear h1
  go_enter Tryz.func113,Tryz.ntmps113
  go_wp2_with fail
  go_ret
  rw[HG.out]
  exact⟨rfl,HBL.out _⟩
theorem q1y {P:Program} {f:FuncId} {fn:Func} {c:Code} (hf:P.funcs[f]? = some fn) (hname:(fn.name == "runtime.NumGoroutine")=false) (hb:fn.body=some c):∀ (args:Array Value) (w:World),(callFunc f args).run P w=.ok (.enter f args) w:=by
 intro args w
 have h1:fn.name ≠ "runtime.NumGoroutine" := by simpa using hname
 simp[callFunc,hf,h1,hb,mark]
theorem qa1 {w:World} {hb n:Nat} {h:Int→Option Int} (hm:MapG kI w hb n (hM h)) {tx:Int} (hx:okN tx):(Instr.lookup 61 (.map (some hb)) (.int .i64 tx) false).run Tryz.prog w=.ok (.int .i64 (holdK h tx)) w:=by
 have hz:(zeroValue 3).run Tryz.prog w=.ok (.int .i64 0) w:=by kernel_rfl
 have:=(hm.look Tryz.underlying61 hz (x:=tx) hx).2
 rw[show kI.val tx=Value.int .i64 tx from rfl] at this
 rw[this]
 unfold hM holdK
 cases h tx <;> rfl
theorem qa2 (g hb n nn kk:Nat) (V:Value) (h:Int→Option Int) (tx mode:Int) (A:Option Addr) (ws:List (Int×Int)) (w:World) (hblk:Blk w g 168 #[.map (some hb),V]) (hm:MapG kI w hb n (hM h)) (hok:∀ o m,h o=some m→okN o∧okN m)
  (htx:okN tx) (hr:Rd w w.heap.size 2 A nn (ws.flatMap q0a)) (hl:ws.length=nn) (hn:nn≤100000) :
  Calls Tryz.prog 88 #[.pointer (some ⟨g,0,none⟩),.int .i64 tx,.int .i64 mode,.slice A nn kk] w fun e w'=>e=.returned (.bool (freeB h tx mode ws))∧Below w.heap.size w w':=by
 have hb1:Below w.heap.size w ((w.alloc (.cells #[.int .i64 tx] 3)).alloc (.cells #[.int .i64 mode] 3)):=((Below.refl _ _).alloc (Nat.le_refl _) _).alloc (by simp) _
 have hB1:Blk ((w.alloc (.cells #[.int .i64 tx] 3)).alloc (.cells #[.int .i64 mode] 3)) w.heap.size 3 #[.int .i64 tx]:=(Blk.new w _ _).alloc _
 have hB2:Blk ((w.alloc (.cells #[.int .i64 tx] 3)).alloc (.cells #[.int .i64 mode] 3)) (w.heap.size+1) 3 #[.int .i64 mode]:=by
  have:=Blk.new (w.alloc (.cells #[.int .i64 tx] 3)) 3 #[.int .i64 mode]
  simpa using this
 have hz1:w.heap.size+2=((w.alloc (.cells #[.int .i64 tx] 3)).alloc (.cells #[.int .i64 mode] 3)).heap.size:=by simp
 have hgl:=hblk.lt
 have hcar:∀ w',Below (w.heap.size+2) ((w.alloc (.cells #[.int .i64 tx] 3)).alloc (.cells #[.int .i64 mode] 3)) w'→
   w'.cell? ⟨g,0,none⟩=some (.map (some hb))∧w'.cell? ⟨w.heap.size,0,none⟩=some (.int .i64 tx)∧w'.cell? ⟨w.heap.size+1,0,none⟩=some (.int .i64 mode)∧MapG kI w' hb n (hM h):=fun w' hb'=>by
  have c0:=(((hblk.below hb1 hgl).below hb' (by omega)).cell 0)
  have c1:=((hB1.below hb' (by omega)).cell 0)
  have c2:=((hB2.below hb' (by omega)).cell 0)
  exact⟨c0,c1,c2,(hm.below hb1 hm.lt).below hb' (by have:=hm.lt;omega)⟩
 have hft:=fun w' (hb':Below w.heap.size w w')=>fits_any g hb n V h tx mode w' (hblk.below hb' hgl) (hm.below hb' hm.lt) hok
 have hall:∀ w',Below (w.heap.size+2) ((w.alloc (.cells #[.int .i64 tx] 3)).alloc (.cells #[.int .i64 mode] 3)) w'→Below w.heap.size w w':=fun w' hb'=>hb1.trans (hb'.mono (by omega))
 have hct:=fun w' (hb':Below (w.heap.size+2) ((w.alloc (.cells #[.int .i64 tx] 3)).alloc (.cells #[.int .i64 mode] 3)) w')=>q2s 113 #[.pointer (some ⟨w.heap.size,0,none⟩),.pointer (some ⟨w.heap.size+1,0,none⟩)] (elP tx mode) A nn kk ws w' (q1y Tryz.func113 (by kernel_rfl) rfl)
   (free1_any w.heap.size (w.heap.size+1) tx mode w' (hcar w' hb').2.1 (hcar w' hb').2.2.1) ((hr.below (hall w' hb')).more (hall w' hb').size) hl hn
 have HCAR:=LH hcar;clear hcar
 have HFT:=LH hft;clear hft
 have HCT:=LH hct;clear hct
 have HALL:=LH hall;clear hall
 have HTX:=LH htx;clear htx
 clear hblk hm hok hr hB1 hB2 hgl
 have HB0:=LH (Below.refl (w.heap.size+2) ((w.alloc (.cells #[.int .i64 tx] 3)).alloc (.cells #[.int .i64 mode] 3)))
 by_cases h1:mode≤holdK h tx
 ·have d1:decide (mode≤holdK h tx)=true:=decide_eq_true h1
  have HF:=LH (q4c.2 (show FreeK h tx mode ws from .inl h1));clear h1
  go_enter Tryz.func88,Tryz.ntmps88
  go_upto_region 1 with (fail)
  have HZ:=LH hz1;clear hb1 hz1
  generalize (w.alloc (.cells #[.int .i64 tx] 3)).alloc (.cells #[.int .i64 mode] 3)=w1 at *
  refine wp_region_any (by kernel_rfl) ?_
  change wpAny _ _ _ _ _ _ _ (World.drew _)
  refine q4i (fun w'=>w'.cell? ⟨g,0,none⟩=some (.map (some hb))∧w'.cell? ⟨w.heap.size,0,none⟩=some (.int .i64 tx)∧w'.cell? ⟨w.heap.size+1,0,none⟩=some (.int .i64 mode)∧MapG kI w' hb n (hM h)) 21 ?_
  have HCC:=HCAR.out w1.drew HB0.out.drew
  refine nC 0 rfl (fun _ _ _ h=>h) HCC (fun w' hw'=>by go_simp;rfl) ?_
  refine nC 1 rfl (fun _ _ _ h=>h) HCC (fun w' hw'=>by go_simp;rfl) ?_
  refine nC 2 rfl (fun _ _ _ h=>h) HCC (fun w' hw'=>by go_simp;rfl) ?_
  refine nC 3 rfl (fun _ _ _ h=>h) HCC (fun w' hw'=>by obtain⟨h0,h1,h2,h3⟩:=hw';go_simp;rfl) ?_
  refine nC 4 rfl (fun _ _ _ h=>h) HCC (fun w' hw'=>by obtain⟨h0,h1,h2,h3⟩:=hw';go_simp;rfl) ?_
  refine nC 5 rfl (fun _ _ _ h=>h) HCC (fun w' hw'=>by obtain⟨h0,h1,h2,h3⟩:=hw';have hlk:=qa1 h3 HTX.out;go_simp;rfl) ?_
  refine nC 6 rfl (fun _ _ _ h=>h) HCC (fun w' hw'=>by obtain⟨h0,h1,h2,h3⟩:=hw';go_simp;rfl) ?_
  refine nC 7 rfl (fun _ _ _ h=>h) HCC (fun w' hw'=>by go_simp;rfl) ?_
  refine nC 8 rfl (fun _ _ _ h=>h) HCC (fun w' hw'=>by go_simp;rfl) ?_
  refine nskip 9 rfl (by kernel_rfl) (by kernel_rfl) (by kernel_rfl) (by kernel_rfl) (fun _ _ _ h=>h) (by kernel_rfl) HCC ?_
  refine nskip 10 rfl (by kernel_rfl) (by kernel_rfl) (by kernel_rfl) (by kernel_rfl) (fun _ _ _ h=>h) (by kernel_rfl) HCC ?_
  refine nskip 11 rfl (by kernel_rfl) (by kernel_rfl) (by kernel_rfl) (by kernel_rfl) (fun _ _ _ h=>h) (by kernel_rfl) HCC ?_
  refine nskip 12 rfl (by kernel_rfl) (by kernel_rfl) (by kernel_rfl) (by kernel_rfl) (fun _ _ _ h=>h) (by kernel_rfl) HCC ?_
  refine nskip 13 rfl (by kernel_rfl) (by kernel_rfl) (by kernel_rfl) (by kernel_rfl) (fun _ _ _ h=>h) (by kernel_rfl) HCC ?_
  refine nskip 14 rfl (by kernel_rfl) (by kernel_rfl) (by kernel_rfl) (by kernel_rfl) (fun _ _ _ h=>h) (by kernel_rfl) HCC ?_
  refine nskip 15 rfl (by kernel_rfl) (by kernel_rfl) (by kernel_rfl) (by kernel_rfl) (fun _ _ _ h=>h) (by kernel_rfl) HCC ?_
  refine nskip 16 rfl (by kernel_rfl) (by kernel_rfl) (by kernel_rfl) (by kernel_rfl) (fun _ _ _ h=>h) (by kernel_rfl) HCC ?_
  refine nskip 17 rfl (by kernel_rfl) (by kernel_rfl) (by kernel_rfl) (by kernel_rfl) (fun _ _ _ h=>h) (by kernel_rfl) HCC ?_
  refine nskip 18 rfl (by kernel_rfl) (by kernel_rfl) (by kernel_rfl) (by kernel_rfl) (fun _ _ _ h=>h) (by kernel_rfl) HCC ?_
  refine nC 19 rfl (fun _ _ _ h=>h) HCC (fun w' hw'=>by go_simp;rfl) ?_
  refine nO 20 rfl (fun K hK=>?_)
  go_simp
  refine hK _ _ (fun _=>HCC) ?_
  clear hK K
  refine ndone (by kernel_rfl) ?_ _
  clear HCC
  go_wp2_with fail
  go_ret
  rw[HF.out]
  exact⟨rfl,HALL.out _ HB0.out.drew⟩
 ·have d1:decide (mode≤holdK h tx)=false:=decide_eq_false h1
  have HN:=LH h1;clear h1
  go_enter Tryz.func88,Tryz.ntmps88
  go_upto_region 1 with (fail)
  have HZ:=LH hz1;clear hb1 hz1
  generalize (w.alloc (.cells #[.int .i64 tx] 3)).alloc (.cells #[.int .i64 mode] 3)=w1 at *
  refine wp_region_any (by kernel_rfl) ?_
  change wpAny _ _ _ _ _ _ _ (World.drew _)
  refine q4i (fun w'=>w'.cell? ⟨g,0,none⟩=some (.map (some hb))∧w'.cell? ⟨w.heap.size,0,none⟩=some (.int .i64 tx)∧w'.cell? ⟨w.heap.size+1,0,none⟩=some (.int .i64 mode)∧MapG kI w' hb n (hM h)) 21 ?_
  have HCC:=HCAR.out w1.drew HB0.out.drew
  refine nC 0 rfl (fun _ _ _ h=>h) HCC (fun w' hw'=>by go_simp;rfl) ?_
  refine nC 1 rfl (fun _ _ _ h=>h) HCC (fun w' hw'=>by go_simp;rfl) ?_
  refine nC 2 rfl (fun _ _ _ h=>h) HCC (fun w' hw'=>by go_simp;rfl) ?_
  refine nC 3 rfl (fun _ _ _ h=>h) HCC (fun w' hw'=>by obtain⟨h0,h1,h2,h3⟩:=hw';go_simp;rfl) ?_
  refine nC 4 rfl (fun _ _ _ h=>h) HCC (fun w' hw'=>by obtain⟨h0,h1,h2,h3⟩:=hw';go_simp;rfl) ?_
  refine nC 5 rfl (fun _ _ _ h=>h) HCC (fun w' hw'=>by obtain⟨h0,h1,h2,h3⟩:=hw';have hlk:=qa1 h3 HTX.out;go_simp;rfl) ?_
  refine nC 6 rfl (fun _ _ _ h=>h) HCC (fun w' hw'=>by obtain⟨h0,h1,h2,h3⟩:=hw';go_simp;rfl) ?_
  refine nC 7 rfl (fun _ _ _ h=>h) HCC (fun w' hw'=>by go_simp;rfl) ?_
  refine nC 8 rfl (fun _ _ _ h=>h) HCC (fun w' hw'=>by go_simp;rfl) ?_
  refine nC 9 rfl (fun _ _ _ h=>h) HCC (fun w' hw'=>by go_simp;rfl) ?_
  refine nC 10 rfl (fun _ _ _ h=>h) HCC (fun w' hw'=>by obtain⟨h0,h1,h2,h3⟩:=hw';go_simp;rfl) ?_
  refine nC 11 rfl (fun _ _ _ h=>h) HCC (fun w' hw'=>by obtain⟨h0,h1,h2,h3⟩:=hw';go_simp;rfl) ?_
  refine nO 12 rfl (fun K hK=>?_)
  go_simp
  refine(HFT.out w1.drew (HALL.out _ HB0.out.drew)).mono ?_
  rintro e w2 ⟨b,rfl,hbt,hb2⟩
  have hB2:Below (w.heap.size+2) w1 w2:=HB0.out.drew.trans (hb2.mono (by have:=HZ.out;simp;omega))
  have HCC2:=HCAR.out w2 hB2
  have HB2:=LH hB2;clear hB2 hb2
  have HBT:=LH hbt;clear hbt
  go_simp
  refine hK _ _ (fun _=>HCC2) ?_
  clear hK K HCC
  have HCC:=HCC2
  clear HCC2
  rcases b with _|_
  ·have HF:Hid (freeB h tx mode ws=false):=LH (freeB_false.2 (fun hf=>by
    rcases hf with hf|hf
    ·exact HN.out hf
    ·exact absurd (HBT.out.2 hf.1) (by simp)))
   refine nC 13 rfl (fun _ _ _ h=>h) HCC (fun w' hw'=>by go_simp;rfl) ?_
   refine nskip 14 rfl (by kernel_rfl) (by kernel_rfl) (by kernel_rfl) (by kernel_rfl) (fun _ _ _ h=>h) (by kernel_rfl) HCC ?_
   refine nskip 15 rfl (by kernel_rfl) (by kernel_rfl) (by kernel_rfl) (by kernel_rfl) (fun _ _ _ h=>h) (by kernel_rfl) HCC ?_
   refine nskip 16 rfl (by kernel_rfl) (by kernel_rfl) (by kernel_rfl) (by kernel_rfl) (fun _ _ _ h=>h) (by kernel_rfl) HCC ?_
   refine nskip 17 rfl (by kernel_rfl) (by kernel_rfl) (by kernel_rfl) (by kernel_rfl) (fun _ _ _ h=>h) (by kernel_rfl) HCC ?_
   refine nC 18 rfl (fun _ _ _ h=>h) HCC (fun w' hw'=>by go_simp;rfl) ?_
   refine nC 19 rfl (fun _ _ _ h=>h) HCC (fun w' hw'=>by go_simp;rfl) ?_
   refine nO 20 rfl (fun K hK=>?_)
   go_simp
   refine hK _ _ (fun _=>HCC) ?_
   clear hK K
   refine ndone (by kernel_rfl) ?_ _
   clear HCC
   go_wp2_with fail
   go_ret
   rw[HF.out]
   exact⟨rfl,HALL.out _ HB2.out⟩
  ·have hF:freeB h tx mode ws = !(ws.any (elP tx mode)):=by
    rw[Bool.eq_iff_iff,q4c]
    have hfit:=HBT.out.1 rfl
    have hnn:=HN.out
    have hbb:=behind_el ws tx mode
    unfold FreeK
    rw[hbb]
    cases ws.any (elP tx mode) <;> simp[hfit,hnn]
   have HF:=LH hF;clear hF
   refine nC 13 rfl (fun _ _ _ h=>h) HCC (fun w' hw'=>by go_simp;rfl) ?_
   refine nC 14 rfl (fun _ _ _ h=>h) HCC (fun w' hw'=>by go_simp;rfl) ?_
   refine nC 15 rfl (fun _ _ _ h=>h) HCC (fun w' hw'=>by go_simp;rfl) ?_
   refine nO 16 rfl (fun K hK=>?_)
   go_simp
   refine(HCT.out w2 HB2.out).mono ?_
   rintro e w3 ⟨rfl,hb3⟩
   have hB3:Below (w.heap.size+2) w1 w3:=HB2.out.trans (hb3.mono (by have:=HB2.out.size;have:=HZ.out;omega))
   have HCC3:=HCAR.out w3 hB3
   have HB3:=LH hB3;clear hB3 hb3
   go_simp
   refine hK _ _ (fun _=>HCC3) ?_
   clear hK K HCC
   have HCC:=HCC3
   clear HCC3
   have hFb:freeB h tx mode ws = !(ws.any (elP tx mode)):=HF.out
   generalize ws.any (elP tx mode)=q at hFb ⊢
   have HFB:=LH hFb;clear hFb
   refine nC 17 rfl (fun _ _ _ h=>h) HCC (fun w' hw'=>by go_simp;rfl) ?_
   refine nC 18 rfl (fun _ _ _ h=>h) HCC (fun w' hw'=>by go_simp;rfl) ?_
   refine nC 19 rfl (fun _ _ _ h=>h) HCC (fun w' hw'=>by go_simp;rfl) ?_
   refine nO 20 rfl (fun K hK=>?_)
   go_simp
   refine hK _ _ (fun _=>HCC) ?_
   clear hK K
   refine ndone (by kernel_rfl) ?_ _
   clear HCC
   go_wp2_with fail
   go_ret
   rw[HFB.out]
   exact⟨rfl,HALL.out _ HB3.out⟩
abbrev sx (s:ByteArray):Sx:=s.data.toList
def mapOf (loc:Sx→KLoc) (T:Tb):ByteArray→Option Value:=fun s=>(T (sx s)).map fun _=>.pointer (some ⟨(loc (sx s)).g,0,none⟩)
def TabM (w:World) (n:Nat) (mb:Option Nat) (loc:Sx→KLoc) (T:Tb):Prop:=
 match mb with
 | none=>∀ x,T x=none
 | some b=>MapG kS w b n (mapOf loc T)
structure TabI (w:World) (base n g off:Nat) (ty:TypeId) (cs:Array Value) (mb:Option Nat) (loc:Sx→KLoc) (T:Tb):Prop where
 blk:Blk w g ty cs
 c0:cs[off]? = some (.map mb)
 map:TabM w n mb loc T
 keys:∀ x k,T x=some k→KeyI w base n (loc x) k
 apart:∀ x y,x≠y→T x≠none→T y≠none→∀ b,KFoot (loc x) b→¬KFoot (loc y) b
 small:∀ x,T x≠none→x.length≤20
 ne:ty≠168∧ty≠166
 mlo:∀ b,mb=some b→base≤b
 mdis:∀ x,T x≠none→some (loc x).hb≠mb
 bg:base≤w.heap.size
def TFoot (mb:Option Nat) (loc:Sx→KLoc) (T:Tb) (b:Nat):Prop:=some b=mb∨∃ x,T x≠none∧KFoot (loc x) b
section
variable {w w':World} {base n g off:Nat} {ty:TypeId} {cs:Array Value} {mb:Option Nat} {loc:Sx→KLoc} {T:Tb}
theorem TabM.fr {S:Nat→Prop} (h:TabM w n mb loc T) (hf:Fr S w w') (hn:∀ b,some b=mb→¬S b):TabM w' n mb loc T:=by
 unfold TabM at h ⊢
 rcases mb with _|b
 ·exact h
 ·exact h.fr hf (hn b rfl)
theorem TabI.fr {S:Nat→Prop} (h:TabI w base n g off ty cs mb loc T) (hf:Fr S w w') (hg:¬S g) (hn:∀ b,TFoot mb loc T b→¬S b):TabI w' base n g off ty cs mb loc T:=
 ⟨hf.blk h.blk hg,h.c0,h.map.fr hf (fun b hb=>hn b (.inl hb)),fun x k hx=>(h.keys x k hx).fr hf (fun b hb=>hn b (.inr ⟨x,by rw[hx];simp,hb⟩)),h.apart,h.small,h.ne,h.mlo,h.mdis,Nat.le_trans h.bg hf.size⟩
theorem TabI.mono (h:TabI w base n g off ty cs mb loc T) {n':Nat} (hn:n≤n'):TabI w base n' g off ty cs mb loc T:=
 ⟨h.blk,h.c0,by
  have:=h.map
  unfold TabM at this ⊢
  rcases mb with _|b
  ·exact this
  ·exact MapG.mono this hn,fun x k hx=>(h.keys x k hx).mono hn,h.apart,h.small,h.ne,h.mlo,h.mdis,h.bg⟩
theorem TabI.foot_lt (h:TabI w base n g off ty cs mb loc T) {b:Nat} (hb:TFoot mb loc T b):base≤b∧b<w.heap.size:=by
 rcases hb with hb|⟨x,hx,hb⟩
 ·refine⟨h.mlo b hb.symm,?_⟩
  have:=h.map
  rw[← hb] at this
  exact MapG.lt (C:=kS) this
 ·obtain⟨k,hk⟩:=Option.ne_none_iff_exists'.1 hx
  exact(h.keys x k hk).foot_lt hb
theorem TabI.tall (h:TabI w base n g off ty cs mb loc T) (hb:Below w.heap.size w w'):TabI w' base n g off ty cs mb loc T:=
 h.fr (S:=fun b=>w.heap.size≤b) ⟨hb.os,hb.tape,hb.output,hb.size,fun i _ hn=>hb.block i (by omega)⟩ (fun h2=>by have:=h.blk.lt;omega) (fun b hb2 h2=>by have:=(h.foot_lt hb2).2;omega)
theorem TabI.key_ne (h:TabI w base n g off ty cs mb loc T) {x:Sx} {k:Kx} (hx:T x=some k) {b:Nat} (hb:KFoot (loc x) b):b≠g:=by
 have hk:=h.keys x k hx
 rcases hb with rfl|rfl|hb
 ·exact hk.blk.ne_ h.blk (fun e=>h.ne.1 e.symm)
 ·exact hk.holds.notBlk h.blk
 ·rintro rfl
  exact q02 hk.row h.blk (fun e=>h.ne.2 e.symm) hb
theorem TabI.key_map (h:TabI w base n g off ty cs mb loc T) {x:Sx} {k:Kx} (hx:T x=some k) {c:Nat} (hc:mb=some c) {b:Nat} (hb:KFoot (loc x) b):b≠c:=by
 have hk:=h.keys x k hx
 have hm:=h.map
 rw[hc] at hm
 rcases hb with rfl|rfl|hb
 ·exact fun e=>(MapG.notBlk (C:=kS) hm hk.blk) e.symm
 ·have:=h.mdis x (by rw[hx];simp)
  rw[hc] at this
  exact fun e=>this (by rw[e])
 ·rintro rfl
  exact MapG.notOwn (C:=kS) hm hk.row hb
end
theorem setIf_same' {cs:Array Value} {i:Nat} {v:Value} (h:cs[i]? = some v):cs.setIfInBounds i v=cs:=by
 apply Array.ext
 ·simp
 ·intro j h1 h2
  rw[Array.getElem_setIfInBounds]
  split
  ·rename_i e
   subst e
   rw[Array.getElem?_eq_getElem h2] at h
   injection h with h
   exact h.symm
  ·rfl
theorem eql_map_nil' {P:Program} (w:World) (t k e:TypeId) (m:Option Nat) (h:P.underlying t=some (.map k e)):(binOp .eql t (.map m) (.map none)).run P w=.ok (.bool m.isNone) w:=by
 simp only[binOp]
 simp[run_equal_map_nil w t k e m h]
theorem tab_made {w:World} {base n g off:Nat} {ty:TypeId} {cs:Array Value} {loc:Sx→KLoc} {T:Tb} (h:TabI w base n g off ty cs none loc T) :
  TabI ((w.alloc (.map #[] 0)).setCell ⟨g,off,none⟩ (.map (some w.heap.size))) base n g off ty (cs.setIfInBounds off (.map (some w.heap.size))) (some w.heap.size) loc T:=by
 have hsz:off<cs.size:=by
  have:=h.c0
  rcases Nat.lt_or_ge off cs.size with h|h
  ·exact h
  ·rw[Array.getElem?_eq_none (by simpa using h)] at this;cases this
 have hT:∀ x,T x=none:=h.map
 have hm:MapG kS (w.alloc (.map #[] 0)) w.heap.size n (mapOf loc T):=by
  have e:mapOf loc T=fun _=>none:=by funext s;unfold mapOf;rw[hT];rfl
  rw[e]
  exact(MapG.made kS w).mono (Nat.zero_le _)
 have hgl:=h.blk.lt
 refine⟨(h.blk.alloc _).set_ _ _,by simp[hsz],hm.fr (Fr.set1 g (w.alloc (.map #[] 0)) off (.map (some w.heap.size))) (fun e=>by omega),fun x k hx=>(by rw[hT] at hx;cases hx),fun x y _ hx=>absurd (hT x) hx,fun x hx=>absurd (hT x) hx,h.ne,fun b hb=>?_,fun x hx=>absurd (hT x) hx,?_⟩
 ·injection hb with hb;rw[← hb];exact h.bg
 ·have:=h.bg;simp;omega
def q2q (w:World):KLoc:=⟨w.heap.size+1,w.heap.size,.slice none 0 0⟩
def locP (loc:Sx→KLoc) (x:Sx) (L:KLoc):Sx→KLoc:=fun y=>if y=x then L else loc y
theorem sx_inj {s t:ByteArray} (h:sx s=sx t):s=t:=by
 have:s.data=t.data:=Array.ext' h
 cases s;cases t;simp_all
theorem mapOf_put (loc:Sx→KLoc) (T:Tb) (s:ByteArray) (L:KLoc) (k:Kx):putM (mapOf loc T) s (some (.pointer (some ⟨L.g,0,none⟩)))=mapOf (locP loc (sx s) L) (putT T (sx s) (some k)):=by
 funext t
 unfold putM mapOf locP putT
 by_cases e:t=s
 ·subst e;simp
 ·have:¬sx t=sx s:=fun h=>e (sx_inj h)
  simp[e,this]
theorem tab_new {w w2:World} {base n g off b:Nat} {ty:TypeId} {cs:Array Value} {loc:Sx→KLoc} {T:Tb} {s:ByteArray} (h:TabI w base n g off ty cs (some b) loc T) (_hT:T (sx s)=none) (hs:(sx s).length≤20)
  (hm:MapG kS w2 b (n+1) (putM (mapOf loc T) s (some (.pointer (some ⟨w.heap.size+1,0,none⟩)))))
  (hf:Fr (fun k=>k=b) ((w.alloc (.map #[] 0)).alloc (.cells #[.map (some w.heap.size),.slice none 0 0] 168)) w2) :
  TabI w2 base (n+1) g off ty cs (some b) (locP loc (sx s) (q2q w)) (putT T (sx s) (some k0)):=by
 have hb:=(h.foot_lt (.inl rfl:TFoot (some b) loc T b))
 have hall:Fr (fun k=>k=b) w w2:=(((Fr.refl _ w).alloc _).alloc _).trans hf
 have hbl:=h.blk.lt
 have hgb:g≠b:=by
  have hm0:=h.map
  exact fun e=>(MapG.notBlk (C:=kS) hm0 h.blk) e.symm
 have hnew:KeyI w2 base (n+1) (q2q w) k0:=by
  have h1:Blk ((w.alloc (.map #[] 0)).alloc (.cells #[.map (some w.heap.size),.slice none 0 0] 168)) (w.heap.size+1) 168 #[.map (some w.heap.size),.slice none 0 0]:=by
   have:=Blk.new (w.alloc (.map #[] 0)) 168 #[.map (some w.heap.size),.slice none 0 0]
   simpa using this
  have h2:MapG kI ((w.alloc (.map #[] 0)).alloc (.cells #[.map (some w.heap.size),.slice none 0 0] 168)) w.heap.size (n+1) (hM k0.h):=by
   have e:hM k0.h=fun _=>none:=by funext i;rfl
   rw[e]
   exact((MapG.made kI w).mono (Nat.zero_le _)).alloc _
  exact⟨hf.blk h1 (by show ¬w.heap.size+1=b;omega),h2.fr hf (by show ¬w.heap.size=b;omega),World.ownsRow_nil _ _ _ _,by show base≤w.heap.size+1;have:=h.bg;omega,h.bg,fun o m e=>(nomatch e),fun x hx=>(by cases hx),Nat.zero_le _⟩
 have hold:∀ x k,x≠sx s→T x=some k→KeyI w2 base (n+1) (loc x) k:=fun x k _ hx=>((h.keys x k hx).fr hall (fun c hc=>h.key_map hx rfl hc)).mono (by omega)
 have hfoot:∀ x,T x≠none→∀ c,KFoot (loc x) c→¬KFoot (q2q w) c:=fun x hx c hc hn=>by
  obtain⟨k,hk⟩:=Option.ne_none_iff_exists'.1 hx
  have:=(h.keys x k hk).foot_lt hc
  rcases hn with hn|hn|hn
  ·simp only[q2q] at hn;omega
  ·simp only[q2q] at hn;omega
  ·simp[q2q,Value.ownBlock] at hn
 have hput:∀ x,putT T (sx s) (some k0) x≠none→x=sx s∨(x≠sx s∧T x≠none):=fun x hx=>by
  unfold putT at hx
  split at hx
  ·rename_i e;exact .inl e
  ·rename_i e;exact .inr ⟨e,hx⟩
 have hlocN:∀ x,x≠sx s→locP loc (sx s) (q2q w) x=loc x:=fun x e=>by unfold locP;rw[if_neg e]
 have hlocS:locP loc (sx s) (q2q w) (sx s)=q2q w:=by unfold locP;rw[if_pos rfl]
 refine⟨hall.blk h.blk hgb,h.c0,?_,fun x k hx=>?_,fun x y hxy hx hy c hc=>?_,fun x hx=>?_,h.ne,h.mlo,fun x hx=>?_,by have:=hall.size;have:=h.bg;omega⟩
 ·show MapG kS w2 b (n+1) _
  have e:=mapOf_put loc T s (q2q w) k0
  rw[show(q2q w).g=w.heap.size+1 from rfl] at e
  rw[e] at hm
  exact hm
 ·unfold putT at hx
  split at hx
  ·rename_i e;subst e;injection hx with hx;rw[← hx,hlocS];exact hnew
  ·rename_i e;rw[hlocN x e];exact hold x k e hx
 ·rcases hput x hx with rfl|⟨e1,h1⟩
  ·rcases hput y hy with rfl|⟨e2,h2⟩
   ·exact absurd rfl hxy
   ·rw[hlocN y e2];rw[hlocS] at hc;exact fun h3=>hfoot y h2 c h3 hc
  ·rw[hlocN x e1] at hc
   rcases hput y hy with rfl|⟨e2,h2⟩
   ·rw[hlocS];exact hfoot x h1 c hc
   ·rw[hlocN y e2];exact h.apart x y hxy h1 h2 c hc
 ·rcases hput x hx with rfl|⟨_,h1⟩
  ·exact hs
  ·exact h.small x h1
 ·rcases hput x hx with rfl|⟨e1,h1⟩
  ·rw[hlocS];simp only[q2q,ne_eq,Option.some.injEq];omega
  ·rw[hlocN x e1];exact h.mdis x h1
theorem q9l {w:World} {n b:Nat} {loc:Sx→KLoc} {T:Tb} (hm:MapG kS w b n (mapOf loc T)) {s:ByteArray} (hs:s.size≤maxLen) :
  (Instr.lookup 98 (.map (some b)) (.string s) false).run Tryz.prog w=.ok (match T (sx s) with|none=>.pointer none|some _=>.pointer (some ⟨(loc (sx s)).g,0,none⟩)) w:=by
 have hz:(zeroValue 161).run Tryz.prog w=.ok (.pointer none) w:=by kernel_rfl
 have:=(hm.look Tryz.underlying98 hz (x:=s) hs).2
 rw[show kS.val s=Value.string s from rfl] at this
 rw[this]
 unfold mapOf
 cases T (sx s) <;> rfl
theorem q25 (s:ByteArray):s.size=(sx s).length:=by unfold sx;rw[Array.length_toList];rfl
theorem q7h {T:Tb} {x:Sx} {k:Kx} (h:T x=some k):putT T x (some (atT T x))=T:=by
 funext y
 unfold putT atT
 by_cases e:y=x
 ·rw[if_pos e,e,h];rfl
 ·rw[if_neg e]
theorem locP_same (loc:Sx→KLoc) (x:Sx):locP loc x (loc x)=loc:=by
 funext y
 unfold locP
 by_cases e:y=x
 ·rw[if_pos e,e]
 ·rw[if_neg e]
def AtOr (mb:Option Nat) (w:World) (b':Nat):Prop:=mb=some b'∨(mb=none∧w.heap.size≤b')
def AtPost (base n g off:Nat) (ty:TypeId) (cs:Array Value) (mb:Option Nat) (loc:Sx→KLoc) (T:Tb) (x:Sx) (w:World) (e:Ending) (w':World):Prop:=
 ∃ (b':Nat) (L:KLoc),e=.returned (.pointer (some ⟨L.g,0,none⟩))∧TabI w' base (n+1) g off ty (cs.setIfInBounds off (.map (some b'))) (some b') (locP loc x L) (putT T x (some (atT T x)))∧Fr (fun k=>k=g∨some k=mb) w w'∧
  AtOr mb w b'∧(T x≠none→L=loc x)∧(T x=none→∀ b,KFoot L b→w.heap.size≤b)
theorem at_there (base n g off b:Nat) (ty:TypeId) (cs:Array Value) (loc:Sx→KLoc) (T:Tb) (s:ByteArray) (k:Kx) (w:World) (hI:TabI w base n g off ty cs (some b) loc T) (hT:T (sx s)=some k) (hs:(sx s).length≤20) :
  Calls Tryz.prog 85 #[.pointer (some ⟨g,off,none⟩),.string s] w (AtPost base n g off ty cs (some b) loc T (sx s) w):=by
 have c0:=(hI.blk.cell off).trans hI.c0
 have hlk:=q9l hI.map (s:=s) (by rw[q25];unfold maxLen;omega)
 rw[hT] at hlk
 have hfin:AtPost base n g off ty cs (some b) loc T (sx s) w (.returned (.pointer (some ⟨(loc (sx s)).g,0,none⟩))) w:=
  ⟨b,loc (sx s),rfl,by rw[setIf_same' hI.c0,locP_same,q7h hT];exact hI.mono (by omega),Fr.refl _ _,.inl rfl,fun _=>rfl,fun h=>by rw[hT] at h;cases h⟩
 have HF:=LH hfin;clear hfin
 have hgl:=hI.blk.lt
 have hn0:=fun W=>eql_map_nil' W 98 _ _ (some b) Tryz.underlying98
 clear hI hT
 go_enter Tryz.func85,Tryz.ntmps85
 go_wp2_with fail
 go_ret
 exact HF.out
theorem at_new (base n g off:Nat) (ty:TypeId) (cs:Array Value) (mb:Option Nat) (loc:Sx→KLoc) (T:Tb) (s:ByteArray) (w:World) (hI:TabI w base n g off ty cs mb loc T) (hT:T (sx s)=none) (hs:(sx s).length≤20) (hn:n<1000000) :
  Calls Tryz.prog 85 #[.pointer (some ⟨g,off,none⟩),.string s] w (AtPost base n g off ty cs mb loc T (sx s) w):=by
 have hsz:s.size≤maxLen:=by rw[q25];unfold maxLen;omega
 have c0:=(hI.blk.cell off).trans hI.c0
 have f0:=hI.blk.frozen off
 have hgl:=hI.blk.lt
 have hn0:=fun W=>eql_map_nil' W 98 _ _ mb Tryz.underlying98
 have HI:=LH hI;clear hI
 have HT:=LH hT;clear hT
 rcases mb with _|b
 case' none=>
  have hmm:=@run_makeMap Tryz.prog
  have hmd:=tab_made HI.out
  have hpast:(w.alloc (.map #[] 0)).setCell ⟨g,off,none⟩ (.map (some w.heap.size))=(w.setCell ⟨g,off,none⟩ (.map (some w.heap.size))).alloc (.map #[] 0):=by
   rw[World.setCell_alloc_past _ _ _ _ (by omega)]
  have hfr:Fr (fun k=>k=g∨some k=none) w ((w.alloc (.map #[] 0)).setCell ⟨g,off,none⟩ (.map (some w.heap.size))):=((Fr.refl _ _).alloc _).setCell (p:=⟨g,off,none⟩) (.inl (.inl rfl)) _
  rw[hpast] at hmd hfr
  clear hpast
  have HMD:=LH hmd;clear hmd
  have HFR:=LH hfr;clear hfr
  have HOR:=LH (show AtOr none w w.heap.size from .inr ⟨rfl,Nat.le_refl _⟩)
  have c1:=(HMD.out.blk.cell off).trans HMD.out.c0
  have hbl:w.heap.size<((w.setCell ⟨g,off,none⟩ (.map (some w.heap.size))).alloc (.map #[] 0)).heap.size:=by simp
  go_enter Tryz.func85,Tryz.ntmps85
  go_upto_region 3 with (fail)
  clear hmm c0 f0
  have HBL:=LH hbl;clear hbl
  generalize hb:w.heap.size=b at *
  generalize (w.setCell ⟨g,off,none⟩ (.map (some b))).alloc (.map #[] 0)=w1 at *
  have hle:w.heap.size≤w1.heap.size:=by have:=HFR.out.size;omega
  have HLE:=LH hle;clear hle
  have HWB:=LH hb;clear hb
 case' some=>
  have HMD:Hid (TabI w base n g off ty (cs.setIfInBounds off (.map (some b))) (some b) loc T):=LH (by rw[setIf_same' HI.out.c0];exact HI.out)
  have HFR:=LH (Fr.refl (fun k=>k=g∨some k=some b) w)
  have HOR:=LH (show AtOr (some b) w b from .inl rfl)
  have c1:=c0
  go_enter Tryz.func85,Tryz.ntmps85
  go_upto_region 3 with (fail)
  clear c0 f0
  have HBL:=LH ((HMD.out.foot_lt (.inl rfl:TFoot (some b) loc T b)).2)
  have HLE:=LH (Nat.le_refl w.heap.size)
  obtain⟨w1,rfl⟩:∃ w1:World,w1=w:=⟨w,rfl⟩
 all_goals
  clear HI hn0
  have hgl1:=HMD.out.blk.lt
  have hlk:=q9l HMD.out.map (s:=s) hsz
  rw[HT.out] at hlk
  have hmm:=@run_makeMap Tryz.prog
  have hblw:=HBL.out
  go_wp2_with (at_mapUpdate;refine q0k (C:=kS) rfl 98 161 Tryz.underlying98 _ _ _ rfl rfl (show MapG kS _ b n (mapOf loc T) from(HMD.out.map.alloc _).alloc _) (by unfold maxLen;omega) s (.pointer (some ⟨w1.heap.size+1,0,none⟩)) rfl rfl hsz ?_;intro w3 hm3 hf3)
  have hT3:=tab_new HMD.out HT.out hs hm3 hf3
  have hF3:Fr (fun k=>k=b) w1 w3:=(((Fr.refl _ w1).alloc _).alloc _).trans hf3
  have HT3:=LH hT3;clear hT3
  have ha0:atT T (sx s)=k0:=by unfold atT;rw[HT.out];rfl
  have HA0:=LH ha0;clear ha0
  have hff:=HFR.out.trans' hF3 (fun i hi (e:i=b)=>by
   rcases HOR.out with h|⟨_,h⟩
   ·exact .inr (by rw[h,e])
   ·omega)
  have HFF:=LH hff;clear hff hF3 hf3 hm3 hlk hmm
  go_ret
  refine⟨b,q2q w1,rfl,by rw[HA0.out];exact HT3.out,HFF.out,HOR.out,fun h=>absurd HT.out h,fun _ c hc=>?_⟩
  have:=HLE.out
  rcases hc with h|h|h
  ·simp only[q2q] at h;omega
  ·simp only[q2q] at h;omega
  ·simp[q2q,Value.ownBlock] at h
theorem w_und:Tryz.prog.underlying 164=some (.slice 166):=Tryz.underlying164
theorem q3b:Tryz.prog.elem 164=166:=by kernel_rfl
theorem q3a (w:World):(sizeOf 166).run Tryz.prog w=.ok 2 w:=by kernel_rfl
theorem w_info:(Tryz.prog.info? 166).map (fun i=>(i.zero,i.size,i.bytes))=some (some (.agg #[.int .i64 0,.int .i64 0]),2,16):=by kernel_rfl
theorem q9i:(Tryz.prog.info? 166).map (·.size)=some 2:=by kernel_rfl
def q3s (base n i:Nat) (V:Value) (vs xs:List Value) (w:World) (e:Ending) (w':World):Prop:=
 ∃ V',e=.returned V'∧w'.ownsRow base 166 2 V' (n+1) (putIn 2 i vs xs)∧Moved w w' V.ownBlock V'.ownBlock
theorem w_shape {w:World} {g:Nat} {cs:Array Value} {t:TypeId} (h:w.heap[g]? = some (.cells cs t (0,0))):w.shape? g=some (t,cs.size):=by
 unfold World.shape?;rw[h]
theorem w_frozen {w:World} {g o:Nat} {cs:Array Value} {t:TypeId} (h:w.heap[g]? = some (.cells cs t (0,0))):w.frozen? ⟨g,o,none⟩=false:=Blk.frozen (show Blk w g t cs from h) o
theorem wins_end (base n vb vc:Nat) (V:Value) (xs vs:List Value) (w:World) (hrow:w.ownsRow base 166 2 V n xs) (hn:n≤100000) (hvs:vs.length=2) (hv1:∀ u∈vs,u.oneCell'=true)
  (hvb:Blk w vb 166 vs.toArray) (hb:base≤w.heap.size) :
  Calls Tryz.prog 91 #[V,.int .i64 n,.slice (some ⟨vb,0,none⟩) 1 vc] w (q3s base n n V vs xs w):=by
 obtain⟨A,c,rfl,hnc,_⟩:=q01 hrow
 obtain⟨r12,hs12⟩:=q0x 164 w_und q3b q3a w A n c n (Nat.le_refl _)
 have hrd:Reads w w.heap.size 2 (some ⟨vb,0,none⟩) 1 vs:=⟨by rw[hvs],fun _=>⟨_,rfl,hvb.lt,fun j u hu=>by
  rw[Addr.add_lit,Nat.zero_add]
  exact(hvb.cell j).trans (by simpa using hu)⟩⟩
 have hput:putIn 2 n vs xs=xs++vs:=by
  unfold putIn
  rw[List.take_of_length_le (by rw[hrow.1];omega),List.drop_of_length_le (by rw[hrow.1];omega),List.append_nil]
 have HROW:=LH hrow;clear hrow
 have HRD:=LH hrd;clear hrd
 have HPUT:=LH hput;clear hput
 have HV1:=LH hv1;clear hv1
 clear hvb hvs
 go_enter Tryz.func91,Tryz.ntmps91
 go_wp2_with (at_builtin;refine q1u w rfl _ _ 164 rfl base 166 _ 2 16 w_und w_info rfl (by decide) _ n xs rfl HROW.out _ _ 1 vc vs rfl HRD.out HV1.out (by unfold maxLen;omega) (by omega) hb ?_;intro V2 w2 ho2 hm2)
 have hfin:q3s base n n (.slice A n c) vs xs w (.returned V2) w2:=⟨V2,rfl,by rw[HPUT.out];exact ho2,hm2⟩
 have HF:=LH hfin;clear hfin ho2 hm2
 go_wp2_with fail
 go_ret
 exact HF.out
theorem wins_shift (base g n c i vb vc:Nat) (xs vs:List Value) (w:World) (hrow:w.ownsRow base 166 2 (.slice (some ⟨g,0,none⟩) n c) n xs) (hi:i<n) (hroom:n+1≤c) (hn:n≤100000) (hxs:∀ u∈xs,u.oneCell'=true) (hvs:vs.length=2) (hv1:∀ u∈vs,u.oneCell'=true)
  (hvb:Blk w vb 166 vs.toArray) (hne:vb≠g) (_hb:base≤w.heap.size) :
  Calls Tryz.prog 91 #[.slice (some ⟨g,0,none⟩) n c,.int .i64 i,.slice (some ⟨vb,0,none⟩) 1 vc] w (q3s base n i (.slice (some ⟨g,0,none⟩) n c) vs xs w):=by
 obtain⟨r12,hs12⟩:=q0x 164 w_und q3b q3a w (some ⟨g,0,none⟩) n c i (by omega)
 obtain⟨ex,hex,hown1⟩:=ownK_more hrow hroom
 obtain⟨cur,q1,hg,q2,q3,hcs,q4⟩:=q32 hrow
 clear q1 q2 q3 q4
 have hcur:cur.size≠0:=by rw[hcs];have:0<c*2:=Nat.mul_pos (by omega) (by decide);omega
 have hov:∀ lb cb,(callFunc 114 #[.slice (some ⟨vb,0,none⟩) 1 vc,.slice (some ⟨g,(i+1)*2,none⟩) lb cb]).run Tryz.prog w=.ok (.value (.bool false)) w:=fun lb cb=>by
  rw[run_callFunc_extern Tryz.func114 (by kernel_rfl) (by kernel_rfl) (by kernel_rfl) (e:=Extern.SlicesOverlaps.overlaps #[164,164] #[4]) (by kernel_rfl),
   Lib.run_overlaps_apart w 164 4 166 w_und 2 q3a ⟨vb,0,none⟩ ⟨g,(i+1)*2,none⟩ 1 vc lb cb hne _ _ _ _ (w_shape hvb) (w_shape hg) hcur (w_frozen hvb) (w_frozen hvb)]
  rfl
 have hxl:=hrow.1
 obtain⟨w2,hrun2,hown2,hf2⟩:=q1h (w:=w.drew) 164 164 166 w_und q9i (show w.drew.ownsRow base 166 2 (.slice (some ⟨g,0,none⟩) (n+1) c) (n+1) (xs++ex) from hown1) (i:=i+1) (m:=n-i) (by omega) (xs.drop (i*2))
  (by rw[List.length_drop,hxl,Nat.sub_mul]) ⟨g,i*2,none⟩ (fun j v hj=>by
   rw[Addr.add_lit]
   rw[List.getElem?_drop] at hj
   have hjl:i*2+j<n*2:=by rw[← hxl];exact(List.getElem?_eq_some_iff.1 hj).1
   show w.cell? _=_
   exact(hrow.cellAt _ hjl).trans hj) (fun u hu=>hxs u (List.mem_of_mem_drop hu)) (n-i) (c-(i+1)) (n+1-i) (c-i) (by show min _ _=_;omega)
 have hf2w:Fr (fun k=>k=g) w w2:=(Fr.refl _ w).drew.trans hf2
 have hvb2:Blk w2 vb 166 vs.toArray:=hf2w.blk hvb hne
 obtain⟨w3,hrun3,hown3,hf3⟩:=q1h (w:=w2) 164 164 166 w_und q9i hown2 (i:=i) (m:=1) (by omega) vs (by rw[hvs]) ⟨vb,0,none⟩ (fun j v hj=>by
   rw[Addr.add_lit,Nat.zero_add]
   exact(hvb2.cell j).trans (by simpa using hj)) hv1 (n+1-i) (c-i) 1 vc (by show min _ _=_;omega)
 have hcap:=(q2u hrow).2
 rw[q7i hxl hi hex] at hown3
 have hfin:q3s base n i (.slice (some ⟨g,0,none⟩) n c) vs xs w (.returned (.slice (some ⟨g,0,none⟩) (n+1) c)) w3:=
  ⟨_,rfl,hown3,(hf2w.trans hf3).mono (fun k _ h=>by rw[h];rfl),.inl rfl⟩
 have s1:=q2x 164 w_und q3b q3a w g n c (n+1) ((n:Int)+1) (by omega) hroom
 have s2:=fun W=>q0s 164 w_und q3b q3a W g (n+1) c (i+1) ((i:Int)+1) (by omega) (by omega) (by omega)
 rw[show n+1-(i+1)=n-i by omega] at s2
 have s3:=fun W=>q0s 164 w_und q3b q3a W g (n+1) c i (i:Int) rfl (by omega) (by omega)
 have HF:=LH hfin;clear hfin hown1 hown2 hown3 hf2 hf3 hf2w hrow hvb hvb2 hg hcs hcur hex
 have hwi:IntKind.i64.wrap ((i:Int)+1)=(i:Int)+1:=IntWalk.i64_in _ (by omega)
 have hwn:IntKind.i64.wrap ((n:Int)+1)=(n:Int)+1:=IntWalk.i64_in _ (by omega)
 have HR2:=LH hrun2;clear hrun2
 have HR3:=LH hrun3;clear hrun3
 have HX1:=LH hxs;clear hxs
 clear hv1 hvs hxl
 have d1:((i:Int) == (n:Int))=false:=by rw[beq_eq_false_iff_ne];omega
 have d2:decide ((c:Int)<(n:Int)+1)=false:=by rw[decide_eq_false_iff_not];omega
 go_enter Tryz.func91,Tryz.ntmps91
 go_wp2_with (simp only[hov])
 refine wp_region_any (by kernel_rfl) ?_
 change wpAny _ _ _ _ _ _ _ (World.drew _)
 refine q4i (fun _=>True) 9 ?_
 have HCC:True:=trivial
 refine nC 0 rfl (fun _ _ _ h=>h) HCC (fun w' hw'=>by go_simp;rfl) ?_
 refine nC 1 rfl (fun _ _ _ h=>h) HCC (fun w' hw'=>by go_simp;rfl) ?_
 refine nC 2 rfl (fun _ _ _ h=>h) HCC (fun w' hw'=>by go_simp;rfl) ?_
 refine nC 3 rfl (fun _ _ _ h=>h) HCC (fun w' hw'=>by go_simp;rfl) ?_
 refine nC 4 rfl (fun _ _ _ h=>h) HCC (fun w' hw'=>by go_simp;rfl) ?_
 refine nC 5 rfl (fun _ _ _ h=>h) HCC (fun w' hw'=>by go_simp;rfl) ?_
 refine nC 6 rfl (fun _ _ _ h=>h) HCC (fun w' hw'=>by go_simp;rfl) ?_
 refine nC 7 rfl (fun _ _ _ h=>h) HCC (fun w' hw'=>by go_simp;rfl) ?_
 refine nO 8 rfl (fun K hK=>?_)
 refine q22 (.tmp 73) (.tmp 76) 164 164 rfl (.slice (some ⟨g,(i+1)*2,none⟩) (n-i) (c-(i+1))) (.slice (some ⟨g,i*2,none⟩) (n+1-i) (c-i)) _ (by simp[Act.eval,Act.put]) (by simp[Act.eval,Act.put]) (HR2.out _) ?_
 go_simp
 refine hK _ _ (fun _=>HCC) ?_
 clear hK K
 refine ndone (by kernel_rfl) ?_ _
 clear HCC
 go_wp2_with (refine q1e rfl (.tmp 80) (.tmp 81) 164 164 rfl (.slice (some ⟨g,i*2,none⟩) (n+1-i) (c-i)) (.slice (some ⟨vb,0,none⟩) 1 vc) _ rfl rfl (HR3.out _) ?_)
 go_ret
 exact HF.out
theorem wins_grow (base g n c i vb vc:Nat) (xs vs:List Value) (w:World) (hrow:w.ownsRow base 166 2 (.slice (some ⟨g,0,none⟩) n c) n xs) (hi:i<n) (hroom:c<n+1) (hn:n≤100000) (hxs:∀ u∈xs,u.oneCell'=true) (hvs:vs.length=2) (hv1:∀ u∈vs,u.oneCell'=true)
  (hvb:Blk w vb 166 vs.toArray) (hb:base≤w.heap.size) :
  Calls Tryz.prog 91 #[.slice (some ⟨g,0,none⟩) n c,.int .i64 i,.slice (some ⟨vb,0,none⟩) 1 vc] w (q3s base n i (.slice (some ⟨g,0,none⟩) n c) vs xs w):=by
 obtain⟨r12,hs12⟩:=q0x 164 w_und q3b q3a w (some ⟨g,0,none⟩) n c i (by omega)
 have hc:=q2u hrow
 have hxl:=hrow.1
 obtain⟨i0,hi0,hz0,hsz0,hby0⟩:=info_parts w_info
 have hgl:g<w.heap.size:=(hrow.lt g rfl).2
 obtain⟨c',w1,hrun1,hown1,hf1,hz1⟩:=q8z (w:=w) 164 3 i0 _ .i64 .i64 w_und Tryz.underlying3 hi0 hz0 hsz0 rfl (by decide) (q3m hrow (i:=i) (by omega)) (k:=n+1-i) (by omega) (by omega) (by omega) (by rw[hby0];decide) (fun u hu=>hxs u (List.mem_of_mem_take hu)) hb
 rw[show i+(n+1-i)=n+1 by omega] at hrun1 hown1
 have hc':=(q2u hown1).1
 have hvb1:Blk w1 vb 166 vs.toArray:=hf1.blk hvb (fun h=>h)
 have hrow1:=hf1.own hrow (fun _ _ h=>h)
 have hvlt:=hvb.lt
 obtain⟨w2,hrun2,hown2,hf2⟩:=q1h (w:=w1) 164 164 166 w_und q9i hown1 (i:=i) (m:=1) (by omega) vs (by rw[hvs]) ⟨vb,0,none⟩ (fun j v hj=>by
   rw[Addr.add_lit,Nat.zero_add]
   exact(hvb1.cell j).trans (by simpa using hj)) hv1 (n+1-i) (c'-i) 1 vc (by show min _ _=_;omega)
 have hrow2:=hf2.own hrow1 (fun k hk e=>by
   have:g=k:=by simpa [Value.ownBlock] using hk
   omega)
 obtain⟨w3,hrun3,hown3,hf3⟩:=q1h (w:=w2.drew) 164 164 166 w_und q9i (show w2.drew.ownsRow base 166 2 (.slice (some ⟨w.heap.size,0,none⟩) (n+1) c') (n+1) _ from hown2) (i:=i+1) (m:=n-i) (by omega) (xs.drop (i*2))
  (by rw[List.length_drop,hxl,Nat.sub_mul]) ⟨g,i*2,none⟩ (fun j v hj=>by
   rw[Addr.add_lit]
   rw[List.getElem?_drop] at hj
   have hjl:i*2+j<n*2:=by rw[← hxl];exact(List.getElem?_eq_some_iff.1 hj).1
   show w2.cell? _=_
   exact(hrow2.cellAt _ hjl).trans hj) (fun u hu=>hxs u (List.mem_of_mem_drop hu)) (n-i) (c'-(i+1)) (n-i) (c-i) (by show min _ _=_;omega)
 rw[q61 hxl (by omega) (by rw[Array.length_toList,size_zeroCells];rfl) hvs] at hown3
 have hfw:Fr (fun k=>some k=Value.ownBlock (.slice (some ⟨g,0,none⟩) n c)) w w3:=(((hf1.trans' hf2 (fun k hk (e:k=w.heap.size)=>by omega)).drew).trans' hf3 (fun k hk (e:k=w.heap.size)=>by omega)).mono (fun k _ h=>h.elim)
 have hfin:q3s base n i (.slice (some ⟨g,0,none⟩) n c) vs xs w (.returned (.slice (some ⟨w.heap.size,0,none⟩) (n+1) c')) w3:=
  ⟨_,rfl,hown3,hfw,.inr ⟨_,rfl,Nat.le_refl _⟩⟩
 have hk1:(n:Int)+1-i=((n+1-i:Nat):Int):=by omega
 have s1:=q2x 164 w_und q3b q3a w g n c i (i:Int) rfl (by omega)
 have s2:=fun W=>q0s 164 w_und q3b q3a W w.heap.size (n+1) c' i (i:Int) rfl (by omega) (by omega)
 have s3:=fun W=>q0s 164 w_und q3b q3a W w.heap.size (n+1) c' (i+1) ((i:Int)+1) (by omega) (by omega) (by omega)
 rw[show n+1-(i+1)=n-i by omega] at s3
 have s4:=fun W=>q0s 164 w_und q3b q3a W g n c i (i:Int) rfl (by omega) (by omega)
 have HF:=LH hfin;clear hfin hown1 hown2 hown3 hf1 hf2 hf3 hrow hrow1 hrow2 hvb hvb1 hi0 hz0 hsz0 hby0 hfw hz1
 have hwi:IntKind.i64.wrap ((i:Int)+1)=(i:Int)+1:=IntWalk.i64_in _ (by omega)
 have hwn:IntKind.i64.wrap ((n:Int)+1)=(n:Int)+1:=IntWalk.i64_in _ (by omega)
 rw[← hk1] at hrun1
 have HR1:=LH hrun1;clear hrun1 hk1
 have HR2:=LH hrun2;clear hrun2
 have HR3:=LH hrun3;clear hrun3
 have HX1:=LH hxs;clear hxs
 clear hv1 hvs hxl
 have d1:((i:Int) == (n:Int))=false:=by rw[beq_eq_false_iff_ne];omega
 have d2:decide ((c:Int)<(n:Int)+1)=true:=by rw[decide_eq_true_eq];omega
 go_enter Tryz.func91,Tryz.ntmps91
 go_wp2_with (first|(refine q1j rfl (.tmp 34) (.tmp 39) 164 3 rfl (.slice (some ⟨g,0,none⟩) i c) (.int .i64 ((n:Int)+1-i)) _ rfl rfl (HR1.out _) ?_)|(refine q1e rfl (.tmp 43) (.tmp 44) 164 164 rfl (.slice (some ⟨w.heap.size,i*2,none⟩) (n+1-i) (c'-i)) (.slice (some ⟨vb,0,none⟩) 1 vc) _ rfl rfl (HR2.out _) ?_))
 refine wp_region_any (by kernel_rfl) ?_
 change wpAny _ _ _ _ _ _ _ (World.drew _)
 refine q4i (fun _=>True) 9 ?_
 have HCC:True:=trivial
 refine nC 0 rfl (fun _ _ _ h=>h) HCC (fun w' hw'=>by go_simp;rfl) ?_
 refine nC 1 rfl (fun _ _ _ h=>h) HCC (fun w' hw'=>by go_simp;rfl) ?_
 refine nC 2 rfl (fun _ _ _ h=>h) HCC (fun w' hw'=>by go_simp;rfl) ?_
 refine nC 3 rfl (fun _ _ _ h=>h) HCC (fun w' hw'=>by go_simp;rfl) ?_
 refine nC 4 rfl (fun _ _ _ h=>h) HCC (fun w' hw'=>by go_simp;rfl) ?_
 refine nC 5 rfl (fun _ _ _ h=>h) HCC (fun w' hw'=>by go_simp;rfl) ?_
 refine nC 6 rfl (fun _ _ _ h=>h) HCC (fun w' hw'=>by go_simp;rfl) ?_
 refine nC 7 rfl (fun _ _ _ h=>h) HCC (fun w' hw'=>by go_simp;rfl) ?_
 refine nO 8 rfl (fun K hK=>?_)
 refine q22 (.tmp 50) (.tmp 53) 164 164 rfl (.slice (some ⟨w.heap.size,(i+1)*2,none⟩) (n-i) (c'-(i+1))) (.slice (some ⟨g,i*2,none⟩) (n-i) (c-i)) _ (by simp[Act.eval,Act.put]) (by simp[Act.eval,Act.put]) (HR3.out _) ?_
 go_simp
 refine hK _ _ (fun _=>HCC) ?_
 clear hK K
 refine ndone (by kernel_rfl) ?_ _
 clear HCC
 go_wp2_with fail
 go_ret
 exact HF.out
theorem wins_any (base n i vb vc:Nat) (V:Value) (xs vs:List Value) (w:World) (hrow:w.ownsRow base 166 2 V n xs) (hi:i≤n) (hn:n≤100000) (hxs:∀ u∈xs,u.oneCell'=true) (hvs:vs.length=2) (hv1:∀ u∈vs,u.oneCell'=true)
  (hvb:Blk w vb 166 vs.toArray) (hne:V.ownBlock≠some vb) (hb:base≤w.heap.size) :
  Calls Tryz.prog 91 #[V,.int .i64 i,.slice (some ⟨vb,0,none⟩) 1 vc] w (q3s base n i V vs xs w):=by
 by_cases e:i=n
 ·subst e
  exact wins_end base i vb vc V xs vs w hrow hn hvs hv1 hvb hb
 ·rcases hrow.2 with ⟨rfl,h0⟩|⟨g,c,cur,rfl,_,_,hnc,_⟩
  ·omega
  ·by_cases h:n+1≤c
   ·exact wins_shift base g n c i vb vc xs vs w hrow (by omega) h hn hxs hvs hv1 hvb (fun e=>hne (by rw[e];rfl)) hb
   ·exact wins_grow base g n c i vb vc xs vs w hrow (by omega) (by omega) hn hxs hvs hv1 hvb hb
def WCmpW (F:Nat) (cf:(Int×Int)→Int) (t:Int) (w:World):Prop:=
 ∀ (W:World) (x:(Int×Int)),Below w.heap.size w W→(True)→Calls Tryz.prog F #[wtV x,.int .i64 t] W fun e w'=>e=.returned (.int .i64 (cf x))∧Below W.heap.size W w'
def WBsRel (cf:(Int×Int)→Int) (L:List (Int×Int)) (n:Nat) (w:World) (u v:Value) (wr:World):Prop:=
 ∃ i j:Nat,u=.int .i64 i∧v=.int .i64 j∧i≤j∧j≤n∧(∀ k (h:k<L.length),k<i→cf L[k]<0)∧(∀ k (h:k<L.length),j≤k→0≤cf L[k])∧Below w.heap.size w wr
def WBsPost (cf:(Int×Int)→Int) (L:List (Int×Int)) (n:Nat) (w:World) (e:Ending) (w':World):Prop:=
 ∃ (i:Nat) (f:Bool),e=.returned (.tuple #[.int .i64 i,.bool f])∧i≤n∧(∀ k (h:k<L.length),k<i→cf L[k]<0)∧(∀ k (h:k<L.length),i≤k→0≤cf L[k])∧(f=true↔∃ h:i<L.length,cf L[i]=0)∧Below w.heap.size w w'
theorem wsearch_any (F:Nat) (cf:(Int×Int)→Int) (A:Option Addr) (n k:Nat) (L:List (Int×Int)) (t:Int) (w:World) (eg:∀ args w,(callFunc F args).run Tryz.prog w=.ok (.enter F args) w)
  (hp:WCmpW F cf t w) (hr:Rd w w.heap.size 2 A n (L.flatMap q0a)) (hl:L.length=n) (hn:n≤100000) (hok:∀ x∈L,True)
  (hmono:∀ (i j:Nat) (hi:i<L.length) (hj:j<L.length),i≤j→cf L[i]≤cf L[j]) :
  Calls Tryz.prog 89 #[.slice A n k,.int .i64 t,.func (.func F) #[] #[]] w (WBsPost cf L n w):=by
 have HR:=LH hr;clear hr
 have HP:=LH hp;clear hp
 have HM:=LH hmono;clear hmono
 have HOK:=LH hok;clear hok
 have HL:=LH hl;clear hl
 go_enter Tryz.func89,Tryz.ntmps89
 go_wp2_with fail
 go_loopw [9,10] (WBsRel cf L n w) (fun u v _=>(intOf v).toNat-(intOf u).toNat)
 case atStart=>exact⟨0,n,rfl,rfl,Nat.zero_le _,Nat.le_refl _,fun k h h2=>absurd h2 (by omega),fun k h h2=>absurd h2 (by have:=HL.out;omega),Below.refl _ _⟩
 case round=>
  obtain⟨i,j,rfl,rfl,hij,hjn,hlo,hhi,hbw⟩:=hrel
  have HBW:=LH hbw
  have HLO:=LH hlo;clear hlo
  have HHI:=LH hhi;clear hhi
  by_cases hlt:(i:Int)<j
  ·have hmi:i≤(i+j) / 2:=by omega
   have hmj:(i+j) / 2<j:=by omega
   obtain⟨g',o',x,rfl,hga,hx,h0,h1⟩:=(HR.out.below hbw).cells2 HL.out (j:=(i+j) / 2) (by omega)
   have hgw:g'<wr.heap.size:=Nat.lt_of_lt_of_le hga hbw.size
   have hxok:=HOK.out x (List.mem_of_getElem? hx)
   have hcall:=HP.out wr x hbw hxok
   have HC:=LH hcall;clear hcall
   have HX:=LH hx;clear hx hbw
   go_wp2_with fail
   refine HC.out.mono ?_
   rintro e w2 ⟨rfl,hb2⟩
   have hbw2:=HBW.out.trans (hb2.mono HBW.out.size)
   have HB2:=LH hbw2;clear hbw2 hb2 HC
   obtain⟨hml,hxe⟩:=List.getElem?_eq_some_iff.1 HX.out
   have HXE:=LH hxe;clear hxe
   by_cases hc:cf x<0
   ·have d1:decide (cf x<0)=true:=decide_eq_true hc
    have hrel2:WBsRel cf L n w (.int .i64 (((i+j) / 2+1:Nat):Int)) (.int .i64 j) w2:=by
     refine⟨(i+j) / 2+1,j,rfl,rfl,by omega,hjn,fun q hq h2=>?_,HHI.out,HB2.out⟩
     have:=HM.out q ((i+j) / 2) hq hml (by omega)
     rw[HXE.out] at this
     omega
    have HR2:=LH hrel2;clear hrel2 hc
    go_wp2_with fail
    go_roundw
    case rel=>exact HR2.out
    case measure=>simp[intOf];omega
   ·have d1:decide (cf x<0)=false:=decide_eq_false hc
    have hrel2:WBsRel cf L n w (.int .i64 i) (.int .i64 (((i+j) / 2:Nat):Int)) w2:=by
     refine⟨i,(i+j) / 2,rfl,rfl,by omega,by omega,HLO.out,fun q hq h2=>?_,HB2.out⟩
     have:=HM.out ((i+j) / 2) q hml hq h2
     rw[HXE.out] at this
     omega
    have HR2:=LH hrel2;clear hrel2 hc
    go_wp2_with fail
    go_roundw
    case rel=>exact HR2.out
    case measure=>simp[intOf];omega
  ·obtain rfl:j=i:=by omega
   by_cases hin:(j:Int)<n
   ·obtain⟨g',o',x,rfl,hga,hx,h0,h1⟩:=(HR.out.below hbw).cells2 HL.out (j:=j) (by omega)
    have hgw:g'<wr.heap.size:=Nat.lt_of_lt_of_le hga hbw.size
    have hcall:=HP.out wr x hbw (HOK.out x (List.mem_of_getElem? hx))
    have HC:=LH hcall;clear hcall
    have HX:=LH hx;clear hx hbw
    go_wp2_with fail
    refine HC.out.mono ?_
    rintro e w2 ⟨rfl,hb2⟩
    have hbw2:=HBW.out.trans (hb2.mono HBW.out.size)
    have HB2:=LH hbw2;clear hbw2 hb2 HC
    have hfin:WBsPost cf L n w (.returned (.tuple #[.int .i64 j,.bool (cf x == 0)])) w2:=by
     obtain⟨hml,hxe⟩:=List.getElem?_eq_some_iff.1 HX.out
     refine⟨j,_,rfl,by omega,HLO.out,HHI.out,?_,HB2.out⟩
     rw[beq_iff_eq]
     exact⟨fun h=>⟨hml,by rw[hxe];exact h⟩,fun⟨_,h⟩=>by rw[hxe] at h;exact h⟩
    have HF:=LH hfin;clear hfin
    go_wp2_with fail
    go_ret2
    exact HF.out
   ·have hfin:WBsPost cf L n w (.returned (.tuple #[.int .i64 j,.bool false])) wr:=
     ⟨j,false,rfl,by omega,HLO.out,HHI.out,⟨fun h=>(by cases h),fun⟨h,_⟩=>absurd h (by have:=HL.out;omega)⟩,HBW.out⟩
    have HF:=LH hfin;clear hfin hbw
    go_wp2_with fail
    go_ret2
    exact HF.out
theorem q1p {B:Nat} {w w':World} (h:Below B w w'):Fr (fun k=>B≤k) w w':=⟨h.os,h.tape,h.output,h.size,fun k _ hn=>h.block k (by omega)⟩
def erV (k:Int):Value:=if k=0 then .nilIface else .iface 79 (.int .i64 k)
theorem at_any (base n g off:Nat) (ty:TypeId) (cs:Array Value) (mb:Option Nat) (loc:Sx→KLoc) (T:Tb) (s:ByteArray) (w:World) (hI:TabI w base n g off ty cs mb loc T) (hs:(sx s).length≤20) (hn:n<1000000) :
  Calls Tryz.prog 85 #[.pointer (some ⟨g,off,none⟩),.string s] w (AtPost base n g off ty cs mb loc T (sx s) w):=by
 cases hT:T (sx s) with
 | none=>exact at_new base n g off ty cs mb loc T s w hI hT hs hn
 | some k=>
  rcases mb with _|b
  ·have:=hI.map (sx s)
   rw[hT] at this;cases this
  ·exact at_there base n g off b ty cs loc T s k w hI hT hs
def TFr (g:Nat) (mb:Option Nat) (loc:Sx→KLoc) (T:Tb) (k:Nat):Prop:=k=g∨TFoot mb loc T k
theorem sx_size (s:ByteArray):((s.size:Nat):Int)=(sx s).length:=by rw[q25]
theorem TabI.turn {w w':World} {base n n' g off:Nat} {ty:TypeId} {cs:Array Value} {mb:Option Nat} {loc:Sx→KLoc} {T:Tb} (h:TabI w base n g off ty cs mb loc T) {x:Sx} {k k':Kx} {L':KLoc} (hx:T x=some k) (hn:n≤n')
  (hf:Fr (fun b=>KFoot (loc x) b) w w') (hk:KeyI w' base n' L' k') (hg:L'.g=(loc x).g) (hh:L'.hb=(loc x).hb) (hV:∀ b,L'.V.ownBlock=some b→(loc x).V.ownBlock=some b∨w.heap.size≤b) :
  TabI w' base n' g off ty cs mb (locP loc x L') (putT T x (some k')):=by
 have hfoot:∀ b,KFoot L' b→KFoot (loc x) b∨w.heap.size≤b:=fun b hb=>by
  rcases hb with hb|hb|hb
  ·exact .inl (.inl (by rw[hb,hg]))
  ·exact .inl (.inr (.inl (by rw[hb,hh])))
  ·rcases hV b hb with h|h
   ·exact .inl (.inr (.inr h))
   ·exact .inr h
 have hput:∀ y,putT T x (some k') y≠none→y=x∨(y≠x∧T y≠none):=fun y hy=>by
  unfold putT at hy
  split at hy
  ·rename_i e;exact .inl e
  ·rename_i e;exact .inr ⟨e,hy⟩
 have hN:∀ y,y≠x→locP loc x L' y=loc y:=fun y e=>by unfold locP;rw[if_neg e]
 have hS:locP loc x L' x=L':=by unfold locP;rw[if_pos rfl]
 have hxn:T x≠none:=by rw[hx];simp
 have hap:∀ y,y≠x→T y≠none→∀ b,KFoot (loc y) b→¬KFoot (loc x) b:=fun y e hy b hb=>h.apart y x e hy hxn b hb
 refine⟨hf.blk h.blk (fun hb=>h.key_ne hx hb rfl),h.c0,?_,fun y ky hy=>?_,fun y z hyz hy hz b hb=>?_,fun y hy=>?_,h.ne,h.mlo,fun y hy=>?_,Nat.le_trans h.bg hf.size⟩
 ·have hm:=h.map
  rcases hmb:mb with _|c
  ·rw[hmb] at hm
   exact absurd (hm x) hxn
  ·rw[hmb] at hm
   have e:mapOf (locP loc x L') (putT T x (some k'))=mapOf loc T:=by
    funext t
    unfold mapOf
    by_cases e:sx t=x
    ·rw[e,hS,hg];unfold putT;rw[if_pos rfl,hx];rfl
    ·rw[hN _ e];unfold putT;rw[if_neg e]
   show MapG kS w' c n' _
   rw[e]
   exact(MapG.fr (C:=kS) hm hf (fun hb=>h.key_map hx hmb hb rfl)).mono hn
 ·unfold putT at hy
  split at hy
  ·rename_i e;subst e;injection hy with hy;rw[← hy,hS];exact hk
  ·rename_i e;rw[hN y e];exact((h.keys y ky hy).fr hf (fun b hb=>hap y e (by rw[hy];simp) b hb)).mono hn
 ·rcases hput y hy with rfl|⟨e1,h1⟩
  ·rcases hput z hz with rfl|⟨e2,h2⟩
   ·exact absurd rfl hyz
   ·rw[hN z e2];rw[hS] at hb
    intro h3
    rcases hfoot b hb with h4|h4
    ·exact hap z e2 h2 b h3 h4
    ·obtain⟨kz,hkz⟩:=Option.ne_none_iff_exists'.1 h2
     have:=((h.keys z kz hkz).foot_lt h3).2;omega
  ·rw[hN y e1] at hb
   rcases hput z hz with rfl|⟨e2,h2⟩
   ·rw[hS]
    intro h3
    rcases hfoot b h3 with h4|h4
    ·exact hap y e1 h1 b hb h4
    ·obtain⟨ky,hky⟩:=Option.ne_none_iff_exists'.1 h1
     have:=((h.keys y ky hky).foot_lt hb).2;omega
   ·rw[hN z e2];exact h.apart y z hyz h1 h2 b hb
 ·rcases hput y hy with rfl|⟨_,h1⟩
  ·exact h.small y hxn
  ·exact h.small y h1
 ·rcases hput y hy with rfl|⟨e1,h1⟩
  ·rw[hS,hh];exact h.mdis y hxn
  ·rw[hN y e1];exact h.mdis y h1
def cfW (tx:Int) (x:Int×Int):Int:=if x.1<tx then -1 else 1
theorem lock2_any (tx:Int) (w:World):WCmpW 90 (cfW tx) tx w:=by
 intro W x hW _
 have hbl:∀ o,Below W.heap.size W (W.alloc o):=fun o=>(Below.refl _ _).alloc (Nat.le_refl _) _
 have HBL:=LH hbl;clear hbl
 unfold wtV
 by_cases h1:x.1<tx
 ·have d1:decide (x.1<tx)=true:=decide_eq_true h1
  have HG:=LH (show cfW tx x = -1 by unfold cfW;rw[if_pos h1]);clear h1
  go_enter Tryz.func90,Tryz.ntmps90
  go_wp2_with fail
  go_ret
  rw[HG.out]
  exact⟨rfl,HBL.out _⟩
 ·have d1:decide (x.1<tx)=false:=decide_eq_false h1
  have HG:=LH (show cfW tx x=1 by unfold cfW;rw[if_neg h1]);clear h1
  go_enter Tryz.func90,Tryz.ntmps90
  go_wp2_with fail
  go_ret
  rw[HG.out]
  exact⟨rfl,HBL.out _⟩
theorem place_eq {tx:Int} : ∀ {L:List (Int×Int)} {i:Nat},i≤L.length→(∀ k (h:k<L.length),k<i→cfW tx L[k]<0)→(∀ k (h:k<L.length),i≤k→0≤cfW tx L[k])→(L.takeWhile (fun x=>decide (x.1<tx))).length=i
 | [],i,hi,_,_=>by simp at hi;simp[hi]
 | x::L,0,_,_,h2=>by
  have:=h2 0 (by simp) (Nat.le_refl _)
  simp only[List.getElem_cons_zero,cfW] at this
  have h3:¬x.1<tx:=fun h=>by rw[if_pos h] at this;omega
  simp[h3]
 | x::L,i+1,hi,h1,h2=>by
  have:=h1 0 (by simp) (by omega)
  simp only[List.getElem_cons_zero,cfW] at this
  have h3:x.1<tx:=by
   by_cases h:x.1<tx
   ·exact h
   ·rw[if_neg h] at this;omega
  have ih:=place_eq (tx:=tx) (L:=L) (i:=i) (by simpa using hi) (fun k h hk=>by have:=h1 (k+1) (by simpa using h) (by omega);rw[List.getElem_cons_succ] at this;exact this) (fun k h hk=>by have:=h2 (k+1) (by simpa using h) (by omega);rw[List.getElem_cons_succ] at this;exact this)
  simp[h3,ih]
theorem flat2_take (L:List (Int×Int)) (i:Nat):(L.flatMap q0a).take (i*2)=(L.take i).flatMap q0a:=by
 induction L generalizing i with
 | nil=>simp
 | cons x L ih=>
  cases i with
  | zero=>simp
  | succ i=>rw[show(i+1)*2=i*2+2 by omega,List.flatMap_cons,List.take_succ_cons,List.flatMap_cons,← ih];simp[q0a]
theorem flat2_drop (L:List (Int×Int)) (i:Nat):(L.flatMap q0a).drop (i*2)=(L.drop i).flatMap q0a:=by
 induction L generalizing i with
 | nil=>simp
 | cons x L ih=>
  cases i with
  | zero=>simp
  | succ i=>rw[show(i+1)*2=i*2+2 by omega,List.flatMap_cons,List.drop_succ_cons,← ih];simp[q0a]
theorem putIn_ins {tx mode:Int} {L:List (Int×Int)} {i:Nat} (hi:(L.takeWhile (fun x=>decide (x.1<tx))).length=i):putIn 2 i (q0a (tx,mode)) (L.flatMap q0a)=(insW L (tx,mode)).flatMap q0a:=by
 unfold putIn insW
 rw[flat2_take,flat2_drop,List.flatMap_append,List.flatMap_cons]
 have h1:=List.takeWhile_append_dropWhile (p:=fun x:Int×Int=>decide (x.1<tx)) (l:=L)
 have ht:L.take i=L.takeWhile (fun x=>decide (x.1<tx)):=by
  conv=>lhs;rw[← h1]
  rw[← hi,List.take_left]
 have hd:L.drop i=L.dropWhile (fun x=>decide (x.1<tx)):=by
  conv=>lhs;rw[← h1]
  rw[← hi,List.drop_left]
 rw[ht,hd,List.append_assoc]
theorem cfW_mono {tx:Int} {L:List (Int×Int)} (hs:L.Pairwise (·.1 < ·.1)):∀ (i j:Nat) (hi:i<L.length) (hj:j<L.length),i≤j→cfW tx L[i]≤cfW tx L[j]:=fun i j hi hj hij=>by
 have:L[i].1≤L[j].1:=by
  rcases Nat.lt_or_ge i j with h|h
  ·have:=List.pairwise_iff_getElem.1 hs i j hi hj h;omega
  ·obtain rfl:i=j:=by omega
   omega
 unfold cfW
 split <;> split <;> omega
theorem sx_mk (x:Sx):sx ⟨x.toArray⟩=x:=by simp[sx]
theorem q3t (s:ByteArray):s.toList=sx s:=by
 obtain⟨⟨l⟩⟩:=s
 show(ByteArray.mk (List.toArray l)).toList=l
 simp
theorem enters_v {P:Program} {f:FuncId} {fn:Func} {c:Code} (hf:P.funcs[f]? = some fn) (hname:(fn.name == "runtime.NumGoroutine")=false) (hb:fn.body=some c):∀ (args:Array Value) (w:World),(callFunc f args).run P w=.ok (.enter f args) w:=by
 intro args w
 have h1:fn.name ≠ "runtime.NumGoroutine" := by simpa using hname
 simp[callFunc,hf,h1,hb,mark]
def cfV (t:Int) (x:Vx):Int:=wrap64 (x.t-t)
theorem cmpPut_any (t:Int) (x:Vx) (w:World):Calls Tryz.prog 107 #[vxV x,.int .i64 t] w fun e w'=>e=.returned (.int .i64 (cfV t x))∧Below w.heap.size w w':=by
 have hb:Below w.heap.size w (w.alloc (.cells #[.int .i64 x.t,.string ⟨x.v.toArray⟩,.bool x.g] 145)):=(Below.refl _ _).alloc (Nat.le_refl _) _
 have HB:=LH hb;clear hb
 unfold vxV cfV
 go_enter Tryz.func107,Tryz.ntmps107
 go_wp2_with fail
 go_ret
 exact⟨rfl,HB.out⟩
theorem cmpGet_any (t:Int) (x:Vx) (w:World):Calls Tryz.prog 73 #[vxV x,.int .i64 t] w fun e w'=>e=.returned (.int .i64 (cfV t x))∧Below w.heap.size w w':=by
 have hb:Below w.heap.size w (w.alloc (.cells #[.int .i64 x.t,.string ⟨x.v.toArray⟩,.bool x.g] 145)):=(Below.refl _ _).alloc (Nat.le_refl _) _
 have HB:=LH hb;clear hb
 unfold vxV cfV
 go_enter Tryz.func73,Tryz.ntmps73
 go_wp2_with fail
 go_ret
 exact⟨rfl,HB.out⟩
theorem less_len:∀ {L:List Vx} {t:Int} {i:Nat},i≤L.length→(∀ k (h:k<L.length),k<i→L[k].t<t)→(∀ k (h:k<L.length),i≤k→t≤L[k].t)→(lessV L t).length=i
 | [],t,i,hi,_,_=>by simp at hi;subst hi;rfl
 | x::L,t,0,hi,h1,h2=>by
  have:=h2 0 (by simp) (Nat.le_refl _)
  unfold lessV
  rw[List.takeWhile_cons_of_neg (by simpa using this)]
  rfl
 | x::L,t,i+1,hi,h1,h2=>by
  have:=h1 0 (by simp) (by omega)
  have ih:=less_len (L:=L) (t:=t) (i:=i) (by simpa using hi) (fun k h hk=>by have:=h1 (k+1) (by simpa using h) (by omega);simpa using this) (fun k h hk=>by have:=h2 (k+1) (by simpa using h) (by omega);simpa using this)
  unfold lessV at *
  rw[List.takeWhile_cons_of_pos (by simpa using this),List.length_cons,ih]
theorem has_at {L:List Vx} {t:Int} {i:Nat} (hs:q2o L) (h1:∀ k (h:k<L.length),k<i→L[k].t<t) (h2:∀ k (h:k<L.length),i≤k→t≤L[k].t):hasV L t=true↔∃ h:i<L.length,L[i].t=t:=by
 unfold hasV
 rw[List.any_eq_true]
 constructor
 ·rintro ⟨x,hx,hp⟩
  have hp:x.t=t:=of_decide_eq_true hp
  obtain⟨k,hk,rfl⟩:=List.getElem_of_mem hx
  have hik:i≤k:=Nat.le_of_not_lt (fun h=>by have:=h1 k hk h;omega)
  refine⟨by omega,?_⟩
  have h3:=h2 i (by omega) (Nat.le_refl _)
  rcases Nat.lt_or_eq_of_le hik with h|rfl
  ·have:=List.pairwise_iff_getElem.1 hs i k (by omega) hk h
   omega
  ·exact hp
 ·rintro ⟨h,e⟩
  exact⟨L[i],List.getElem_mem h,by simpa using e⟩
def TmOk (l:List Vx):Prop:=∀ v∈l,0≤v.t∧v.t≤1099511627776
theorem cfV_eq {t:Int} {x:Vx} (h0:0≤x.t) (h1:x.t≤1099511627776) (ht:0≤t) (htm:t<9223372036854775808):cfV t x=x.t-t:=IntWalk.wrap64_in _ ⟨by omega,by omega⟩
theorem q8y (F:Nat) (base:Nat) (V:Value) (l:List Vx) (t:Int) (w:World) (eg:∀ args w,(callFunc F args).run Tryz.prog w=.ok (.enter F args) w) (hF:∀ W x,Calls Tryz.prog F #[vxV x,.int .i64 t] W fun e w'=>e=.returned (.int .i64 (cfV t x))∧Below W.heap.size W w')
  (hV:VRow w base V l) (hs:q2o l) (hl:l.length≤100000) (hok:TmOk l) (ht:0≤t) (htm:t<9223372036854775808) :
  Calls Tryz.prog 72 #[V,.int .i64 t,.func (.func F) #[] #[]] w fun e w'=>e=.returned (.tuple #[.int .i64 ((lessV l t).length:Nat),.bool (hasV l t)])∧Below w.heap.size w w':=by
 obtain⟨A,c,rfl,hc⟩:=hV.form
 have he:∀ k (h:k<l.length),cfV t l[k]=l[k].t-t:=fun k h=>by
  have:=hok _ (List.getElem_mem h)
  exact cfV_eq this.1 this.2 ht htm
 refine(vsearch_any F (cfV t) A l.length c l t w eg (fun W x _ _=>hF W x) hV.rd rfl hl (fun _ _=>trivial) (fun i j hi hj hij=>?_)).mono ?_
 ·rw[he i hi,he j hj]
  rcases Nat.lt_or_eq_of_le hij with h|rfl
  ·have:=List.pairwise_iff_getElem.1 hs i j hi hj h;omega
  ·omega
 ·rintro e w' ⟨i,f,rfl,hi,h1,h2,hf,hb⟩
  have h1':∀ k (h:k<l.length),k<i→l[k].t<t:=fun k h hk=>by have:=h1 k h hk;rw[he k h] at this;omega
  have h2':∀ k (h:k<l.length),i≤k→t≤l[k].t:=fun k h hk=>by have:=h2 k h hk;rw[he k h] at this;omega
  refine⟨?_,hb⟩
  rw[less_len hi h1' h2']
  have:f=hasV l t:=by
   rw[Bool.eq_iff_iff,hf,has_at hs h1' h2']
   exact⟨fun⟨h,e⟩=>⟨h,by rw[he i h] at e;omega⟩,fun⟨h,e⟩=>⟨h,by rw[he i h];omega⟩⟩
  rw[this]
noncomputable abbrev kV:KeyC Tryz.prog 9 ByteArray:=keyS Tryz.underlying9
def vmap (loc:Sx→Value) (K:Kp):ByteArray→Option Value:=fun s=>if (K (sx s)).isEmpty then none else some (loc (sx s))
def StM (w:World) (n:Nat) (mb:Option Nat) (loc:Sx→Value) (K:Kp):Prop:=match mb with
 | none=>∀ x,K x=[]
 | some b=>MapG kV w b n (vmap loc K)
structure StI (w:World) (base n g off:Nat) (ty:TypeId) (cs:Array Value) (mb:Option Nat) (loc:Sx→Value) (K:Kp) (low:Int):Prop where
 blk:Blk w g ty cs
 c0:cs[off]? = some (.map mb)
 c1:cs[off+1]? = some (.int .i64 low)
 ne:ty≠145
 map:StM w n mb loc K
 rows:∀ x,K x≠[]→VRow w base (loc x) (K x)
 apart:∀ x y,x≠y→K x≠[]→K y≠[]→∀ b,(loc x).ownBlock=some b→(loc y).ownBlock≠some b
 small:∀ x,K x≠[]→x.length≤20
 times:∀ x,TmOk (K x)
 sorted:∀ x,q2o (K x)
 len:∀ x,(K x).length≤n
 low0:0≤low
 lowm:low≤1099511627776
 mlo:∀ b,mb=some b→base≤b
 lo:base≤g
def SFoot (mb:Option Nat) (loc:Sx→Value) (K:Kp) (b:Nat):Prop:=mb=some b∨∃ x,K x≠[]∧(loc x).ownBlock=some b
def SFr (g:Nat) (mb:Option Nat) (loc:Sx→Value) (K:Kp) (b:Nat):Prop:=b=g∨SFoot mb loc K b
section
variable {w w':World} {base n g off:Nat} {ty:TypeId} {cs:Array Value} {mb:Option Nat} {loc:Sx→Value} {K:Kp} {low:Int}
theorem StM.fr {S:Nat→Prop} (h:StM w n mb loc K) (hf:Fr S w w') (hn:∀ b,mb=some b→¬S b):StM w' n mb loc K:=by
 unfold StM at h ⊢
 rcases mb with _|b
 ·exact h
 ·exact MapG.fr h hf (hn b rfl)
theorem StI.fr {S:Nat→Prop} (h:StI w base n g off ty cs mb loc K low) (hf:Fr S w w') (hn:∀ b,SFr g mb loc K b→¬S b):StI w' base n g off ty cs mb loc K low:=
 ⟨hf.blk h.blk (hn g (.inl rfl)),h.c0,h.c1,h.ne,h.map.fr hf (fun b hb=>hn b (.inr (.inl hb))),fun x hx=>(h.rows x hx).fr hf (fun b hb=>hn b (.inr (.inr ⟨x,hx,hb⟩))),h.apart,h.small,h.times,h.sorted,h.len,h.low0,h.lowm,h.mlo,h.lo⟩
theorem StI.foot_lt (h:StI w base n g off ty cs mb loc K low) {b:Nat} (hb:SFr g mb loc K b):base≤b∧b<w.heap.size:=by
 rcases hb with rfl|hb|⟨x,hx,hb⟩
 ·exact⟨h.lo,h.blk.lt⟩
 ·refine⟨h.mlo b hb,?_⟩
  have:=h.map
  rw[hb] at this
  exact MapG.lt (C:=kV) this
 ·exact⟨((h.rows x hx).block hb).1,((h.rows x hx).block hb).2.1⟩
theorem StI.tall (h:StI w base n g off ty cs mb loc K low) (hb:Below w.heap.size w w'):StI w' base n g off ty cs mb loc K low:=
 h.fr (S:=fun b=>w.heap.size≤b) ⟨hb.os,hb.tape,hb.output,hb.size,fun i _ hn=>hb.block i (by omega)⟩ (fun b hb2 h2=>by have:=(h.foot_lt hb2).2;omega)
theorem StI.mono (h:StI w base n g off ty cs mb loc K low) {n':Nat} (hn:n≤n'):StI w' base n' g off ty cs mb loc K low∨StI w base n' g off ty cs mb loc K low:=by
 refine .inr ⟨h.blk,h.c0,h.c1,h.ne,?_,h.rows,h.apart,h.small,h.times,h.sorted,fun x=>Nat.le_trans (h.len x) hn,h.low0,h.lowm,h.mlo,h.lo⟩
 have:=h.map
 unfold StM at this ⊢
 rcases mb with _|b
 ·exact this
 ·exact MapG.mono this hn
def stV (loc:Sx→Value) (K:Kp) (x:Sx):Value:=if (K x).isEmpty then .slice none 0 0 else loc x
theorem StI.row (h:StI w base n g off ty cs mb loc K low) (x:Sx):VRow w base (stV loc K x) (K x):=by
 unfold stV
 rcases e:K x with _|⟨a,l⟩
 ·exact .inl (World.ownsRow_nil _ _ _ _)
 ·rw[if_neg (by simp),← e]
  exact h.rows x (by rw[e];simp)
theorem look_nilV (w:World) (s:ByteArray):(Instr.lookup 101 (.map none) (.string s) false).run Tryz.prog w=.ok (.slice none 0 0) w:=by kernel_rfl
theorem StI.look (h:StI w base n g off ty cs mb loc K low) {s:ByteArray} (hs:s.size≤maxLen):(Instr.lookup 101 (.map mb) (.string s) false).run Tryz.prog w=.ok (stV loc K (sx s)) w:=by
 have hm:=h.map
 unfold StM at hm
 rcases mb with _|b
 ·rw[look_nilV]
  unfold stV
  rw[hm (sx s)]
  rfl
 ·have hz:(zeroValue 142).run Tryz.prog w=.ok (.slice none 0 0) w:=by kernel_rfl
  have:=(MapG.look (C:=kV) hm Tryz.underlying101 hz (x:=s) hs).2
  rw[show kV.val s=Value.string s from rfl] at this
  rw[this]
  unfold vmap stV
  cases (K (sx s)).isEmpty <;> rfl
end
def q8f (r:Sx×Bool) (w:World) (e:Ending) (w':World):Prop:=e=.returned (.tuple #[.string ⟨r.1.toArray⟩,.bool r.2,.nilIface])∧Below w.heap.size w w'
theorem get_any (base n g off:Nat) (ty:TypeId) (cs:Array Value) (mb:Option Nat) (loc:Sx→Value) (K:Kp) (low:Int) (s:ByteArray) (t:Int) (w:World) (hI:StI w base n g off ty cs mb loc K low) (ht:¬t<low) (htm:t<9223372036854775808) (hs:s.size≤maxLen) (hn:n≤100000) :
  Calls Tryz.prog 42 #[.pointer (some ⟨g,off,none⟩),.string s,.int .i64 t] w (q8f (tellV (getV (K (sx s)) t)) w):=by
 have c0:=(hI.blk.cell off).trans hI.c0
 have c1:=(hI.blk.cell (off+1)).trans hI.c1
 have hgl:=hI.blk.lt
 have hlk:=hI.look hs
 have hrow:=hI.row (sx s)
 have hsr:=hI.sorted (sx s)
 have hlen:=Nat.le_trans (hI.len (sx s)) hn
 have hse:=q8y 73 base _ (K (sx s)) t w (enters_v Tryz.func73 (by kernel_rfl) rfl) (fun W x=>cmpGet_any t x W) hrow hsr hlen (hI.times _) (by have:=hI.low0;omega) htm
 have d1:decide (t<low)=false:=decide_eq_false ht
 obtain⟨A,c,hV,hc⟩:=hrow.form
 rw[hV] at hlk hse hrow
 generalize K (sx s)=l at *
 have hll:(lessV l t).length≤l.length:=(List.takeWhile_prefix _).length_le
 have HSE:=LH hse;clear hse
 have HRD:=LH hrow.rd;clear hrow hI hV
 have HSR:=LH hsr;clear hsr
 clear ht
 go_enter Tryz.func42,Tryz.ntmps42
 go_wp2_with fail
 refine HSE.out.mono ?_
 rintro e w2 ⟨rfl,hb2⟩
 have HB2:=LH hb2;clear hb2 HSE hlk c0 c1 hgl
 rcases hh:hasV l t with _|_
 ·obtain⟨q0,q1⟩:=getV_other hh
  rcases hm:(lessV l t).length with _|m
  ·have HV:=LH (show q8f (tellV (getV l t)) w (.returned (.tuple #[.string ⟨#[]⟩,.bool false,.nilIface])) w2 by rw[q0 hm];exact⟨rfl,HB2.out⟩)
   clear q0 q1 hm hll
   go_wp2_with fail
   go_ret3
   exact HV.out
  ·obtain⟨q2,q3⟩:=q1 (by omega)
   rw[hm] at q2 q3 hll
   simp only[Nat.add_sub_cancel] at q2 q3
   obtain⟨g',o',a,rfl,hga,hx,h0,h1,h2⟩:=(HRD.out.below HB2.out).cellsV rfl (j:=m) (by omega)
   have hgw:g'<w2.heap.size:=Nat.lt_of_lt_of_le hga HB2.out.size
   rw[hx] at q2
   have dk:decide (((m:Nat):Int)<0)=false:=decide_eq_false (by omega)
   rcases hg:a.g with _|_
   ·have HV:=LH (show q8f (tellV (getV l t)) w (.returned (.tuple #[.string ⟨a.v.toArray⟩,.bool true,.nilIface])) w2 by rw[q2];unfold tellV;simp only[hg];exact⟨rfl,HB2.out⟩)
    rw[hg] at h2
    clear q0 q1 q2 hm hx hg
    go_wp2_with fail
    go_ret3
    exact HV.out
   ·have HV:=LH (show q8f (tellV (getV l t)) w (.returned (.tuple #[.string ⟨#[]⟩,.bool false,.nilIface])) w2 by rw[q2];unfold tellV;simp only[hg];exact⟨rfl,HB2.out⟩)
    rw[hg] at h2
    clear q0 q1 q2 hm hx hg
    go_wp2_with fail
    go_ret3
    exact HV.out
 ·obtain⟨q2,q3⟩:=getV_found HSR.out hh
  generalize (lessV l t).length=m at *
  obtain⟨g',o',a,rfl,hga,hx,h0,h1,h2⟩:=(HRD.out.below HB2.out).cellsV rfl (j:=m) (by omega)
  have hgw:g'<w2.heap.size:=Nat.lt_of_lt_of_le hga HB2.out.size
  rw[hx] at q2
  have dk:decide (((m:Nat):Int)<0)=false:=decide_eq_false (by omega)
  rcases hg:a.g with _|_
  ·have HV:=LH (show q8f (tellV (getV l t)) w (.returned (.tuple #[.string ⟨a.v.toArray⟩,.bool true,.nilIface])) w2 by rw[q2];unfold tellV;simp only[hg];exact⟨rfl,HB2.out⟩)
   rw[hg] at h2
   clear q2 hx hg
   go_wp2_with fail
   go_ret3
   exact HV.out
  ·have HV:=LH (show q8f (tellV (getV l t)) w (.returned (.tuple #[.string ⟨#[]⟩,.bool false,.nilIface])) w2 by rw[q2];unfold tellV;simp only[hg];exact⟨rfl,HB2.out⟩)
   rw[hg] at h2
   clear q2 hx hg
   go_wp2_with fail
   go_ret3
   exact HV.out
end Go.Proofs.YtccahlhdifadfaaGreatDoor
