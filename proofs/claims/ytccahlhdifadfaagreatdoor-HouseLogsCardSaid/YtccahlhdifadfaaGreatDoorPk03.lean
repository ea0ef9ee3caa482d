/- Part 4 of the texts that the claim rests on (of 19): Net4, Net5, Net6, Net7, Net8, LkP, MvP, RangeG, InsV, Mv1. -/
import Derived.Test.YtccahlhdifadfaaGreatDoorPk02
import Derived.Laws.Cover3
import Derived.Carry
import Derived.StillTailTactics
import Derived.IntWalk
import Derived.Test.YtccahlhdifadfaaGreatDoorRows
import Derived.Deep.CutBlock
import Derived.Lib.Hide
namespace Go.Proofs.YtccahlhdifadfaaGreatDoor
open Go.RowKit
set_option maxRecDepth 100000
set_option maxHeartbeats 16000000
section
variable (base g off nd:Nat) (T:TypeId) (cs:Array Value) (V:Value) (D:Option Nat) (L:List MsR) (dead:Int→Bool) (lost:Int) (w:World)
theorem many_any (hI:NetI w base g off T cs V D nd L dead lost):Calls Tryz.prog 39 #[.pointer (some ⟨g,off,none⟩)] w fun e w'=>e=.returned (.int .i64 L.length)∧w=w':=by
 obtain⟨A',c',hV',hc',hA'⟩:=q01 hI.row
 have c0:=(hI.blk.cell off).trans hI.c0
 rw[hV'] at c0
 clear hI hV'
 go_enter Tryz.func39,Tryz.ntmps39
 go_wp2_with fail
 go_ret
 exact⟨rfl,rfl⟩
def LoseYes (base g off nd:Nat) (T:TypeId) (cs:Array Value) (V:Value) (D:Option Nat) (L:List MsR) (dead:Int→Bool) (_lost:Int) (k:Nat) (w:World) (e:Ending) (w':World):Prop:=
 ∃ V' lost',e=.returned .nilIface∧NetI w' base g off T ((cs.setIfInBounds off V').setIfInBounds (off+2) (.int .i64 lost')) V' D nd (L.eraseIdx k) dead lost'∧Fr (NetB g V D) w w'∧V'.ownBlock=V.ownBlock
theorem net_lost {w:World} {base g off nd:Nat} {T:TypeId} {cs:Array Value} {V:Value} {D:Option Nat} {L:List MsR} {dead:Int→Bool} {lost:Int} (hI:NetI w base g off T cs V D nd L dead lost) (n:Int) :
  NetI (w.setCell ⟨g,off+2,none⟩ (.int .i64 n)) base g off T (cs.setIfInBounds (off+2) (.int .i64 n)) V D nd L dead n:=by
 have hset:=Fr.set1 g w (off+2) (.int .i64 n)
 have hsz:off+2<cs.size:=by
  have:=hI.c2
  rcases Nat.lt_or_ge (off+2) cs.size with h|h
  ·exact h
  ·rw[Array.getElem?_eq_none (by simpa using h)] at this;cases this
 refine⟨hI.blk.set_ _ _,?_,?_,by simp[hsz],hset.own hI.row (fun b hb e=>by subst e;exact q02 hI.row hI.blk (fun e=>hI.ne.1 e.symm) hb),fun x hx=>⟨hset.own (hI.own x hx).1 (fun b hb e=>by subst e;exact q02 (hI.own x hx).1 hI.blk (fun e=>hI.ne.2 e.symm) hb),(hI.own x hx).2⟩,hI.down.fr hset (fun b hb e=>by subst e;exact hI.down.notBlk hI.blk hb),hI.len,hI.ne,Nat.le_trans hI.bg hset.size⟩
 ·rw[Array.getElem?_setIfInBounds_ne (by omega)];exact hI.c0
 ·rw[Array.getElem?_setIfInBounds_ne (by omega)];exact hI.c1
theorem lose_yes (k:Nat) (hI:NetI w base g off T cs V D nd L dead lost) (hk:k<L.length) :
  Calls Tryz.prog 53 #[.pointer (some ⟨g,off,none⟩),.int .i64 k] w (LoseYes base g off nd T cs V D L dead lost k w):=by
 have HI:=LH hI;clear hI
 go_enter Tryz.func53,Tryz.ntmps53
 go_wp2_with fail
 refine(take_yes base g off nd T cs V D L dead lost k w HI.out hk).mono ?_
 rintro e w1 ⟨V',x,hx,rfl,hN,hO,hF,hV⟩
 have hb:∀ o,NetI (w1.alloc o) base g off T (cs.setIfInBounds off V') V' D nd (L.eraseIdx k) dead lost:=fun o=>hN.fr ((Fr.refl (fun _=>False) _).alloc _) (fun h=>h) (fun _ _ h=>h) (fun _ _ h=>h) (fun _ _ _ _ _ h=>h)
 have c2:=fun o=>((hb o).blk.cell (off+2)).trans (hb o).c2
 have f2:=fun o=>(hb o).blk.frozen (off+2)
 have hfin:∀ o,LoseYes base g off nd T cs V D L dead lost k w (.returned .nilIface) ((w1.alloc o).setCell ⟨g,off+2,none⟩ (.int .i64 (wrap64 (lost+1)))):=fun o=>
  ⟨V',_,rfl,net_lost (hb o) (wrap64 (lost+1)),(hF.alloc o).setCell (p:=⟨g,off+2,none⟩) (.inl (.inl rfl)) _,hV⟩
 have HFIN:=LH hfin;clear hfin hb hN hO hF hV hx HI
 unfold mrV msgV
 have c2':=c2 (.cells #[.int .i64 x.m.kind,.int .i64 x.m.from_,.int .i64 x.m.to_,.int .i64 x.m.epoch,.int .i64 x.m.n,.int .i64 x.m.cmd.kind,.int .i64 x.m.cmd.tx,.int .i64 x.m.cmd.time,.slice x.A x.n x.k] 116)
 have f2':=f2 (.cells #[.int .i64 x.m.kind,.int .i64 x.m.from_,.int .i64 x.m.to_,.int .i64 x.m.epoch,.int .i64 x.m.n,.int .i64 x.m.cmd.kind,.int .i64 x.m.cmd.tx,.int .i64 x.m.cmd.time,.slice x.A x.n x.k] 116)
 clear c2 f2
 go_wp2_with fail
 go_ret
 exact HFIN.out _
end
def errnoV (k:Int):Value:=.iface 79 (.int .i64 k)
def TwiceYes (base g off nd:Nat) (T:TypeId) (cs:Array Value) (V:Value) (D:Option Nat) (L:List MsR) (dead:Int→Bool) (_lost:Int) (x:MsR) (w:World) (e:Ending) (w':World):Prop:=
 ∃ V' L' lost',e=.returned .nilIface∧(∀ y∈L',y∈L∨NewR w.heap.size y)∧NetI w' base g off T ((cs.setIfInBounds off V').setIfInBounds (off+2) (.int .i64 lost')) V' D nd L' dead lost'∧sendS ⟨msOf L,dead⟩ x.m=⟨msOf L',dead⟩∧Fr (NetB g V D) w w'∧(V'.ownBlock=V.ownBlock∨∃ b,V'.ownBlock=some b∧w.heap.size≤b)
section
variable (base g off nd:Nat) (T:TypeId) (cs:Array Value) (V:Value) (D:Option Nat) (L:List MsR) (dead:Int→Bool) (lost:Int) (w:World)
theorem twice_full (k:Nat) (hI:NetI w base g off T cs V D nd L dead lost) (hk:k<L.length) (hL:L.length=200) :
  Calls Tryz.prog 54 #[.pointer (some ⟨g,off,none⟩),.int .i64 k] w fun e w'=>e=.returned (errnoV 4)∧w=w':=by
 obtain⟨A',c',hV',hc',hA'⟩:=q01 hI.row
 have c0:=(hI.blk.cell off).trans hI.c0
 rw[hV'] at c0
 clear hI hV'
 rw[hL] at c0 hk
 unfold errnoV
 have hk0:¬(k:Int)<0:=by omega
 have hk1:(k:Int)<200:=by omega
 clear hL hc'
 go_enter Tryz.func54,Tryz.ntmps54
 go_wp2_with fail
 go_ret
 exact⟨rfl,rfl⟩
theorem twice_yes (k:Nat) (x:MsR) (hI:NetI w base g off T cs V D nd L dead lost) (hx:L[k]? = some x) (hL:L.length<200) (hwf:okI x.m.from_∧okI x.m.to_∧x.n≤100000) :
  Calls Tryz.prog 54 #[.pointer (some ⟨g,off,none⟩),.int .i64 k] w (TwiceYes base g off nd T cs V D L dead lost x w):=by
 have hk:k<L.length:=(List.getElem?_eq_some_iff.1 hx).1
 obtain⟨gv,cap,hV,hbv,hlv⟩:=own_at hI.row (by omega)
 have hrd:=Rd.of_own (by rw[← hV];exact hI.row:w.ownsRow base 116 9 (.slice (some ⟨gv,0,none⟩) L.length cap) L.length (L.flatMap q0c))
 obtain⟨g',o',x',hA,_,hx',h0,h1,h2,h3,h4,h5,h6,h7,h8⟩:=hrd.cells9 rfl hk
 simp only[Option.some.injEq,Addr.mk.injEq,and_true] at hA
 obtain⟨rfl,rfl⟩:=hA
 rw[hx] at hx'
 obtain rfl:=Option.some.inj hx'
 rw[Nat.zero_add] at h0 h1 h2 h3 h4 h5 h6 h7 h8
 have c0:=(hI.blk.cell off).trans hI.c0
 rw[hV] at c0
 have hne:((L.length:Int) == 200)=false:=by simpa using (by omega:¬(L.length:Int)=200)
 have hw1:Fr (fun _=>False) w (w.alloc (.cells (q04 x.m x.A x.n x.k) 116)):=(Fr.refl _ _).alloc _
 have hI1:=hI.fr hw1 (fun h=>h) (fun _ _ h=>h) (fun _ _ h=>h) (fun _ _ _ _ _ h=>h)
 have hrl:=Rd.lit w (q04 x.m x.A x.n x.k) 116 1 9 rfl
 have hOx:=hI.own x (List.mem_of_getElem? hx)
 have hOx1:=hw1.own hOx.1 (fun _ _ h=>h)
 have hrm:ReadsM (w.alloc (.cells (q04 x.m x.A x.n x.k) 116)) (NetB g V D) (some ⟨w.heap.size,0,none⟩) 1 [x]:=by
  refine⟨rfl,by have:=hrl.more (B':=(w.alloc (.cells (q04 x.m x.A x.n x.k) 116)).heap.size) (by simp);simpa [q0c] using this,fun b o e _=>?_,fun y hy=>?_⟩
  ·simp only[Option.some.injEq,Addr.mk.injEq,and_true] at e
   obtain⟨rfl,rfl⟩:=e
   rintro (h|h|h)
   ·have:=hI.blk.lt;omega
   ·have:=hI.vlt h.symm;omega
   ·have:=hI.down;rw[← h] at this;have:=this.lt;omega
  ·rw[List.mem_singleton.1 hy]
   refine⟨⟨hOx.2,Rd.of_own hOx1⟩,fun b o e _=>?_⟩
   have hob:Value.ownBlock (.slice x.A x.n x.k)=some b:=by rw[e];rfl
   rintro (h|h|h)
   ·subst h;exact q02 hOx1 hI1.blk (fun e=>hI.ne.2 e.symm) hob
   ·exact q0i hOx1 hI1.row (by decide) hob h.symm
   ·exact hI1.down.notOwn hOx1 h.symm hob
 have hxk:x.A=none→x.k=0:=fun e=>by
  rcases hOx.1.2 with ⟨h,_⟩|⟨_,_,_,h,_⟩
  ·injection h
  ·rw[e] at h;cases h
 have hsend:=send_any base g off nd 1 1 T cs V D L dead lost (some ⟨w.heap.size,0,none⟩) [x] _ hI1 hrm (by omega) (fun y hy=>by rw[List.mem_singleton.1 hy];exact⟨hwf.1,hwf.2.1,hwf.2.2,hxk⟩)
 unfold q04 at hsend hw1
 have HS:=LH hsend;clear hsend
 have HW:=LH hw1;clear hw1
 have hkl:(k:Int)<L.length:=by omega
 have hk0:¬(k:Int)<0:=by omega
 clear hI hI1 hrm hrl hOx hOx1 hxk hrd hV hwf hx
 go_enter Tryz.func54,Tryz.ntmps54
 go_wp2_with fail
 refine HS.out.mono ?_
 rintro e w2 ⟨V',L',lost',d,rfl,hpr,hN,hs,hF,hVV⟩
 have hfin:TwiceYes base g off nd T cs V D L dead lost x w (.returned .nilIface) w2:=⟨V',L',lost',rfl,(fun y hy=>(hpr y hy).imp id (fun h b hb=>Nat.le_trans HW.out.size (h b hb))),hN,hs,(HW.out.mono (T:=NetB g V D) (fun i _ h=>h.elim)).trans' hF (fun i _ h=>h),by
  rcases hVV with h|⟨b,h,hb⟩
  ·exact .inl h
  ·exact .inr ⟨b,h,Nat.le_trans HW.out.size hb⟩⟩
 have HFIN:=LH hfin;clear hfin hN hs hF hVV hpr
 go_wp2_with fail
 go_ret
 exact HFIN.out
end
def goneF (b:Nat):Value:=.func (.func 110) #[] #[.pointer (some ⟨b,0,none⟩)]
theorem gone_any (b:Nat) (id:Int) (x:MsR) (w:World) (hb:w.cell? ⟨b,0,none⟩=some (.int .i64 id)) :
  Calls Tryz.prog 110 #[mrV x,.pointer (some ⟨b,0,none⟩)] w fun e w'=>e=.returned (.bool (gone id x.m))∧Below w.heap.size w w':=by
 have hlt:=World.block_lt_of_cell? w _ hb
 have hbl:∀ o,Below w.heap.size w (w.alloc o):=fun o=>(Below.refl _ _).alloc (Nat.le_refl _) _
 have HBL:=LH hbl;clear hbl
 unfold mrV msgV
 have hg:gone id x.m=(decide (x.m.from_=id) || decide (x.m.to_=id)):=rfl
 by_cases h1:x.m.from_=id
 ·have d1:(x.m.from_ == id)=true:=by simpa using h1
  have hg':gone id x.m=true:=by rw[hg,decide_eq_true h1];rfl
  have HG:=LH hg';clear hg' hg h1
  go_enter Tryz.func110,Tryz.ntmps110
  go_wp2_with fail
  go_ret
  rw[HG.out]
  exact⟨rfl,HBL.out _⟩
 ·have d1:(x.m.from_ == id)=false:=by simpa using h1
  have hg':gone id x.m=(x.m.to_ == id):=by rw[hg,decide_eq_false h1];by_cases h:x.m.to_=id <;> simp[h]
  have HG:=LH hg';clear hg' hg h1
  go_enter Tryz.func110,Tryz.ntmps110
  go_wp2_with fail
  go_ret
  rw[HG.out]
  exact⟨rfl,HBL.out _⟩
def fidx (p:Ms→Bool) (L:List MsR):Int:=match L.findIdx? (fun x=>p x.m) with|some i=>(i:Int)|none=>-1
def ixRel (p:Ms→Bool) (L:List MsR) (n:Nat) (w:World) (v:Value) (wr:World):Prop:=∃ j:Nat,v=.int .i64 j∧j≤n∧(∀ x∈L.take j,p x.m=false)∧Below w.heap.size w wr
theorem index_any (b g off k n:Nat) (id:Int) (L:List MsR) (w:World) (hb:w.cell? ⟨b,0,none⟩=some (.int .i64 id)) (hr:Rd w w.heap.size 9 (some ⟨g,off,none⟩) n (L.flatMap q0c)) (hl:L.length=n) (hn:n≤100000) :
  Calls Tryz.prog 128 #[.slice (some ⟨g,off,none⟩) n k,goneF b] w fun e w'=>e=.returned (.int .i64 (fidx (gone id) L))∧Below w.heap.size w w':=by
 unfold goneF
 have HR:=LH hr;clear hr
 go_enter Tryz.func128,Tryz.ntmps128
 go_wp2_with fail
 go_loopw [8] (ixRel (gone id) L n w) (fun v _=>n-(intOf v).toNat)
 case atStart=>exact⟨0,rfl,Nat.zero_le _,(fun x hx=>by simp at hx),Below.refl _ _⟩
 case round=>
  obtain⟨j,rfl,hj,hno,hbw⟩:=hrel
  by_cases hlt:(j:Int)<n
  ·obtain⟨g',o',x,hA,hga,hx,h0,h1,h2,h3,h4,h5,h6,h7,h8⟩:=(HR.out.below hbw).cells9 hl (j:=j) (by omega)
   simp only[Option.some.injEq,Addr.mk.injEq,and_true] at hA
   obtain⟨rfl,rfl⟩:=hA
   have hgw:g<wr.heap.size:=Nat.lt_of_lt_of_le hga hbw.size
   have hcall:=gone_any b id x wr ((hbw.cell (p:=⟨b,0,none⟩) (World.block_lt_of_cell? w _ hb)).trans hb)
   have hjl:j<L.length:=by omega
   have hyes:gone id x.m=true→fidx (gone id) L=j:=fun hp=>by
    have:L.findIdx? (fun x=>gone id x.m)=some j:=by
     rw[List.findIdx?_eq_some_iff_getElem]
     refine⟨hjl,?_,fun i hi=>?_⟩
     ·rw[← Option.some.inj ((List.getElem?_eq_getElem hjl).symm.trans hx)] at hp;exact hp
     ·simp only[Bool.not_eq_true]
      exact hno _ (by rw[List.mem_take_iff_getElem];exact⟨i,by omega,rfl⟩)
    unfold fidx
    rw[this]
   have hstep:gone id x.m=false→∀ y∈L.take (j+1),gone id y.m=false:=fun hp y hy=>by
    rw[List.take_add_one,hx] at hy
    rcases List.mem_append.1 hy with hy|hy
    ·exact hno y hy
    ·simp at hy;rw[hy];exact hp
   have HYES:=LH hyes;clear hyes
   have HSTEP:=LH hstep;clear hstep
   have HNO:=LH hno;clear hno
   have HC:=LH hcall;clear hcall
   have HX:=LH hx;clear hx
   clear hb
   unfold mrV msgV at HC
   go_wp2_with fail
   refine HC.out.mono ?_
   rintro e w2 ⟨rfl,hb2⟩
   have hbw2:=hbw.trans (hb2.mono hbw.size)
   have HB2:=LH hbw2;clear hbw2
   rcases hp:gone id x.m with _|_
   ·have HP:=LH hp;clear hp
    go_wp2_with fail
    go_roundw
    case rel=>exact⟨j+1,rfl,by omega,HSTEP.out HP.out,HB2.out⟩
    case measure=>simp[intOf];omega
   ·have HP:=LH hp;clear hp
    go_wp2_with fail
    go_ret
    exact⟨by rw[HYES.out HP.out];rfl,HB2.out⟩
  ·obtain rfl:j=n:=by omega
   have hnone:fidx (gone id) L = -1:=by
    have:L.findIdx? (fun x=>gone id x.m)=none:=by
     rw[List.findIdx?_eq_none_iff]
     intro x hx
     exact hno x (by rw[List.take_of_length_le (by omega)];exact hx)
    unfold fidx
    rw[this]
   have HN:=LH hnone;clear hnone hno hb
   go_wp2_with fail
   go_ret
   rw[HN.out]
   exact⟨rfl,hbw⟩
def fillO (w:World) (g o:Nat) (x:MsR):World:=
 ((((((((w.setCell ⟨g,o,none⟩ (.int .i64 x.m.kind)).setCell ⟨g,o+1,none⟩ (.int .i64 x.m.from_)).setCell ⟨g,o+2,none⟩ (.int .i64 x.m.to_)).setCell ⟨g,o+3,none⟩ (.int .i64 x.m.epoch)).setCell ⟨g,o+4,none⟩ (.int .i64 x.m.n)).setCell ⟨g,o+5,none⟩ (.int .i64 x.m.cmd.kind)).setCell ⟨g,o+6,none⟩ (.int .i64 x.m.cmd.tx)).setCell ⟨g,o+7,none⟩ (.int .i64 x.m.cmd.time)).setCell ⟨g,o+8,none⟩ (.slice x.A x.n x.k)
theorem fillO_fr (w:World) (g o:Nat) (x:MsR):Fr (fun i=>i=g) w (fillO w g o x):=
 (((((((((Fr.refl (fun i=>i=g) w).setCell (p:=⟨g,o,none⟩) (.inl rfl) _).setCell (p:=⟨g,o+1,none⟩) (.inl rfl) _).setCell (p:=⟨g,o+2,none⟩) (.inl rfl) _).setCell (p:=⟨g,o+3,none⟩) (.inl rfl) _).setCell (p:=⟨g,o+4,none⟩) (.inl rfl) _).setCell (p:=⟨g,o+5,none⟩) (.inl rfl) _).setCell (p:=⟨g,o+6,none⟩) (.inl rfl) _).setCell (p:=⟨g,o+7,none⟩) (.inl rfl) _).setCell (p:=⟨g,o+8,none⟩) (.inl rfl) _
theorem set9:∀ (M:List MsR) (i:Nat) (x:MsR),i<M.length→
  (((((((((M.flatMap q0c).set (i*9) (.int .i64 x.m.kind)).set (i*9+1) (.int .i64 x.m.from_)).set (i*9+2) (.int .i64 x.m.to_)).set (i*9+3) (.int .i64 x.m.epoch)).set (i*9+4) (.int .i64 x.m.n)).set (i*9+5) (.int .i64 x.m.cmd.kind)).set (i*9+6) (.int .i64 x.m.cmd.tx)).set (i*9+7) (.int .i64 x.m.cmd.time)).set (i*9+8) (.slice x.A x.n x.k)=(M.set i x).flatMap q0c
 | [],i,x,h=>by simp at h
 | y::M,0,x,_=>by simp[q0c,q04]
 | y::M,i+1,x,h=>by
  have ih:=set9 M i x (by simpa using h)
  have e:∀ k,(i+1)*9+k=i*9+k+9:=fun k=>by omega
  have e0:(i+1)*9=i*9+9:=by omega
  rw[e0,List.set_cons_succ,List.flatMap_cons,List.flatMap_cons,← ih]
  simp[q0c,q04,Nat.add_right_comm]
theorem own_fill {w:World} {base g n cap i:Nat} {M:List MsR} (h:w.ownsRow base 116 9 (.slice (some ⟨g,0,none⟩) n cap) n (M.flatMap q0c)) (x:MsR) (hi:i<M.length) :
  (fillO w g (i*9) x).ownsRow base 116 9 (.slice (some ⟨g,0,none⟩) n cap) n ((M.set i x).flatMap q0c):=by
 rw[← set9 M i x hi]
 exact(((((((((h.stored _ _).1.stored _ _).1.stored _ _).1.stored _ _).1.stored _ _).1.stored _ _).1.stored _ _).1.stored _ _).1.stored _ _).1
def kept (id:Int) (L:List MsR):List MsR:=L.filter (fun x=>!gone id x.m)
theorem q7m {w w':World} {base e size n:Nat} {v:Value} {xs:List Value} (h:w.ownsRow base e size v n xs) (hb:Below w.heap.size w w'):w'.ownsRow base e size v n xs:=
 (q06 hb).own h (fun g hg (h':w.heap.size≤g)=>by have:=(h.lt g hg).2;omega)
def DfRel (base gv n cap:Nat) (id:Int) (L:List MsR) (w:World) (u v:Value) (wr:World):Prop:=
 ∃ (i j:Nat) (M:List MsR),u=.int .i64 i∧v=.int .i64 j∧i<j∧j≤n∧M.length=n∧M.take i=kept id (L.take j)∧M.drop j=L.drop j∧wr.ownsRow base 116 9 (.slice (some ⟨gv,0,none⟩) n cap) n (M.flatMap q0c)∧Fr (fun k=>k=gv) w wr
def DfPost (base gv cap:Nat) (n:Nat) (l:List MsR) (w:World) (e:Ending) (w':World):Prop:=
 e=.returned (.slice (some ⟨gv,0,none⟩) l.length cap)∧w'.ownsRow base 116 9 (.slice (some ⟨gv,0,none⟩) l.length cap) l.length (l.flatMap q0c)∧Fr (fun k=>k=gv) w w'∧l.length≤n
theorem q7w {id:Int} {L:List MsR} {j:Nat} {x:MsR} (h:L[j]? = some x):kept id (L.take (j+1))=if gone id x.m then kept id (L.take j) else kept id (L.take j)++[x]:=by
 unfold kept
 rw[List.take_add_one,h,List.filter_append]
 rcases hg:gone id x.m with _|_ <;> simp[hg]
theorem kept_first {id:Int} {L:List MsR} {i:Nat} (h:fidx (gone id) L=i):i<L.length∧L.take i=kept id (L.take (i+1)):=by
 unfold fidx at h
 rcases hf:L.findIdx? (fun x=>gone id x.m) with _|j
 ·rw[hf] at h;simp only at h;omega
 ·rw[hf] at h
  have e:j=i:=by have h':(j:Int)=i:=h;omega
  subst e
  rw[List.findIdx?_eq_some_iff_getElem] at hf
  obtain⟨hl,h1,h2⟩:=hf
  refine⟨hl,?_⟩
  rw[q7w (List.getElem?_eq_getElem hl),if_pos h1]
  unfold kept
  rw[List.filter_eq_self.2]
  intro x hx
  obtain⟨k,hk,rfl⟩:=List.mem_take_iff_getElem.1 hx
  simpa using h2 k (by omega)
theorem kept_all {id:Int} {L:List MsR} (h:fidx (gone id) L = -1):kept id L=L:=by
 unfold fidx at h
 rcases hf:L.findIdx? (fun x=>gone id x.m) with _|j
 ·unfold kept
  rw[List.filter_eq_self.2]
  intro x hx
  rw[List.findIdx?_eq_none_iff] at hf
  simpa using hf x hx
 ·rw[hf] at h;simp only at h;omega
theorem fidx_cases (id:Int) (L:List MsR):fidx (gone id) L = -1∨∃ i:Nat,fidx (gone id) L=i:=by
 unfold fidx
 split
 ·exact .inr ⟨_,rfl⟩
 ·exact .inl rfl
theorem deletef_any (base gv n cap b:Nat) (id:Int) (L:List MsR) (w:World) (hrow:w.ownsRow base 116 9 (.slice (some ⟨gv,0,none⟩) n cap) n (L.flatMap q0c)) (hl:L.length=n) (hn:n≤100000)
  (hb:w.cell? ⟨b,0,none⟩=some (.int .i64 id)) (hne:b≠gv):Calls Tryz.prog 109 #[.slice (some ⟨gv,0,none⟩) n cap,goneF b] w (DfPost base gv cap n (kept id L) w):=by
 have hix:=index_any b gv 0 cap n id L w hb (Rd.of_own hrow) hl hn
 have hbl:=World.block_lt_of_cell? w _ hb
 have HIX:=LH hix;clear hix
 have HROW:=LH hrow;clear hrow
 have HB:=LH hb;clear hb
 unfold goneF at *
 rcases fidx_cases id L with hf|⟨i0,hf⟩
 ·rw[hf] at HIX
  go_enter Tryz.func109,Tryz.ntmps109
  go_wp2_with fail
  refine HIX.out.mono ?_
  rintro e w1 ⟨rfl,hb1⟩
  have hfin:DfPost base gv cap n (kept id L) w (.returned (.slice (some ⟨gv,0,none⟩) n cap)) w1:=by
   rw[kept_all hf]
   unfold DfPost
   rw[hl]
   exact⟨rfl,q7m HROW.out hb1,⟨hb1.os,hb1.tape,hb1.output,hb1.size,fun k hk _=>hb1.block k hk⟩,Nat.le_refl _⟩
  have HFIN:=LH hfin;clear hfin
  go_wp2_with fail
  go_ret
  exact HFIN.out
 ·rw[hf] at HIX
  obtain⟨hi0,hk0⟩:=kept_first hf
  have hne1:((i0:Int) == -1)=false:=by rw[beq_eq_false_iff_ne];omega
  go_enter Tryz.func109,Tryz.ntmps109
  go_wp2_with fail
  refine HIX.out.mono ?_
  rintro e w1 ⟨rfl,hb1⟩
  have hstart:DfRel base gv n cap id L w (.int .i64 i0) (.int .i64 ((i0:Int)+1)) w1:=⟨i0,i0+1,L,rfl,rfl,by omega,by omega,hl,hk0,rfl,q7m HROW.out hb1,⟨hb1.os,hb1.tape,hb1.output,hb1.size,fun k hk _=>hb1.block k hk⟩⟩
  have HST:=LH hstart;clear hstart
  clear hf hk0
  go_wp2_with fail
  clear hne1 hi0 hb1
  go_loopw [5,6] (DfRel base gv n cap id L w) (fun _ v _=>n-(intOf v).toNat)
  case atStart=>exact HST.out
  case round=>
   obtain⟨i,j,M,rfl,rfl,hij,hj,hM,hMt,hMd,hrow,hfr⟩:=hrel
   by_cases hlt:(j:Int)<n
   ·have hx:M[j]? = L[j]?:=by
     have:=congrArg (fun l=>l[0]?) hMd
     simpa using this
    obtain⟨g',o',x,hA,hga,hxM,h0,h1,h2,h3,h4,h5,h6,h7,h8⟩:=(Rd.of_own hrow).cells9 hM (j:=j) (by omega)
    simp only[Option.some.injEq,Addr.mk.injEq,and_true] at hA
    obtain⟨rfl,rfl⟩:=hA
    rw[Nat.zero_add] at h0 h1 h2 h3 h4 h5 h6 h7 h8
    have hxL:L[j]? = some x:=hx▸hxM
    have hw1:Fr (fun _=>False) wr (wr.alloc (.cells (q04 x.m x.A x.n x.k) 116)):=(Fr.refl _ _).alloc _
    have hcb:=(hw1.cell (p:=⟨b,0,none⟩) (Nat.lt_of_lt_of_le hbl hfr.size) (fun h=>h)).trans ((hfr.cell (p:=⟨b,0,none⟩) hbl hne).trans HB.out)
    have hcall:=gone_any b id x _ hcb
    have hB1:Blk (wr.alloc (.cells (q04 x.m x.A x.n x.k) 116)) wr.heap.size 116 (q04 x.m x.A x.n x.k):=Blk.new wr _ _
    have hrow1:=hw1.own hrow (fun _ _ h=>h)
    unfold mrV msgV q04 at *
    have HC:=LH hcall;clear hcall
    have HB1:=LH hB1;clear hB1
    have HR1:=LH hrow1;clear hrow1
    have HFR:=LH (hfr.trans' hw1 (fun _ _ h=>h.elim));clear hfr hw1
    have HMT:=LH hMt;clear hMt
    have HMD:=LH hMd;clear hMd
    have HXL:=LH hxL;clear hxL hx hxM hcb
    have HM:=LH hM;clear hM
    go_wp2_with fail
    refine HC.out.mono ?_
    rintro e w2 ⟨rfl,hb2⟩
    have hf2:Fr (fun k=>k=gv) w w2:=HFR.out.trans' (q06 hb2) (fun i hi (h:_≤i)=>by have:=HFR.out.size;simp at h this;omega)
    have hrow2:=q7m HR1.out hb2
    have hB2:Blk w2 wr.heap.size 116 #[.int .i64 x.m.kind,.int .i64 x.m.from_,.int .i64 x.m.to_,.int .i64 x.m.epoch,.int .i64 x.m.n,.int .i64 x.m.cmd.kind,.int .i64 x.m.cmd.tx,.int .i64 x.m.cmd.time,.slice x.A x.n x.k]:=HB1.out.below hb2 HB1.out.lt
    have HF2:=LH hf2;clear hf2
    rcases hp:gone id x.m with _|_
    ·have hxk:=q7w (id:=id) HXL.out
     rw[hp,if_neg (by simp)] at hxk
     have hiM:i<M.length:=by rw[HM.out];omega
     have q0:=hB2.cell 0
     have q1:=hB2.cell 1
     have q2:=hB2.cell 2
     have q3:=hB2.cell 3
     have q4:=hB2.cell 4
     have q5:=hB2.cell 5
     have q6:=hB2.cell 6
     have q7:=hB2.cell 7
     have q8:=hB2.cell 8
     simp only[List.getElem?_toArray,List.getElem?_cons_succ,List.getElem?_cons_zero] at q0 q1 q2 q3 q4 q5 q6 q7 q8
     obtain⟨g',o',y,hA,_,_,p0,p1,p2,p3,p4,p5,p6,p7,p8⟩:=(Rd.of_own hrow2).cells9 HM.out (j:=i) (by omega)
     simp only[Option.some.injEq,Addr.mk.injEq,and_true] at hA
     obtain⟨rfl,rfl⟩:=hA
     rw[Nat.zero_add] at p0 p1 p2 p3 p4 p5 p6 p7 p8
     have f0:=hrow2.frozenAt (i*9)
     have f1:=hrow2.frozenAt (i*9+1)
     have f2:=hrow2.frozenAt (i*9+2)
     have f3:=hrow2.frozenAt (i*9+3)
     have f4:=hrow2.frozenAt (i*9+4)
     have f5:=hrow2.frozenAt (i*9+5)
     have f6:=hrow2.frozenAt (i*9+6)
     have f7:=hrow2.frozenAt (i*9+7)
     have f8:=hrow2.frozenAt (i*9+8)
     have hgv:gv<w2.heap.size:=(hrow2.lt gv rfl).2
     have hnew:=own_fill hrow2 x hiM
     have hrel2:DfRel base gv n cap id L w (.int .i64 ((i:Int)+1)) (.int .i64 ((j:Int)+1)) (fillO w2 gv (i*9) x):=by
      refine⟨i+1,j+1,M.set i x,rfl,rfl,by omega,by omega,by rw[List.length_set];exact HM.out,?_,?_,hnew,HF2.out.trans (fillO_fr w2 gv (i*9) x)⟩
      ·rw[hxk,← HMT.out,List.take_add_one,List.take_set,List.getElem?_set_self hiM,List.set_eq_of_length_le (by rw[List.length_take];omega)]
       simp
      ·rw[List.drop_set_of_lt (by omega),← List.drop_drop,HMD.out,List.drop_drop]
     have HREL:=LH hrel2;clear hrel2 hnew hxk hiM
     have HP:=LH hp;clear hp
     have HR2:=LH hrow2;clear hrow2
     clear hB2 h0 h1 h2 h3 h4 h5 h6 h7 h8
     unfold fillO at HREL
     go_wp2_with fail
     go_roundw
     case rel=>exact HREL.out
     case measure=>simp[intOf];omega
    ·have hxk:=q7w (id:=id) HXL.out
     rw[hp,if_pos rfl] at hxk
     have hrel2:DfRel base gv n cap id L w (.int .i64 i) (.int .i64 ((j:Int)+1)) w2:=
      ⟨i,j+1,M,rfl,rfl,by omega,by omega,HM.out,by rw[HMT.out,hxk],by rw[← List.drop_drop,HMD.out,List.drop_drop],hrow2,HF2.out⟩
     have HREL:=LH hrel2;clear hrel2 hxk hrow2
     have HP:=LH hp;clear hp hB2 h0 h1 h2 h3 h4 h5 h6 h7 h8
     go_wp2_with fail
     go_roundw
     case rel=>exact HREL.out
     case measure=>simp[intOf];omega
   ·obtain rfl:j=n:=by omega
    have hcap:=(own_cap hrow).1
    have hall:L.take j=L:=List.take_of_length_le (by omega)
    rw[hall] at hMt
    have hkl:(kept id L).length=i:=by rw[← hMt,List.length_take];omega
    have hpre:=q93 hrow (i:=i) (by omega)
    rw[q6b,hMt] at hpre
    obtain⟨w2,hcl,hrow2,hf2⟩:=q4h 86 zmsgV Tryz.underlying86 zero_msg (by rfl) (by decide) hpre (m:=j-i) (c:=cap-i) (by omega)
    have s1:=q7b (size:=9) 86 q4y q52 wr gv j cap i (i:Int) rfl (by omega)
    have s2:=slice_toG (size:=9) 86 q4y q52 w2 gv j cap i (i:Int) rfl (by omega)
    have hfin:DfPost base gv cap j (kept id L) w (.returned (.slice (some ⟨gv,0,none⟩) i cap)) w2:=by
     unfold DfPost
     rw[hkl]
     exact⟨rfl,hrow2,hfr.trans hf2,by omega⟩
    have HFIN:=LH hfin;clear hfin hrow2 hf2 hpre hrow hMt hMd hM hfr hkl hall
    go_wp2_with fail
    go_ret
    exact HFIN.out
theorem eql_map_nil {P:Program} (w:World) (t k e:TypeId) (m:Option Nat) (h:P.underlying t=some (.map k e)):(binOp .eql t (.map m) (.map none)).run P w=.ok (.bool m.isNone) w:=by
 simp only[binOp]
 simp[run_equal_map_nil w t k e m h]
theorem index_nil (b:Nat) (w:World):Calls Tryz.prog 128 #[.slice none 0 0,goneF b] w fun e w'=>e=.returned (.int .i64 (-1))∧w=w':=by
 unfold goneF
 go_enter Tryz.func128,Tryz.ntmps128
 go_wp2_with fail
 go_loopw [8] (fun v wr=>v=.int .i64 0∧wr=w) (fun _ _=>0)
 case atStart=>exact⟨rfl,rfl⟩
 case round=>
  obtain⟨rfl,rfl⟩:=hrel
  go_wp2_with fail
  go_ret
  exact⟨rfl,rfl⟩
theorem deletef_nil (b:Nat) (w:World):Calls Tryz.prog 109 #[.slice none 0 0,goneF b] w fun e w'=>e=.returned (.slice none 0 0)∧w=w':=by
 have hix:=index_nil b w
 unfold goneF at *
 have HIX:=LH hix;clear hix
 go_enter Tryz.func109,Tryz.ntmps109
 go_wp2_with fail
 refine HIX.out.mono ?_
 rintro e w1 ⟨rfl,rfl⟩
 go_wp2_with fail
 go_ret
 exact⟨rfl,rfl⟩
def DfNet (base:Nat) (V:Value) (l:List MsR) (w:World) (e:Ending) (w':World):Prop:=
 ∃ V',e=.returned V'∧(∃ A n c,V'=.slice A n c)∧w'.ownsRow base 116 9 V' l.length (l.flatMap q0c)∧Fr (fun k=>some k=V.ownBlock) w w'∧V'.ownBlock=V.ownBlock
theorem deletef_net (base b n:Nat) (V:Value) (id:Int) (L:List MsR) (w:World) (hrow:w.ownsRow base 116 9 V n (L.flatMap q0c)) (hl:L.length=n) (hn:n≤100000) (hb:w.cell? ⟨b,0,none⟩=some (.int .i64 id)) (hne:V.ownBlock≠some b) :
  Calls Tryz.prog 109 #[V,goneF b] w (DfNet base V (kept id L) w):=by
 rcases hrow.2 with ⟨rfl,h0⟩|⟨gv,cap,cur,rfl,_⟩
 ·subst h0
  have hl0:L=[]:=List.eq_nil_of_length_eq_zero hl
  subst hl0
  refine(deletef_nil b w).mono ?_
  rintro e w' ⟨rfl,rfl⟩
  exact⟨_,rfl,⟨_,_,_,rfl⟩,hrow,Fr.refl _ _,rfl⟩
 ·refine(deletef_any base gv n cap b id L w hrow hl hn hb (fun e=>hne (by rw[e];rfl))).mono ?_
  rintro e w' ⟨rfl,h1,h2,_⟩
  exact⟨_,rfl,⟨_,_,_,rfl⟩,h1,h2.mono (fun i _ (h:i=gv)=>by rw[h];rfl),rfl⟩
def DNew (D D':Option Nat) (n:Nat):Prop:=D'=D∨∃ b,D'=some b∧n≤b
def DownPost (base g off:Nat) (T:TypeId) (cs:Array Value) (V:Value) (D:Option Nat) (nd:Nat) (L:List MsR) (dead:Int→Bool) (_lost id:Int) (w:World) (e:Ending) (w':World):Prop:=
 ∃ V' D' d lost',e=.returned (.int .i64 d)∧d=(L.length:Int)-(kept id L).length∧NetI w' base g off T (((cs.setIfInBounds (off+1) (.map D')).setIfInBounds off V').setIfInBounds (off+2) (.int .i64 lost')) V' D' (nd+1) (kept id L) (fun i=>decide (i=id) || dead i) lost'∧
  Fr (NetB g V D) w w'∧V'.ownBlock=V.ownBlock∧DNew D D' w.heap.size
theorem dead_set {w':World} {nd b:Nat} {dead:Int→Bool} {id:Int} (h:MapG q05 w' b (nd+1) (putM (fun i=>if dead i then some (.bool true) else none) id (some (.bool true)))):DeadM w' (nd+1) (some b) (fun i=>decide (i=id) || dead i):=by
 have e:(putM (fun i=>if dead i then some (.bool true) else none) id (some (.bool true)):Int→Option Value)=fun i=>if (decide (i=id) || dead i) then some (.bool true) else none:=by
  funext i
  by_cases hi:i=id
  ·subst hi;rw[q3d];simp
  ·rw[q60 hi];simp[hi]
 unfold DeadM
 rw[e] at h
 exact h
theorem net_mapped {w w':World} {base g off nd b:Nat} {T:TypeId} {cs:Array Value} {V:Value} {L:List MsR} {dead:Int→Bool} {lost id:Int}
  (h:NetI w base g off T cs V (some b) nd L dead lost) (hm:MapG q05 w' b (nd+1) (putM (fun i=>if dead i then some (.bool true) else none) id (some (.bool true)))) (hf:Fr (fun k=>k=b) w w') :
  NetI w' base g off T cs V (some b) (nd+1) L (fun i=>decide (i=id) || dead i) lost:=
 ⟨hf.blk h.blk (fun e=>h.down.notBlk h.blk (by rw[e])),h.c0,h.c1,h.c2,hf.own h.row (fun k hk (e:k=b)=>by subst e;exact h.down.notOwn h.row rfl hk),fun x hx=>⟨hf.own (h.own x hx).1 (fun k hk (e:k=b)=>by subst e;exact h.down.notOwn (h.own x hx).1 rfl hk),(h.own x hx).2⟩,dead_set hm,h.len,h.ne,Nat.le_trans h.bg hf.size⟩
theorem net_made {w:World} {base g off nd:Nat} {T:TypeId} {cs:Array Value} {V:Value} {L:List MsR} {dead:Int→Bool} {lost:Int} (h:NetI w base g off T cs V none nd L dead lost) :
  NetI ((w.alloc (.map #[] 0)).setCell ⟨g,off+1,none⟩ (.map (some w.heap.size))) base g off T (cs.setIfInBounds (off+1) (.map (some w.heap.size))) V (some w.heap.size) nd L dead lost:=by
 have hsz:off+1<cs.size:=by
  have:=h.c1
  rcases Nat.lt_or_ge (off+1) cs.size with h|h
  ·exact h
  ·rw[Array.getElem?_eq_none (by simpa using h)] at this;cases this
 have h1:=h.fr ((Fr.refl (fun _=>False) w).alloc (.map #[] 0)) (fun h=>h) (fun _ _ h=>h) (fun _ _ h=>h) (fun _ _ _ _ _ h=>h)
 have hset:=Fr.set1 g (w.alloc (.map #[] 0)) (off+1) (.map (some w.heap.size))
 have hm:MapG q05 (w.alloc (.map #[] 0)) w.heap.size nd (fun i=>if dead i then some (.bool true) else none):=by
  have e:(fun i=>if dead i then some (.bool true) else none:Int→Option Value)=fun _=>none:=by funext i;rw[h.down i];rfl
  rw[e]
  exact(MapG.made q05 w).mono (Nat.zero_le _)
 refine⟨h1.blk.set_ _ _,?_,by simp[hsz],?_,hset.own h1.row (fun b hb e=>by subst e;exact q02 h1.row h1.blk (fun e=>h.ne.1 e.symm) hb),fun x hx=>⟨hset.own (h1.own x hx).1 (fun b hb e=>by subst e;exact q02 (h1.own x hx).1 h1.blk (fun e=>h.ne.2 e.symm) hb),(h1.own x hx).2⟩,?_,h.len,h.ne,Nat.le_trans h1.bg hset.size⟩
 ·rw[Array.getElem?_setIfInBounds_ne (by omega)];exact h.c0
 ·rw[Array.getElem?_setIfInBounds_ne (by omega)];exact h.c2
 ·exact MapG.fr hm hset (fun e=>MapG.notBlk hm h1.blk e)
theorem net_rowset {w w5:World} {base g off nd:Nat} {T:TypeId} {cs:Array Value} {V V':Value} {D:Option Nat} {L l:List MsR} {dead:Int→Bool} {lost:Int}
  (h:NetI w base g off T cs V D nd L dead lost) (hrow:w5.ownsRow base 116 9 V' l.length (l.flatMap q0c)) (hf:Fr (fun k=>some k=V.ownBlock) w w5) (_hV:V'.ownBlock=V.ownBlock) (hl:∀ x∈l,x∈L) (hlen:l.length≤200:=by omega) :
  NetI (w5.setCell ⟨g,off,none⟩ V') base g off T (cs.setIfInBounds off V') V' D nd l dead lost:=by
 have hgV:¬some g=V.ownBlock:=fun e=>q02 h.row h.blk (fun e=>h.ne.1 e.symm) e.symm
 have hb5:Blk w5 g T cs:=hf.blk h.blk hgV
 have hset:Fr (fun k=>k=g) w5 (w5.setCell ⟨g,off,none⟩ V'):=Fr.set1 g w5 off V'
 have hoff:off<cs.size:=by
  rcases Nat.lt_or_ge off cs.size with h1|h1
  ·exact h1
  ·have:=h.c0;rw[Array.getElem?_eq_none h1] at this;cases this
 refine⟨hb5.set_ _ _,by simp[hoff],?_,?_,hset.own hrow (fun b hb e=>by subst e;exact q02 hrow hb5 (fun e=>h.ne.1 e.symm) hb),fun y hy=>?_,?_,hlen,h.ne,Nat.le_trans h.bg (Nat.le_trans hf.size hset.size)⟩
 ·rw[Array.getElem?_setIfInBounds_ne (by omega)];exact h.c1
 ·rw[Array.getElem?_setIfInBounds_ne (by omega)];exact h.c2
 ·have h2:=h.own y (hl y hy)
  have h3:=hf.own h2.1 (fun b hb e=>q0i h2.1 h.row (by decide) hb e.symm)
  exact⟨hset.own h3 (fun b hb e=>by subst e;exact q02 h3 hb5 (fun e=>h.ne.2 e.symm) hb),h2.2⟩
 ·refine(h.down.fr hf (fun b hb e=>?_)).fr hset (fun b hb e=>?_)
  ·exact h.down.notOwn h.row hb e.symm
  ·subst e;exact h.down.notBlk h.blk hb
theorem down_any (base g off nd:Nat) (T:TypeId) (cs:Array Value) (V:Value) (D:Option Nat) (L:List MsR) (dead:Int→Bool) (lost id:Int) (w:World)
  (hI:NetI w base g off T cs V D nd L dead lost) (hid:okI id) (hnd:nd<1000000) :
  Calls Tryz.prog 83 #[.pointer (some ⟨g,off,none⟩),.int .i64 id] w (DownPost base g off T cs V D nd L dead lost id w):=by
 have hw1:Fr (fun _=>False) w (w.alloc (.cells #[.int .i64 id] 3)):=(Fr.refl _ _).alloc _
 have hI1:=hI.fr hw1 (fun h=>h) (fun _ _ h=>h) (fun _ _ h=>h) (fun _ _ _ _ _ h=>h)
 have hB1:Blk (w.alloc (.cells #[.int .i64 id] 3)) w.heap.size 3 #[.int .i64 id]:=Blk.new w _ _
 have hgl:=hI.blk.lt
 have c1:=(hI1.blk.cell (off+1)).trans hI1.c1
 have f1:=hI1.blk.frozen (off+1)
 have HI:=LH hI;clear hI
 have HI1:=LH hI1;clear hI1
 have HB1:=LH hB1;clear hB1
 have HW1:=LH hw1;clear hw1
 have hn0:=fun W=>eql_map_nil W 60 _ _ D Tryz.underlying60
 rcases D with _|b
 case' none=>
  have hmm:=@run_makeMap Tryz.prog
  have hmd:=net_made HI1.out
  have hmd2:=((HI1.out.fr ((Fr.refl (fun _=>False) _).alloc (.map #[] 0)) (fun h=>h) (fun _ _ h=>h) (fun _ _ h=>h) (fun _ _ _ _ _ h=>h)).blk.cell (off+1)).trans HI1.out.c1
  have hmd3:=(HI1.out.fr ((Fr.refl (fun _=>False) _).alloc (.map #[] 0)) (fun h=>h) (fun _ _ h=>h) (fun _ _ h=>h) (fun _ _ _ _ _ h=>h)).blk.frozen (off+1)
  have hidc:=(Fr.set1 g ((w.alloc (.cells #[.int .i64 id] 3)).alloc (.map #[] 0)) (off+1) (.map (some (w.heap.size+1)))).blk (HB1.out.alloc (.map #[] 0)) (fun h=>by omega)
  have hfr:Fr (NetB g V none) w (((w.alloc (.cells #[.int .i64 id] 3)).alloc (.map #[] 0)).setCell ⟨g,off+1,none⟩ (.map (some (w.heap.size+1)))):=(((Fr.refl _ _).alloc _).alloc _).setCell (p:=⟨g,off+1,none⟩) (.inl (.inl rfl)) _
  simp only[World.size_alloc] at hmd
  have hpast:((w.alloc (.cells #[.int .i64 id] 3)).alloc (.map #[] 0)).setCell ⟨g,off+1,none⟩ (.map (some (w.heap.size+1)))=((w.setCell ⟨g,off+1,none⟩ (.map (some (w.heap.size+1)))).alloc (.cells #[.int .i64 id] 3)).alloc (.map #[] 0):=by
   rw[World.setCell_alloc_past _ _ _ _ (by simp;omega),World.setCell_alloc_past _ _ _ _ (by omega)]
  rw[hpast] at hmd hidc hfr
  clear hpast
  have HMD:=LH hmd;clear hmd
  have HID:=LH hidc;clear hidc
  have HFR:=LH hfr;clear hfr
  have HDD:=LH (show DNew none (some (w.heap.size+1)) w.heap.size from .inr ⟨_,rfl,by omega⟩)
  have HNB:=LH (show ∀ i,i<w.heap.size→NetB g V (some (w.heap.size+1)) i→NetB g V none i from fun i hi h=>by
   rcases h with h|h|h
   ·exact .inl h
   ·exact .inr (.inl h)
   ·injection h with h;omega)
  go_enter Tryz.func83,Tryz.ntmps83
  go_upto_region 3 with (fail)
  clear hmd2 hmd3 hmm
  generalize hb:w.heap.size+1=b at *
  generalize ((w.setCell ⟨g,off+1,none⟩ (.map (some b))).alloc (.cells #[.int .i64 id] 3)).alloc (.map #[] 0)=w3 at *
 case' some=>
  have hmd:NetI (w.alloc (.cells #[.int .i64 id] 3)) base g off T (cs.setIfInBounds (off+1) (.map (some b))) V (some b) nd L dead lost:=by rw[q48 HI1.out.c1];exact HI1.out
  have hfr:Fr (NetB g V (some b)) w (w.alloc (.cells #[.int .i64 id] 3)):=(Fr.refl _ _).alloc _
  have HMD:=LH hmd;clear hmd
  have HID:=LH HB1.out
  have HFR:=LH hfr;clear hfr
  have HDD:=LH (show DNew (some b) (some b) w.heap.size from .inl rfl)
  have HNB:=LH (show ∀ i,i<w.heap.size→NetB g V (some b) i→NetB g V (some b) i from fun i _ h=>h)
  go_enter Tryz.func83,Tryz.ntmps83
  go_upto_region 3 with (fail)
  generalize w.alloc (.cells #[.int .i64 id] 3)=w3 at *
 all_goals
  clear hn0 c1 f1 HI1 HB1 HW1
  have n1:=(HMD.out.blk.cell (off+1)).trans HMD.out.c1
  have i0:=HID.out.cell 0
  simp only[List.getElem?_toArray,List.getElem?_cons_zero] at i0
  refine wp_region_any (by kernel_rfl) ?_
  change wpAny _ _ _ _ _ _ _ (World.drew _)
  refine q4i (fun w'=>w'.cell? ⟨g,off+1,none⟩=some (.map (some b))∧w'.cell? ⟨w.heap.size,0,none⟩=some (.int .i64 id)) 5 ?_
  have HCC:=And.intro n1 i0
  refine nC 0 rfl (fun _ _ _ h=>h) HCC (fun w' hw'=>by go_simp;rfl) ?_
  refine nC 1 rfl (fun _ _ _ h=>h) HCC (fun w' hw'=>by go_simp;rfl) ?_
  refine nC 2 rfl (fun _ _ _ h=>h) HCC (fun w' hw'=>by go_simp;rfl) ?_
  refine nC 3 rfl (fun _ _ _ h=>h) HCC (fun w' hw'=>by obtain⟨h0,h1⟩:=hw';go_simp;rfl) ?_
  refine nC 4 rfl (fun _ _ _ h=>h) HCC (fun w' hw'=>by obtain⟨h0,h1⟩:=hw';go_simp;rfl) ?_
  refine nO 5 rfl (fun K hK=>?_)
  refine wp_setG (C:=q05) 60 4 Tryz.underlying60 (.tmp 18) (.tmp 19) _ rfl rfl (show MapG q05 w3.drew b nd _ from HMD.out.down) (by unfold maxLen;omega) id (.bool true) rfl rfl hid ?_
  intro w4 hm4 hf4
  have hf4:Fr (fun k=>k=b) w3 w4:=⟨hf4.os,hf4.tape,hf4.output,hf4.size,hf4.block⟩
  have hN4:=net_mapped HMD.out hm4 hf4
  have hid4:=hf4.blk HID.out (fun e=>HMD.out.down.notBlk HID.out (by rw[e]))
  have hfr4:Fr (NetB g V (some b)) w3 w4:=hf4.mono (fun i _ (h:i=b)=>.inr (.inr (by rw[h])))
  have HN4:=LH hN4;clear hN4
  have HID4:=LH hid4;clear hid4
  have HFR4:=LH hfr4;clear hfr4 hm4 hf4 n1 i0 HCC HMD HID
  refine hK _ _ (fun h=>absurd h (by decide)) ?_
  clear hK K
  refine ndone (by kernel_rfl) ?_ _
  obtain⟨A',c',hV',hc',_⟩:=q01 HN4.out.row
  have n0:=(HN4.out.blk.cell off).trans HN4.out.c0
  have n2:=HN4.out.blk.frozen off
  rw[hV'] at n0
  have i0:=HID4.out.cell 0
  simp only[List.getElem?_toArray,List.getElem?_cons_zero] at i0
  have hdf:=deletef_net base w.heap.size L.length V id L w4 HN4.out.row rfl (by have:=HN4.out.len;omega) i0 (fun e=>q02 HN4.out.row HID4.out (by decide) e)
  unfold goneF at hdf
  rw[hV'] at hdf
  have HDF:=LH hdf;clear hdf
  have HVV:=LH hV';clear hV'
  have hgl4:=HN4.out.blk.lt
  go_wp2_with fail
  refine HDF.out.mono ?_
  rintro e w5 ⟨V',rfl,_,hrow5,hf5,hown5⟩
  rw[← HVV.out] at hf5 hown5
  have hN6:=net_rowset HN4.out hrow5 hf5 hown5 (fun y hy=>(List.mem_filter.1 hy).1) (Nat.le_trans (List.length_filter_le _ _) HN4.out.len)
  obtain⟨A5,c5,rfl,hc5,_⟩:=q01 hrow5
  have hkl:(kept id L).length≤L.length:=List.length_filter_le _ _
  have hll:=HN4.out.len
  have hgV:¬some g=V.ownBlock:=fun e=>q02 HN4.out.row HN4.out.blk (fun e=>HN4.out.ne.1 e.symm) e.symm
  have hb5:=hf5.blk HN4.out.blk hgV
  have y0:=hb5.cell off
  have y1:=hb5.frozen off
  rw[HN4.out.c0,HVV.out] at y0
  have hgl5:=hb5.lt
  have hset:Fr (fun k=>k=g) w5 (w5.setCell ⟨g,off,none⟩ (.slice A5 (kept id L).length c5)):=Fr.set1 g w5 off _
  have hF6:Fr (NetB g V (some b)) w4 (w5.setCell ⟨g,off,none⟩ (.slice A5 (kept id L).length c5)):=(hf5.mono (T:=NetB g V (some b)) (fun i _ h=>.inr (.inl h))).trans' hset (fun i _ h=>.inl h)
  have HN6:=LH hN6;clear hN6
  have HF6:=LH hF6;clear hF6
  have HOWN:=LH hown5;clear hown5
  clear hb5 hset hgV hrow5 hf5 n0 n2 i0
  go_upto_region 6 with (fail)
  generalize w5.setCell ⟨g,off,none⟩ (.slice A5 (kept id L).length c5)=w6 at *
  have z0:=(HN6.out.blk.cell off).trans HN6.out.c0
  have z2:=(HN6.out.blk.cell (off+2)).trans HN6.out.c2
  have zf:=HN6.out.blk.frozen (off+2)
  have hgl6:=HN6.out.blk.lt
  have hfr6:=HFR.out.trans' (HFR4.out.trans HF6.out) HNB.out
  have hset:=Fr.set1 g w6 (off+2) (.int .i64 (wrap64 (lost+((L.length:Int)-(kept id L).length))))
  have hN7:=net_lost HN6.out (wrap64 (lost+((L.length:Int)-(kept id L).length)))
  have hfin:DownPost base g off T cs V _ nd L dead lost id w (.returned (.int .i64 ((L.length:Int)-(kept id L).length))) (w6.setCell ⟨g,off+2,none⟩ (.int .i64 (wrap64 (lost+((L.length:Int)-(kept id L).length))))).drew:=
   ⟨_,some b,_,_,rfl,rfl,hN7.fr ((Fr.refl (fun _=>False) _).drew) (fun h=>h) (fun _ _ h=>h) (fun _ _ h=>h) (fun _ _ _ _ _ h=>h),(hfr6.trans' hset (fun i _ h=>.inl h)).drew,HOWN.out,HDD.out⟩
  have q0:=(hN7.blk.cell off).trans hN7.c0
  have HFIN:=LH hfin;clear hfin hfr6 hset hN7 HN6 HFR HFR4 HF6 HNB HDD HOWN HN4 HID4 HDF
  have hwr1:IntKind.i64.wrap ((L.length:Int)-(kept id L).length)=(L.length:Int)-(kept id L).length:=IntWalk.i64_in _ ⟨by omega,by omega⟩
  refine wp_region_still_tail 12 (by kernel_rfl) (by kernel_rfl) ?_
  change wpStill _ _ (World.drew _) _ _ _
  simp only[List.take_succ_cons,List.take_zero,List.drop_succ_cons,List.drop_zero]
  repeat still_step
  clear hwr1
  refine wpStill_nil ?_
  change wpList _ _ _ _ _ (World.drew _)
  go_wp2_with fail
  go_ret
  exact HFIN.out
abbrev Sx:=List UInt8
structure Kx where
 h:Int→Option Int
 ws:List (Int×Int)
abbrev Tb:=Sx→Option Kx
structure Ak where
 tx:Int
 key:Sx
 mode:Int
deriving DecidableEq
def clash (m mode:Int):Bool:=decide (m=2) || decide (mode=2)
def holdK (h:Int→Option Int) (tx:Int):Int:=(h tx).getD 0
def FitsK (h:Int→Option Int) (tx mode:Int):Prop:=∀ o m,h o=some m→o≠tx→clash m mode=false
def behind (ws:List (Int×Int)) (tx mode:Int):Bool:=ws.any fun w=>decide (w.1<tx) && clash w.2 mode
def FreeK (h:Int→Option Int) (tx mode:Int) (ws:List (Int×Int)):Prop:=mode≤holdK h tx∨(FitsK h tx mode∧behind ws tx mode=false)
open Classical in
noncomputable def freeB (h:Int→Option Int) (tx mode:Int) (ws:List (Int×Int)):Bool:=decide (FreeK h tx mode ws)
def setH (h:Int→Option Int) (tx:Int) (v:Option Int):Int→Option Int:=fun o=>if o=tx then v else h o
def gainH (h:Int→Option Int) (tx mode:Int):Int→Option Int:=setH h tx (some (max (holdK h tx) mode))
def insW (ws:List (Int×Int)) (w:Int×Int):List (Int×Int):=ws.takeWhile (fun x=>decide (x.1<w.1))++w::ws.dropWhile (fun x=>decide (x.1<w.1))
def WoundsP (h:Int→Option Int) (tx mode:Int) (l:List Int):Prop:=l.Pairwise (· < ·)∧∀ o,o∈l↔(tx<o∧∃ m,h o=some m∧clash m mode=true)
noncomputable def q0p:(Int→Option Int)→List (Int×Int)→List (Int×Int)→(Int→Option Int)×List (Int×Int)×List (Int×Int)
 | h,left,[]=>(h,left,[])
 | h,left,w::ws=>if freeB h w.1 w.2 left then
   ((q0p (gainH h w.1 w.2) left ws).1,(q0p (gainH h w.1 w.2) left ws).2.1,w::(q0p (gainH h w.1 w.2) left ws).2.2)
  else q0p h (left++[w]) ws
def offW (ws:List (Int×Int)) (tx:Int):List (Int×Int):=ws.filter fun w=>!decide (w.1=tx)
noncomputable def relK (k:Kx) (tx:Int):Kx×List (Int×Int):=
 (⟨(q0p (setH k.h tx none) [] (offW k.ws tx)).1,(q0p (setH k.h tx none) [] (offW k.ws tx)).2.1⟩,(q0p (setH k.h tx none) [] (offW k.ws tx)).2.2)
def q9f (k:Kx):Prop:=(∀ o,k.h o=none)∧k.ws=[]
open Classical in
noncomputable def relO (k:Kx) (tx:Int):Option Kx:=if q9f (relK k tx).1 then none else some (relK k tx).1
noncomputable def relT (T:Tb) (tx:Int):Tb:=fun x=>(T x).bind fun k=>relO k tx
noncomputable def q19 (T:Tb) (tx:Int) (x:Sx):List Ak:=match T x with
 | none=>[]
 | some k=>(relK k tx).2.map fun g=>⟨g.1,x,g.2⟩
def KeysP (T:Tb) (ks:List Sx):Prop:=ks.Pairwise (· < ·)∧∀ x,x∈ks↔T x≠none
open Classical in
noncomputable def putT (T:Tb) (x:Sx) (k:Option Kx):Tb:=fun y=>if y=x then k else T y
def k0:Kx:=⟨fun _=>none,[]⟩
def atT (T:Tb) (x:Sx):Kx:=(T x).getD k0
theorem sorted_eq {α:Type} {lt:α→α→Prop} (hi:∀ a,¬lt a a) (ht:∀ a b c,lt a b→lt b c→lt a c) {l m:List α} (hl:l.Pairwise lt) (hm:m.Pairwise lt) (he:∀ a,a∈l↔a∈m):l=m:=by
 have nd:∀ {l:List α},l.Pairwise lt→l.Nodup:=fun h=>List.Pairwise.imp (R:=lt) (by intro a b h e;subst e;exact hi _ h) h
 exact List.Perm.eq_of_pairwise (le:=lt) (fun a b _ _ h1 h2=>absurd (ht _ _ _ h1 h2) (hi a)) hl hm ((List.perm_ext_iff_of_nodup (nd hl) (nd hm)).2 he)
theorem sorted_eqI {l m:List Int} (hl:l.Pairwise (· < ·)) (hm:m.Pairwise (· < ·)) (he:∀ a,a∈l↔a∈m):l=m:=
 sorted_eq (fun a=>Int.lt_irrefl a) (fun _ _ _ h1 h2=>Int.lt_trans h1 h2) hl hm he
def sortI (l:List Int):List Int:=l.mergeSort (fun x y=>decide (x≤y))
def sortS (l:List Sx):List Sx:=l.mergeSort (fun x y=>decide (x≤y))
theorem sortI_lt {l:List Int} (h:l.Nodup):(sortI l).Pairwise (· < ·):=by
 have h1:=List.pairwise_mergeSort (le:=fun x y:Int=>decide (x≤y)) (fun _ _ _ h1 h2=>by simp at *;omega) (fun a b=>by simp;omega) l
 have h2:(sortI l).Nodup:=((List.mergeSort_perm l _).nodup_iff).2 h
 exact h1.imp₂ (fun a b h1 (h2:a≠b)=>by simp at h1;omega) h2
theorem sortS_lt {l:List Sx} (h:l.Nodup):(sortS l).Pairwise (· < ·):=by
 have h1:=List.pairwise_mergeSort (le:=fun x y:Sx=>decide (x≤y)) (fun a b c h1 h2=>by simp only[decide_eq_true_eq] at *;exact List.le_trans h1 h2) (fun a b=>by simpa using List.le_total a b) l
 have h2:(sortS l).Nodup:=((List.mergeSort_perm l _).nodup_iff).2 h
 refine h1.imp₂ (fun a b h1 (h2:a≠b)=>?_) h2
 simp only[decide_eq_true_eq] at h1
 exact Classical.byContradiction fun h=>h2 (List.le_antisymm h1 (List.not_lt.1 h))
theorem mem_sortI {l:List Int} {a:Int} : a∈sortI l↔a∈l:=(List.mergeSort_perm l _).mem_iff
theorem mem_sortS {l:List Sx} {a:Sx} : a∈sortS l↔a∈l:=(List.mergeSort_perm l _).mem_iff
def q16 (m:Int):Prop:=m=1∨m=2
theorem q4c {h:Int→Option Int} {tx mode:Int} {ws:List (Int×Int)} : freeB h tx mode ws=true↔FreeK h tx mode ws:=by classical (unfold freeB;exact decide_eq_true_iff)
theorem freeB_false {h:Int→Option Int} {tx mode:Int} {ws:List (Int×Int)} : freeB h tx mode ws=false↔¬FreeK h tx mode ws:=by classical (unfold freeB;exact decide_eq_false_iff_not)
theorem q30 (h:Int→Option Int) (left:List (Int×Int)):q0p h left []=(h,left,[]):=by simp[q0p]
def q0w (ws:List (Int×Int)) (tx:Int):Bool:=ws.any fun w=>decide (w.1=tx)
inductive LockP (T:Tb) (x:Ak):Bool→List Int→Int→Tb→Prop where
 | arg (h:¬q16 x.mode):LockP T x false [] 1 T
 | long (h:q16 x.mode) (hl:20<x.key.length):LockP T x false [] 4 T
 | twice (h:q16 x.mode) (hl:x.key.length≤20) (hw:q0w (atT T x.key).ws x.tx=true):LockP T x false [] 9 T
 | got (h:q16 x.mode) (hl:x.key.length≤20) (hw:q0w (atT T x.key).ws x.tx=false) (hf:freeB (atT T x.key).h x.tx x.mode (atT T x.key).ws=true) :
   LockP T x true [] 0 (putT T x.key (some ⟨gainH (atT T x.key).h x.tx x.mode,(atT T x.key).ws⟩))
 | full (h:q16 x.mode) (hl:x.key.length≤20) (hw:q0w (atT T x.key).ws x.tx=false) (hf:freeB (atT T x.key).h x.tx x.mode (atT T x.key).ws=false) (h50:(atT T x.key).ws.length=50):LockP T x false [] 4 T
 | waits (h:q16 x.mode) (hl:x.key.length≤20) (hw:q0w (atT T x.key).ws x.tx=false) (hf:freeB (atT T x.key).h x.tx x.mode (atT T x.key).ws=false) (h50:(atT T x.key).ws.length≠50)
   {l:List Int} (hl:WoundsP (atT T x.key).h x.tx x.mode l):LockP T x false l 0 (putT T x.key (some ⟨(atT T x.key).h,insW (atT T x.key).ws (x.tx,x.mode)⟩))
theorem free_k0 (tx mode:Int):freeB k0.h tx mode k0.ws=true:=q4c.2 (.inr ⟨fun _ _ h=>(by cases h),rfl⟩)
theorem q9x {ws:List (Int×Int)} {w v:Int×Int} : v∈insW ws w↔v=w∨v∈ws:=by
 unfold insW
 have:v∈ws↔v∈ws.takeWhile (fun x=>decide (x.1<w.1))∨v∈ws.dropWhile (fun x=>decide (x.1<w.1)):=by
  rw[← List.mem_append,List.takeWhile_append_dropWhile]
 rw[this,List.mem_append,List.mem_cons]
 constructor
 ·rintro (h|h|h)
  ·exact .inr (.inl h)
  ·exact .inl h
  ·exact .inr (.inr h)
 ·rintro (h|h|h)
  ·exact .inr (.inl h)
  ·exact .inl h
  ·exact .inr (.inr h)
theorem q7y {w:Int×Int} : ∀ {ws:List (Int×Int)},ws.Pairwise (·.1 < ·.1)→(∀ v∈ws,v.1≠w.1)→(insW ws w).Pairwise (·.1 < ·.1)
 | [],_,_=>by simp[insW]
 | v::ws,h,hn=>by
  rw[List.pairwise_cons] at h
  have ih:=q7y h.2 (fun u hu=>hn u (List.mem_cons_of_mem _ hu))
  have hv:=hn v List.mem_cons_self
  by_cases e:v.1<w.1
  ·have e1:insW (v::ws) w=v::insW ws w:=by simp[insW,e]
   rw[e1,List.pairwise_cons]
   refine⟨fun u hu=>?_,ih⟩
   rcases q9x.1 hu with rfl|hu
   ·exact e
   ·exact h.1 u hu
  ·have e1:insW (v::ws) w=w::v::ws:=by simp[insW,e]
   rw[e1,List.pairwise_cons,List.pairwise_cons]
   refine⟨fun u hu=>?_,h⟩
   rcases List.mem_cons.1 hu with rfl|hu
   ·omega
   ·have:=h.1 u hu;omega
theorem insW_len (ws:List (Int×Int)) (w:Int×Int):(insW ws w).length=ws.length+1:=by
 have:(ws.takeWhile (fun x=>decide (x.1<w.1))).length+(ws.dropWhile (fun x=>decide (x.1<w.1))).length=ws.length:=by
  rw[← List.length_append,List.takeWhile_append_dropWhile]
 unfold insW
 simp
 omega
structure Vx where
 t:Int
 v:Sx
 g:Bool
deriving DecidableEq
structure Rx where
 key:Sx
 v:Sx
 g:Bool
 t:Int
deriving DecidableEq
abbrev Kp:=Sx→List Vx
def lessV (l:List Vx) (t:Int):List Vx:=l.takeWhile (fun x=>decide (x.t<t))
def hasV (l:List Vx) (t:Int):Bool:=l.any (fun x=>decide (x.t=t))
def insV (l:List Vx) (v:Vx):List Vx:=lessV l v.t++v::l.drop (lessV l v.t).length
def getV (l:List Vx) (t:Int):Option Vx:=(l.takeWhile (fun x=>decide (x.t≤t))).getLast?
def tellV (o:Option Vx):Sx×Bool:=match o with
 | none=>([],false)
 | some x=>if x.g then([],false) else(x.v,true)
abbrev q2o (l:List Vx):Prop:=l.Pairwise (·.t < ·.t)
theorem q2d {α:Type} {p:α→Bool} {l:List α} {a:α} (h:a∈l.takeWhile p):p a=true:=by
 induction l with
 | nil=>cases h
 | cons b l ih=>
  rw[List.takeWhile_cons] at h
  split at h
  ·rcases List.mem_cons.1 h with rfl|h
   ·assumption
   ·exact ih h
  ·cases h
theorem q3n {l:List Vx} (hs:q2o l) (t:Int) (a:Vx):a∈l.takeWhile (fun x=>decide (x.t≤t))↔a∈l∧a.t≤t:=by
 constructor
 ·intro h;exact⟨(List.takeWhile_prefix _).subset h,by simpa using q2d h⟩
 ·rintro ⟨h1,h2⟩
  induction l with
  | nil=>cases h1
  | cons b l ih=>
   have hs:=List.pairwise_cons.1 hs
   rw[List.takeWhile_cons]
   rcases List.mem_cons.1 h1 with rfl|h1
   ·rw[if_pos (by simpa using h2)];exact List.mem_cons_self
   ·have:=hs.1 a h1
    rw[if_pos (by simp;omega)]
    exact List.mem_cons_of_mem _ (ih hs.2 h1)
theorem mem_less {l:List Vx} (hs:q2o l) (t:Int) (a:Vx):a∈lessV l t↔a∈l∧a.t<t:=by
 unfold lessV
 constructor
 ·intro h;exact⟨(List.takeWhile_prefix _).subset h,by simpa using q2d h⟩
 ·rintro ⟨h1,h2⟩
  induction l with
  | nil=>cases h1
  | cons b l ih=>
   have hs:=List.pairwise_cons.1 hs
   rw[List.takeWhile_cons]
   rcases List.mem_cons.1 h1 with rfl|h1
   ·rw[if_pos (by simpa using h2)];exact List.mem_cons_self
   ·have:=hs.1 a h1
    rw[if_pos (by simp;omega)]
    exact List.mem_cons_of_mem _ (ih hs.2 h1)
theorem getV_some {l:List Vx} (hs:q2o l) {t:Int} {x:Vx} : getV l t=some x↔x∈l∧x.t≤t∧∀ y∈l,y.t≤t→y.t≤x.t:=by
 have hsub:q2o (l.takeWhile (fun x=>decide (x.t≤t))):=hs.sublist (List.takeWhile_prefix _).sublist
 unfold getV
 constructor
 ·intro h
  have hm:=List.mem_of_getLast? h
  have h2:=(q3n hs t x).1 hm
  refine⟨h2.1,h2.2,fun y hy hyt=>?_⟩
  have hy2:=(q3n hs t y).2 ⟨hy,hyt⟩
  obtain⟨ys,e⟩:=List.getLast?_eq_some_iff.1 h
  rw[e] at hy2 hsub
  rcases List.mem_append.1 hy2 with h3|h3
  ·have:=(List.pairwise_append.1 hsub).2.2 y h3 x (by simp);omega
  ·rw[List.mem_singleton] at h3;rw[h3];omega
 ·rintro ⟨h1,h2,h3⟩
  have hm:=(q3n hs t x).2 ⟨h1,h2⟩
  cases e:(l.takeWhile (fun x=>decide (x.t≤t))).getLast? with
  | none=>rw[List.getLast?_eq_none_iff] at e;rw[e] at hm;cases hm
  | some y=>
   have hy:=List.mem_of_getLast? e
   have hy2:=(q3n hs t y).1 hy
   have h4:=h3 y hy2.1 hy2.2
   obtain⟨ys,e2⟩:=List.getLast?_eq_some_iff.1 e
   rw[e2] at hm hsub
   rcases List.mem_append.1 hm with h5|h5
   ·have:=(List.pairwise_append.1 hsub).2.2 x h5 y (by simp);omega
   ·rw[List.mem_singleton] at h5;rw[h5]
theorem getV_found {l:List Vx} (hs:q2o l) {t:Int} (h:hasV l t=true):getV l t=l[(lessV l t).length]?∧(lessV l t).length<l.length:=by
 unfold hasV at h
 obtain⟨x,hx,hxt⟩:=List.any_eq_true.1 h
 simp only[decide_eq_true_eq] at hxt
 have hpre:=List.takeWhile_append_dropWhile (p:=fun x=>decide (x.t<t)) (l:=l)
 have hxd:x∈l.dropWhile (fun x=>decide (x.t<t)):=by
  rw[← hpre] at hx
  rcases List.mem_append.1 hx with h1|h1
  ·have:=q2d h1;simp at this;omega
  ·exact h1
 cases e:l.dropWhile (fun x=>decide (x.t<t)) with
 | nil=>rw[e] at hxd;cases hxd
 | cons y r=>
  have hy:¬y.t<t:=by
   have:=List.head_dropWhile_not (p:=fun x=>decide (x.t<t)) (l:=l) (by rw[e];simp)
   simp only[e,List.head_cons] at this
   simpa using this
  have hyx:y=x:=by
   rw[e] at hxd
   rcases List.mem_cons.1 hxd with h1|h1
   ·exact h1.symm
   ·rw[e] at hpre
    rw[← hpre] at hs
    have:=(List.pairwise_cons.1 (List.pairwise_append.1 hs).2.1).1 x h1
    omega
  subst hyx
  rw[e] at hpre
  have hl:l=lessV l t++y::r:=hpre.symm
  have hi:l[(lessV l t).length]? = some y:=by
   conv=>lhs;rw[hl]
   rw[List.getElem?_append_right (by exact Nat.le_of_eq (by rw[← hl]))]
   have e0:(lessV l t).length-(lessV l t).length=0:=by omega
   simp[← hl]
  refine⟨?_,?_⟩
  ·rw[hi];exact(getV_some hs).2 ⟨hx,by omega,fun z _ hz=>by omega⟩
  ·exact(List.getElem?_eq_some_iff.1 hi).1
theorem less_eq_le {l:List Vx} {t:Int} (h:hasV l t=false):l.takeWhile (fun x=>decide (x.t≤t))=lessV l t:=by
 unfold lessV
 unfold hasV at h
 rw[List.any_eq_false] at h
 induction l with
 | nil=>rfl
 | cons a l ih=>
  have ha:=h a List.mem_cons_self
  simp only[decide_eq_true_eq] at ha
  rw[List.takeWhile_cons,List.takeWhile_cons,ih (fun x hx=>h x (List.mem_cons_of_mem _ hx))]
  by_cases e:a.t<t
  ·rw[if_pos (by simp;omega),if_pos (by simpa using e)]
  ·rw[if_neg (by simp;omega),if_neg (by simpa using e)]
theorem getV_other {l:List Vx} {t:Int} (h:hasV l t=false):((lessV l t).length=0→getV l t=none)∧(0<(lessV l t).length→getV l t=l[(lessV l t).length-1]?∧(lessV l t).length-1<l.length):=by
 unfold getV
 rw[less_eq_le h]
 have hp:lessV l t <+: l:=List.takeWhile_prefix _
 refine⟨fun h0=>by rw[List.length_eq_zero_iff.1 h0];rfl,fun h0=>?_⟩
 have hl:=hp.length_le
 refine⟨?_,by omega⟩
 rw[List.getLast?_eq_getElem?]
 obtain⟨r,hr⟩:=hp
 conv=>rhs;rw[← hr]
 rw[List.getElem?_append_left (by rw[hr];omega),hr]
theorem drop_less (l:List Vx) (t:Int):l.drop (lessV l t).length=l.dropWhile (fun x=>decide (x.t<t)):=by
 have h:=List.takeWhile_append_dropWhile (p:=fun x:Vx=>decide (x.t<t)) (l:=l)
 unfold lessV
 conv=>lhs;arg 2;rw[← h]
 rw[h]
 have:=List.drop_left (l₁:=l.takeWhile (fun x=>decide (x.t<t))) (l₂:=l.dropWhile (fun x=>decide (x.t<t)))
 rw[h] at this
 exact this
theorem insV_mem {l:List Vx} {v x:Vx} : x∈insV l v↔x=v∨x∈l:=by
 unfold insV
 rw[drop_less]
 have:x∈l↔x∈lessV l v.t∨x∈l.dropWhile (fun x=>decide (x.t<v.t)):=by
  rw[← List.mem_append];unfold lessV;rw[List.takeWhile_append_dropWhile]
 rw[this,List.mem_append,List.mem_cons]
 constructor
 ·rintro (h|h|h)
  ·exact .inr (.inl h)
  ·exact .inl h
  ·exact .inr (.inr h)
 ·rintro (h|h|h)
  ·exact .inr (.inl h)
  ·exact .inl h
  ·exact .inr (.inr h)
theorem insV_sorted {l:List Vx} {v:Vx} (hs:q2o l) (hn:hasV l v.t=false):q2o (insV l v):=by
 unfold hasV at hn
 rw[List.any_eq_false] at hn
 unfold insV
 rw[drop_less]
 have h:=List.takeWhile_append_dropWhile (p:=fun x:Vx=>decide (x.t<v.t)) (l:=l)
 have hs2:=hs
 rw[← h] at hs2
 have hs3:=List.pairwise_append.1 hs2
 have hd:∀ x∈l.dropWhile (fun x=>decide (x.t<v.t)),v.t<x.t:=fun x hx=>by
  have hne:=hn x ((List.dropWhile_sublist _).subset hx)
  simp only[decide_eq_true_eq] at hne
  refine Classical.byContradiction (fun hlt=>?_)
  have h1:x∈lessV l v.t:=(mem_less hs v.t x).2 ⟨(List.dropWhile_sublist _).subset hx,by omega⟩
  have:=hs3.2.2 x h1 x hx
  omega
 refine List.pairwise_append.2 ⟨hs3.1,List.pairwise_cons.2 ⟨hd,hs3.2.1⟩,fun a ha b hb=>?_⟩
 have ha2:=((mem_less hs v.t a).1 ha).2
 rcases List.mem_cons.1 hb with rfl|hb
 ·exact ha2
 ·have:=hd b hb;omega
theorem q9y (l:List Vx) (v:Vx):(insV l v).length=l.length+1:=by
 unfold insV
 have:(lessV l v.t).length≤l.length:=(List.takeWhile_prefix _).length_le
 simp;omega
def ofR (r:Rx):Vx:=⟨r.t,if r.g then [] else r.v,r.g⟩
def putK (K:Kp) (x:Sx) (l:List Vx):Kp:=fun y=>if y=x then l else K y
section
open Go.RowKit Go.Maps Go.WideMaps
section
variable {P:Program} {kt:TypeId} {κ:Type} {C:KeyC P kt κ} {w:World} {ops:Array Oper} {rest:List Oper} {o:Oper} {a:Act} {Q:Exit→Act→World→Prop} {b r n cnt:Nat} {m:κ→Option Value} {left:κ→Bool}
theorem q0z.left_eq (h:q0z C w b r n m left cnt):w.rangeLeft b r=cnt:=by obtain⟨D,l,hr,_⟩:=h;exact hr.left_eq
theorem q23 (hg:o.guard=none) (mo:Operand) (t e:TypeId) (hop:o.op=Op.range t mo) (ht:P.underlying t=some (.map kt e)) (hm:a.eval mo=.map (some b)) (hown:MapG C w b n m)
  (hK:∀ w' cnt,q0z C w' b w.heap.size n m (fun x=>(m x).isSome) cnt→Fr (fun _=>False) w w'→w'.heap.size=w.heap.size+1→wpList P ops Q rest (a.put o.dst (.pointer (some ⟨w.heap.size,0,none⟩))) w') :
  wpList P ops Q (o::rest) a w:=by
 refine wpList_plain hg fun K' hK'=>?_
 obtain⟨w',cnt,hrun,r1,r2,r3⟩:=hown.range ht
 unfold Oper.wp
 simp[execOp,hop,hm,hrun,Result.andThen]
 exact hK' _ _ (hK w' cnt r1 r2 r3)
open Classical in
theorem q2i (hg:o.guard=none) (it:Operand) (hop:o.op=Op.next it false) (hit:a.eval it=.pointer (some ⟨r,0,none⟩)) (h:q0z C w b r n m left cnt)
  (hDone:(∀ x,C.ok x→left x=false)→wpList P ops Q rest (a.put o.dst (.tuple #[.bool false])) w)
  (hMore:∀ (x:κ) (v:Value) (w':World) (cnt':Nat),C.ok x→left x=true→m x=some v→q0z C w' b r n m (fun y=>left y && !decide (y=x)) cnt'→cnt'<cnt→
   Fr (fun k=>k=r) w w'→w'.heap.size=w.heap.size→(Instr.entry (.pointer (some ⟨r,0,none⟩))).run P w'=.ok (.tuple #[C.val x,v]) w'→wpList P ops Q rest (a.put o.dst (.tuple #[.bool true,C.val x,v])) w') :
  wpList P ops Q (o::rest) a w:=by
 refine wpList_plain hg fun K' hK'=>?_
 unfold Oper.wp
 rcases h.next o.type with ⟨h0,hl,hrun⟩|⟨x,v,w',cnt',hx,hlk,hm,hrun,hrg,hlt,hf,hsz,hen⟩
 ·simp[execOp,hop,hit,hrun,Result.andThen]
  exact hK' _ _ (hDone hl)
 ·simp[execOp,hop,hit,hrun,Result.andThen]
  exact hK' _ _ (hMore x v w' cnt' hx hlk hm hrg hlt hf hsz hen)
end
end
theorem v_und:Tryz.prog.underlying 142=some (.slice 145):=Tryz.underlying142
theorem q2p:Tryz.prog.elem 142=145:=by kernel_rfl
theorem q2j (w:World):(sizeOf 145).run Tryz.prog w=.ok 3 w:=by kernel_rfl
theorem v_info:(Tryz.prog.info? 145).map (fun i=>(i.zero,i.size,i.bytes))=some (some (.agg #[.int .i64 0,.string ⟨#[]⟩,.bool false]),3,32):=by kernel_rfl
theorem q5q:(Tryz.prog.info? 145).map (·.size)=some 3:=by kernel_rfl
def q1z (base n i:Nat) (V:Value) (vs xs:List Value) (w:World) (e:Ending) (w':World):Prop:=
 ∃ V',e=.returned V'∧w'.ownsRow base 145 3 V' (n+1) (putIn 3 i vs xs)∧Moved w w' V.ownBlock V'.ownBlock
theorem v_shape {w:World} {g:Nat} {cs:Array Value} {t:TypeId} (h:w.heap[g]? = some (.cells cs t (0,0))):w.shape? g=some (t,cs.size):=by
 unfold World.shape?;rw[h]
theorem v_frozen {w:World} {g o:Nat} {cs:Array Value} {t:TypeId} (h:w.heap[g]? = some (.cells cs t (0,0))):w.frozen? ⟨g,o,none⟩=false:=Blk.frozen (show Blk w g t cs from h) o
theorem vins_end (base n vb vc:Nat) (V:Value) (xs vs:List Value) (w:World) (hrow:w.ownsRow base 145 3 V n xs) (hn:n≤100000) (hvs:vs.length=3) (hv1:∀ u∈vs,u.oneCell'=true)
  (hvb:Blk w vb 145 vs.toArray) (hb:base≤w.heap.size) :
  Calls Tryz.prog 108 #[V,.int .i64 n,.slice (some ⟨vb,0,none⟩) 1 vc] w (q1z base n n V vs xs w):=by
 obtain⟨A,c,rfl,hnc,_⟩:=q01 hrow
 obtain⟨r12,hs12⟩:=q0x 142 v_und q2p q2j w A n c n (Nat.le_refl _)
 have hrd:Reads w w.heap.size 3 (some ⟨vb,0,none⟩) 1 vs:=⟨by rw[hvs],fun _=>⟨_,rfl,hvb.lt,fun j u hu=>by
  rw[Addr.add_lit,Nat.zero_add]
  exact(hvb.cell j).trans (by simpa using hu)⟩⟩
 have hput:putIn 3 n vs xs=xs++vs:=by
  unfold putIn
  rw[List.take_of_length_le (by rw[hrow.1];omega),List.drop_of_length_le (by rw[hrow.1];omega),List.append_nil]
 have HROW:=LH hrow;clear hrow
 have HRD:=LH hrd;clear hrd
 have HPUT:=LH hput;clear hput
 have HV1:=LH hv1;clear hv1
 clear hvb hvs
 go_enter Tryz.func108,Tryz.ntmps108
 go_wp2_with (at_builtin;refine q1u w rfl _ _ 142 rfl base 145 _ 3 32 v_und v_info rfl (by decide) _ n xs rfl HROW.out _ _ 1 vc vs rfl HRD.out HV1.out (by unfold maxLen;omega) (by omega) hb ?_;intro V2 w2 ho2 hm2)
 have hfin:q1z base n n (.slice A n c) vs xs w (.returned V2) w2:=⟨V2,rfl,by rw[HPUT.out];exact ho2,hm2⟩
 have HF:=LH hfin;clear hfin ho2 hm2
 go_wp2_with fail
 go_ret
 exact HF.out
theorem vins_shift (base g n c i vb vc:Nat) (xs vs:List Value) (w:World) (hrow:w.ownsRow base 145 3 (.slice (some ⟨g,0,none⟩) n c) n xs) (hi:i<n) (hroom:n+1≤c) (hn:n≤100000) (hxs:∀ u∈xs,u.oneCell'=true) (hvs:vs.length=3) (hv1:∀ u∈vs,u.oneCell'=true)
  (hvb:Blk w vb 145 vs.toArray) (hne:vb≠g) (_hb:base≤w.heap.size) :
  Calls Tryz.prog 108 #[.slice (some ⟨g,0,none⟩) n c,.int .i64 i,.slice (some ⟨vb,0,none⟩) 1 vc] w (q1z base n i (.slice (some ⟨g,0,none⟩) n c) vs xs w):=by
 obtain⟨r12,hs12⟩:=q0x 142 v_und q2p q2j w (some ⟨g,0,none⟩) n c i (by omega)
 obtain⟨ex,hex,hown1⟩:=ownK_more hrow hroom
 obtain⟨cur,q1,hg,q2,q3,hcs,q4⟩:=q32 hrow
 clear q1 q2 q3 q4
 have hcur:cur.size≠0:=by rw[hcs];have:0<c*3:=Nat.mul_pos (by omega) (by decide);omega
 have hov:∀ lb cb,(callFunc 126 #[.slice (some ⟨vb,0,none⟩) 1 vc,.slice (some ⟨g,(i+1)*3,none⟩) lb cb]).run Tryz.prog w=.ok (.value (.bool false)) w:=fun lb cb=>by
  rw[run_callFunc_extern Tryz.func126 (by kernel_rfl) (by kernel_rfl) (by kernel_rfl) (e:=Extern.SlicesOverlaps.overlaps #[142,142] #[4]) (by kernel_rfl),
   Lib.run_overlaps_apart w 142 4 145 v_und 3 q2j ⟨vb,0,none⟩ ⟨g,(i+1)*3,none⟩ 1 vc lb cb hne _ _ _ _ (v_shape hvb) (v_shape hg) hcur (v_frozen hvb) (v_frozen hvb)]
  rfl
 have hxl:=hrow.1
 obtain⟨w2,hrun2,hown2,hf2⟩:=q1h (w:=w.drew) 142 142 145 v_und q5q (show w.drew.ownsRow base 145 3 (.slice (some ⟨g,0,none⟩) (n+1) c) (n+1) (xs++ex) from hown1) (i:=i+1) (m:=n-i) (by omega) (xs.drop (i*3))
  (by rw[List.length_drop,hxl,Nat.sub_mul]) ⟨g,i*3,none⟩ (fun j v hj=>by
   rw[Addr.add_lit]
   rw[List.getElem?_drop] at hj
   have hjl:i*3+j<n*3:=by rw[← hxl];exact(List.getElem?_eq_some_iff.1 hj).1
   show w.cell? _=_
   exact(hrow.cellAt _ hjl).trans hj) (fun u hu=>hxs u (List.mem_of_mem_drop hu)) (n-i) (c-(i+1)) (n+1-i) (c-i) (by show min _ _=_;omega)
 have hf2w:Fr (fun k=>k=g) w w2:=(Fr.refl _ w).drew.trans hf2
 have hvb2:Blk w2 vb 145 vs.toArray:=hf2w.blk hvb hne
 obtain⟨w3,hrun3,hown3,hf3⟩:=q1h (w:=w2) 142 142 145 v_und q5q hown2 (i:=i) (m:=1) (by omega) vs (by rw[hvs]) ⟨vb,0,none⟩ (fun j v hj=>by
   rw[Addr.add_lit,Nat.zero_add]
   exact(hvb2.cell j).trans (by simpa using hj)) hv1 (n+1-i) (c-i) 1 vc (by show min _ _=_;omega)
 have hcap:=(q2u hrow).2
 rw[q7i hxl hi hex] at hown3
 have hfin:q1z base n i (.slice (some ⟨g,0,none⟩) n c) vs xs w (.returned (.slice (some ⟨g,0,none⟩) (n+1) c)) w3:=
  ⟨_,rfl,hown3,(hf2w.trans hf3).mono (fun k _ h=>by rw[h];rfl),.inl rfl⟩
 have s1:=q2x 142 v_und q2p q2j w g n c (n+1) ((n:Int)+1) (by omega) hroom
 have s2:=fun W=>q0s 142 v_und q2p q2j W g (n+1) c (i+1) ((i:Int)+1) (by omega) (by omega) (by omega)
 rw[show n+1-(i+1)=n-i by omega] at s2
 have s3:=fun W=>q0s 142 v_und q2p q2j W g (n+1) c i (i:Int) rfl (by omega) (by omega)
 have HF:=LH hfin;clear hfin hown1 hown2 hown3 hf2 hf3 hf2w hrow hvb hvb2 hg hcs hcur hex
 have hwi:IntKind.i64.wrap ((i:Int)+1)=(i:Int)+1:=IntWalk.i64_in _ (by omega)
 have hwn:IntKind.i64.wrap ((n:Int)+1)=(n:Int)+1:=IntWalk.i64_in _ (by omega)
 have HR2:=LH hrun2;clear hrun2
 have HR3:=LH hrun3;clear hrun3
 have HX1:=LH hxs;clear hxs
 clear hv1 hvs hxl
 have d1:((i:Int) == (n:Int))=false:=by rw[beq_eq_false_iff_ne];omega
 have d2:decide ((c:Int)<(n:Int)+1)=false:=by rw[decide_eq_false_iff_not];omega
 go_enter Tryz.func108,Tryz.ntmps108
 go_wp2_with (simp only[hov])
 refine wp_region_any (by kernel_rfl) ?_
 change wpAny _ _ _ _ _ _ _ (World.drew _)
 refine q4i (fun _=>True) 9 ?_
 have HCC:True:=trivial
 refine nC 0 rfl (fun _ _ _ h=>h) HCC (fun w' hw'=>by go_simp;rfl) ?_
 refine nC 1 rfl (fun _ _ _ h=>h) HCC (fun w' hw'=>by go_simp;rfl) ?_
 refine nC 2 rfl (fun _ _ _ h=>h) HCC (fun w' hw'=>by go_simp;rfl) ?_
 refine nC 3 rfl (fun _ _ _ h=>h) HCC (fun w' hw'=>by go_simp;rfl) ?_
 refine nC 4 rfl (fun _ _ _ h=>h) HCC (fun w' hw'=>by go_simp;rfl) ?_
 refine nC 5 rfl (fun _ _ _ h=>h) HCC (fun w' hw'=>by go_simp;rfl) ?_
 refine nC 6 rfl (fun _ _ _ h=>h) HCC (fun w' hw'=>by go_simp;rfl) ?_
 refine nC 7 rfl (fun _ _ _ h=>h) HCC (fun w' hw'=>by go_simp;rfl) ?_
 refine nO 8 rfl (fun K hK=>?_)
 refine q22 (.tmp 73) (.tmp 76) 142 142 rfl (.slice (some ⟨g,(i+1)*3,none⟩) (n-i) (c-(i+1))) (.slice (some ⟨g,i*3,none⟩) (n+1-i) (c-i)) _ (by simp[Act.eval,Act.put]) (by simp[Act.eval,Act.put]) (HR2.out _) ?_
 go_simp
 refine hK _ _ (fun _=>HCC) ?_
 clear hK K
 refine ndone (by kernel_rfl) ?_ _
 clear HCC
 go_wp2_with (refine q1e rfl (.tmp 80) (.tmp 81) 142 142 rfl (.slice (some ⟨g,i*3,none⟩) (n+1-i) (c-i)) (.slice (some ⟨vb,0,none⟩) 1 vc) _ rfl rfl (HR3.out _) ?_)
 go_ret
 exact HF.out
theorem vins_grow (base g n c i vb vc:Nat) (xs vs:List Value) (w:World) (hrow:w.ownsRow base 145 3 (.slice (some ⟨g,0,none⟩) n c) n xs) (hi:i<n) (hroom:c<n+1) (hn:n≤100000) (hxs:∀ u∈xs,u.oneCell'=true) (hvs:vs.length=3) (hv1:∀ u∈vs,u.oneCell'=true)
  (hvb:Blk w vb 145 vs.toArray) (hb:base≤w.heap.size) :
  Calls Tryz.prog 108 #[.slice (some ⟨g,0,none⟩) n c,.int .i64 i,.slice (some ⟨vb,0,none⟩) 1 vc] w (q1z base n i (.slice (some ⟨g,0,none⟩) n c) vs xs w):=by
 obtain⟨r12,hs12⟩:=q0x 142 v_und q2p q2j w (some ⟨g,0,none⟩) n c i (by omega)
 have hc:=q2u hrow
 have hxl:=hrow.1
 obtain⟨i0,hi0,hz0,hsz0,hby0⟩:=info_parts v_info
 have hgl:g<w.heap.size:=(hrow.lt g rfl).2
 obtain⟨c',w1,hrun1,hown1,hf1,hz1⟩:=q8z (w:=w) 142 3 i0 _ .i64 .i64 v_und Tryz.underlying3 hi0 hz0 hsz0 rfl (by decide) (q3m hrow (i:=i) (by omega)) (k:=n+1-i) (by omega) (by omega) (by omega) (by rw[hby0];decide) (fun u hu=>hxs u (List.mem_of_mem_take hu)) hb
 rw[show i+(n+1-i)=n+1 by omega] at hrun1 hown1
 have hc':=(q2u hown1).1
 have hvb1:Blk w1 vb 145 vs.toArray:=hf1.blk hvb (fun h=>h)
 have hrow1:=hf1.own hrow (fun _ _ h=>h)
 have hvlt:=hvb.lt
 obtain⟨w2,hrun2,hown2,hf2⟩:=q1h (w:=w1) 142 142 145 v_und q5q hown1 (i:=i) (m:=1) (by omega) vs (by rw[hvs]) ⟨vb,0,none⟩ (fun j v hj=>by
   rw[Addr.add_lit,Nat.zero_add]
   exact(hvb1.cell j).trans (by simpa using hj)) hv1 (n+1-i) (c'-i) 1 vc (by show min _ _=_;omega)
 have hrow2:=hf2.own hrow1 (fun k hk e=>by
   have:g=k:=by simpa [Value.ownBlock] using hk
   omega)
 obtain⟨w3,hrun3,hown3,hf3⟩:=q1h (w:=w2.drew) 142 142 145 v_und q5q (show w2.drew.ownsRow base 145 3 (.slice (some ⟨w.heap.size,0,none⟩) (n+1) c') (n+1) _ from hown2) (i:=i+1) (m:=n-i) (by omega) (xs.drop (i*3))
  (by rw[List.length_drop,hxl,Nat.sub_mul]) ⟨g,i*3,none⟩ (fun j v hj=>by
   rw[Addr.add_lit]
   rw[List.getElem?_drop] at hj
   have hjl:i*3+j<n*3:=by rw[← hxl];exact(List.getElem?_eq_some_iff.1 hj).1
   show w2.cell? _=_
   exact(hrow2.cellAt _ hjl).trans hj) (fun u hu=>hxs u (List.mem_of_mem_drop hu)) (n-i) (c'-(i+1)) (n-i) (c-i) (by show min _ _=_;omega)
 rw[q61 hxl (by omega) (by rw[Array.length_toList,size_zeroCells];rfl) hvs] at hown3
 have hfw:Fr (fun k=>some k=Value.ownBlock (.slice (some ⟨g,0,none⟩) n c)) w w3:=(((hf1.trans' hf2 (fun k hk (e:k=w.heap.size)=>by omega)).drew).trans' hf3 (fun k hk (e:k=w.heap.size)=>by omega)).mono (fun k _ h=>h.elim)
 have hfin:q1z base n i (.slice (some ⟨g,0,none⟩) n c) vs xs w (.returned (.slice (some ⟨w.heap.size,0,none⟩) (n+1) c')) w3:=
  ⟨_,rfl,hown3,hfw,.inr ⟨_,rfl,Nat.le_refl _⟩⟩
 have hk1:(n:Int)+1-i=((n+1-i:Nat):Int):=by omega
 have s1:=q2x 142 v_und q2p q2j w g n c i (i:Int) rfl (by omega)
 have s2:=fun W=>q0s 142 v_und q2p q2j W w.heap.size (n+1) c' i (i:Int) rfl (by omega) (by omega)
 have s3:=fun W=>q0s 142 v_und q2p q2j W w.heap.size (n+1) c' (i+1) ((i:Int)+1) (by omega) (by omega) (by omega)
 rw[show n+1-(i+1)=n-i by omega] at s3
 have s4:=fun W=>q0s 142 v_und q2p q2j W g n c i (i:Int) rfl (by omega) (by omega)
 have HF:=LH hfin;clear hfin hown1 hown2 hown3 hf1 hf2 hf3 hrow hrow1 hrow2 hvb hvb1 hi0 hz0 hsz0 hby0 hfw hz1
 have hwi:IntKind.i64.wrap ((i:Int)+1)=(i:Int)+1:=IntWalk.i64_in _ (by omega)
 have hwn:IntKind.i64.wrap ((n:Int)+1)=(n:Int)+1:=IntWalk.i64_in _ (by omega)
 rw[← hk1] at hrun1
 have HR1:=LH hrun1;clear hrun1 hk1
 have HR2:=LH hrun2;clear hrun2
 have HR3:=LH hrun3;clear hrun3
 have HX1:=LH hxs;clear hxs
 clear hv1 hvs hxl
 have d1:((i:Int) == (n:Int))=false:=by rw[beq_eq_false_iff_ne];omega
 have d2:decide ((c:Int)<(n:Int)+1)=true:=by rw[decide_eq_true_eq];omega
 go_enter Tryz.func108,Tryz.ntmps108
 go_wp2_with (first|(refine q1j rfl (.tmp 34) (.tmp 39) 142 3 rfl (.slice (some ⟨g,0,none⟩) i c) (.int .i64 ((n:Int)+1-i)) _ rfl rfl (HR1.out _) ?_)|(refine q1e rfl (.tmp 43) (.tmp 44) 142 142 rfl (.slice (some ⟨w.heap.size,i*3,none⟩) (n+1-i) (c'-i)) (.slice (some ⟨vb,0,none⟩) 1 vc) _ rfl rfl (HR2.out _) ?_))
 refine wp_region_any (by kernel_rfl) ?_
 change wpAny _ _ _ _ _ _ _ (World.drew _)
 refine q4i (fun _=>True) 9 ?_
 have HCC:True:=trivial
 refine nC 0 rfl (fun _ _ _ h=>h) HCC (fun w' hw'=>by go_simp;rfl) ?_
 refine nC 1 rfl (fun _ _ _ h=>h) HCC (fun w' hw'=>by go_simp;rfl) ?_
 refine nC 2 rfl (fun _ _ _ h=>h) HCC (fun w' hw'=>by go_simp;rfl) ?_
 refine nC 3 rfl (fun _ _ _ h=>h) HCC (fun w' hw'=>by go_simp;rfl) ?_
 refine nC 4 rfl (fun _ _ _ h=>h) HCC (fun w' hw'=>by go_simp;rfl) ?_
 refine nC 5 rfl (fun _ _ _ h=>h) HCC (fun w' hw'=>by go_simp;rfl) ?_
 refine nC 6 rfl (fun _ _ _ h=>h) HCC (fun w' hw'=>by go_simp;rfl) ?_
 refine nC 7 rfl (fun _ _ _ h=>h) HCC (fun w' hw'=>by go_simp;rfl) ?_
 refine nO 8 rfl (fun K hK=>?_)
 refine q22 (.tmp 50) (.tmp 53) 142 142 rfl (.slice (some ⟨w.heap.size,(i+1)*3,none⟩) (n-i) (c'-(i+1))) (.slice (some ⟨g,i*3,none⟩) (n-i) (c-i)) _ (by simp[Act.eval,Act.put]) (by simp[Act.eval,Act.put]) (HR3.out _) ?_
 go_simp
 refine hK _ _ (fun _=>HCC) ?_
 clear hK K
 refine ndone (by kernel_rfl) ?_ _
 clear HCC
 go_wp2_with fail
 go_ret
 exact HF.out
theorem vins_any (base n i vb vc:Nat) (V:Value) (xs vs:List Value) (w:World) (hrow:w.ownsRow base 145 3 V n xs) (hi:i≤n) (hn:n≤100000) (hxs:∀ u∈xs,u.oneCell'=true) (hvs:vs.length=3) (hv1:∀ u∈vs,u.oneCell'=true)
  (hvb:Blk w vb 145 vs.toArray) (hne:V.ownBlock≠some vb) (hb:base≤w.heap.size) :
  Calls Tryz.prog 108 #[V,.int .i64 i,.slice (some ⟨vb,0,none⟩) 1 vc] w (q1z base n i V vs xs w):=by
 by_cases e:i=n
 ·subst e
  exact vins_end base i vb vc V xs vs w hrow hn hvs hv1 hvb hb
 ·rcases hrow.2 with ⟨rfl,h0⟩|⟨g,c,cur,rfl,_,_,hnc,_⟩
  ·omega
  ·by_cases h:n+1≤c
   ·exact vins_shift base g n c i vb vc xs vs w hrow (by omega) h hn hxs hvs hv1 hvb (fun e=>hne (by rw[e];rfl)) hb
   ·exact vins_grow base g n c i vb vc xs vs w hrow (by omega) (by omega) hn hxs hvs hv1 hvb hb
abbrev VxR:=Vx
def q0f (x:Vx):List Value:=[.int .i64 x.t,.string ⟨x.v.toArray⟩,.bool x.g]
def vxV (x:Vx):Value:=.agg #[.int .i64 x.t,.string ⟨x.v.toArray⟩,.bool x.g]
theorem flatV:∀ (l:List Vx) (j:Nat) (x:Vx),l[j]? = some x→∀ i,i<3→(l.flatMap q0f)[j*3+i]? = (q0f x)[i]?
 | [],j,p,h,i,hi=>by simp at h
 | q::l,0,p,h,i,hi=>by
  simp at h
  subst h
  rw[List.flatMap_cons,List.getElem?_append_left (by show _<3;omega)]
  simp
 | q::l,j+1,p,h,i,hi=>by
  have h':l[j]? = some p:=by simpa using h
  have e:(j+1)*3+i=(j*3+i)+3:=by omega
  have e3:(q0f q).length=3:=rfl
  rw[e,List.flatMap_cons,List.getElem?_append_right (by rw[e3];omega),e3,Nat.add_sub_cancel]
  exact flatV l j p h' i hi
theorem q83 (l:List Vx):(l.flatMap q0f).length=l.length*3:=by
 induction l with
 | nil=>rfl
 | cons x l ih=>rw[List.flatMap_cons,List.length_append,ih];show 3+_=_;simp only[List.length_cons];omega
theorem q9c:∀ (l:List Vx) (k:Nat),(l.flatMap q0f).drop (k*3)=(l.drop k).flatMap q0f
 | l,0=>by simp
 | [],k+1=>by simp
 | x::l,k+1=>by
  rw[List.flatMap_cons,show(k+1)*3=3+k*3 by omega,← List.drop_drop,List.drop_left' (by rfl),List.drop_succ_cons]
  exact q9c l k
theorem q9b:∀ (l:List Vx) (k:Nat),(l.flatMap q0f).take (k*3)=(l.take k).flatMap q0f
 | l,0=>by simp
 | [],k+1=>by simp
 | x::l,k+1=>by
  rw[List.flatMap_cons,List.take_succ_cons,List.flatMap_cons,← q9b l k,show(k+1)*3=(q0f x).length+k*3 by show _=3+_;omega,List.take_length_add_append]
theorem q82 (l:List Vx):∀ u∈l.flatMap q0f,u.oneCell'=true:=fun u hu=>by
 obtain⟨p,_,hp⟩:=List.mem_flatMap.1 hu
 unfold q0f at hp
 rcases List.mem_cons.1 hp with rfl|hp
 ·rfl
 ·rcases List.mem_cons.1 hp with rfl|hp
  ·rfl
  ·rw[List.mem_singleton.1 hp];rfl
theorem Rd.cellsV {w:World} {B n j:Nat} {A:Option Addr} {l:List Vx} (h:Rd w B 3 A n (l.flatMap q0f)) (hl:l.length=n) (hj:j<n):∃ g off x,A=some ⟨g,off,none⟩∧g<B∧l[j]? = some x∧
  w.cell? ⟨g,off+j*3,none⟩=some (.int .i64 x.t)∧w.cell? ⟨g,off+j*3+1,none⟩=some (.string ⟨x.v.toArray⟩)∧w.cell? ⟨g,off+j*3+2,none⟩=some (.bool x.g):=by
 obtain⟨g,off,e,hb,hc⟩:=h.2 (by omega)
 have hx:l[j]? = some l[j]:=List.getElem?_eq_getElem (by omega)
 have hf:=flatV l j _ hx
 exact⟨g,off,l[j],e,hb,hx,hc (j*3) _ (hf 0 (by omega)),hc (j*3+1) _ (hf 1 (by omega)),hc (j*3+2) _ (hf 2 (by omega))⟩
def VRow (w:World) (base:Nat) (V:Value) (l:List Vx):Prop:=
 w.ownsRow base 145 3 V l.length (l.flatMap q0f)∨
  ∃ g o cs,V=.slice (some ⟨g,o,none⟩) l.length l.length∧0<l.length∧base≤g∧l.length≤maxLen∧Blk w g 145 cs∧∀ j u,(l.flatMap q0f)[j]? = some u→cs[o+j]? = some u
section
variable {w w':World} {base:Nat} {V:Value} {l:List Vx}
theorem VRow.form (h:VRow w base V l):∃ A c,V=.slice A l.length c∧l.length≤c:=by
 rcases h with h|⟨g,o,cs,rfl,_⟩
 ·obtain⟨A,c,hV,hc,_⟩:=q01 h
  exact⟨A,c,hV,hc⟩
 ·exact⟨_,_,rfl,Nat.le_refl _⟩
theorem VRow.rd {A:Option Addr} {n c:Nat} (h:VRow w base (.slice A n c) l):Rd w w.heap.size 3 A l.length (l.flatMap q0f):=by
 rcases h with h|⟨g,o,cs,hV,h0,hb,_,hk,hc⟩
 ·obtain⟨A',c',hV,_,_⟩:=q01 h
  injection hV with h1 h2 h3
  subst h1 h2 h3
  exact Rd.of_own h
 ·injection hV with h1 h2 h3
  subst h1 h2 h3
  exact⟨q83 l,fun _=>⟨g,o,rfl,hk.lt,fun j u hu=>(hk.cell (o+j)).trans (hc j u hu)⟩⟩
theorem VRow.block (h:VRow w base V l) {b:Nat} (hb:V.ownBlock=some b):base≤b∧b<w.heap.size∧∃ cs,Blk w b 145 cs:=by
 rcases h with h|⟨g,o,cs,rfl,h0,hbg,_,hk,hc⟩
 ·refine⟨(h.lt b hb).1,(h.lt b hb).2,?_⟩
  rcases h.2 with ⟨rfl,_⟩|⟨g1,cap,cur,rfl,_,hh,_⟩
  ·cases hb
  ·have hb':g1=b:=by injection hb
   subst hb'
   exact⟨cur,hh⟩
 ·have hb':g=b:=by injection hb
  subst hb'
  exact⟨hbg,hk.lt,cs,hk⟩
theorem VRow.fr {S:Nat→Prop} (h:VRow w base V l) (hf:Fr S w w') (hn:∀ b,V.ownBlock=some b→¬S b):VRow w' base V l:=by
 rcases h with h|⟨g,o,cs,rfl,h0,hbg,hm,hk,hc⟩
 ·exact .inl (hf.own h hn)
 ·exact .inr ⟨g,o,cs,rfl,h0,hbg,hm,hf.blk hk (hn g rfl),hc⟩
theorem VRow.notBlk (h:VRow w base V l) {g:Nat} {t:TypeId} {cs:Array Value} (hg:Blk w g t cs) (hne:t≠145):V.ownBlock≠some g:=fun e=>by
 obtain⟨_,_,cs',hk⟩:=h.block e
 exact hk.ne_ hg (fun e=>hne e.symm) rfl
end
section
variable {P:Program} {e:TypeId} {size:Nat}
theorem slice_fromO (T:TypeId) (hu:P.underlying T=some (.slice e)) (hel:P.elem T=e) (hs:∀ w,(sizeOf e).run P w=.ok size w) (w:World) (g o n c v:Nat) (h:Int) (hh:h=v) (hv:v≤n) :
  (Instr.slice T (.slice (some ⟨g,o,none⟩) n c) (some (.int .i64 h)) none none).run P w=.ok (.slice (some ⟨g,if c=v then o else o+v*size,none⟩) (n-v) (c-v)) w:=by
 subst hh
 subst hel
 rw[run_slice_l w T _ n c hu .i64 (v:Int) (by omega) (by omega),hs]
 simp only[Result.andThen,sliced,Int.toNat_natCast]
 congr 2
 split <;> simp[Addr.add_lit]
theorem slice_toO (T:TypeId) (hu:P.underlying T=some (.slice e)) (hel:P.elem T=e) (hs:∀ w,(sizeOf e).run P w=.ok size w) (w:World) (g o n c v:Nat) (h:Int) (hh:h=v) (hv:v≤c) :
  (Instr.slice T (.slice (some ⟨g,o,none⟩) n c) none (some (.int .i64 h)) none).run P w=.ok (.slice (some ⟨g,o,none⟩) v c) w:=by
 subst hh
 subst hel
 rw[run_slice_h w T _ n c hu .i64 (v:Int) (by omega) (by omega),hs]
 simp only[Result.andThen,sliced,Int.toNat_natCast,Nat.zero_mul,Nat.sub_zero]
 congr 2
 split <;> simp[Addr.add_lit]
end
end Go.Proofs.YtccahlhdifadfaaGreatDoor
