/- Part 3 of the texts that the claim rests on (of 9): Hv2, Hv3, Hv4, Hv5, Lk7, Lk8, Srt, LkB, Lk9, SKeys, Rel1, Rel3, Rel2, HsP, HsT, HsM, Hf1, HsU, HsW. -/
import Derived.Test.YtccahlhdifadfaaGreatDoorPk01
import Derived.Deep.QuietTactic
import Derived.BigQuiet
import Derived.Deep.DeepCutAuto
import Derived.StillTailTactics
import Derived.Sort.OwnSortedInts
namespace Go.Proofs.YtccahlhdifadfaaGreatDoor
open Go.RowKit
open _root_.And renaming intro → Wm
open _root_.Array renaming length_toList → Ws
open _root_.Bool renaming false → Jx, true → T2
open _root_.Go renaming World → B1, Value → Hi, TypeId → VQ, Calls → VX, maxLen → VZ, Ending → WA, Program → WQ, size_zeroCells → Xr, wp_region_still_tail → XM, wpStill_nil → Y5
open _root_.Go.Act renaming eval → Xg, put → Xj
open _root_.Go.Addr renaming add_lit → WJ
open _root_.Go.Addr.mk renaming injEq → W7
open _root_.Go.Builtin renaming zeroCells → WC, append_ → Xv, firstCells → XW
open _root_.Go.Instr renaming lookup → XH
open _root_.Go.IntWalk renaming i64_in → V8
open _root_.Go.RowKit renaming Below → VJ
open _root_.Go.RowKit.Below renaming refl → S2
open _root_.Go.Value renaming int → Wi, oneCell' → Wy, slice → WI
open _root_.Go.World renaming ownsRow_nil → VY, block_lt_of_cell? → V0, drew → Ym
open _root_.List renaming getElem?_cons_zero → D0, getElem?_toArray → Ft, getElem?_eq_getElem → K0, getElem?_cons_succ → N2, mem_of_getElem? → O0, flatMap_cons → VI, mem_cons_self → VL, mem_cons_of_mem → VM, length_append → VP, getElem?_map → VT, take_of_length_le → VU, take_add_one → VV, mem_singleton → VW, length_map → Wh, range → Wu, eq_nil_of_length_eq_zero → Ww, flatMap_append → Wx, length_take → Wz, getElem_mem → WE, range' → WG, length_cons → WH, append_nil → WM, take_length → WR, take_succ_cons → WU, drop_succ_cons → Xd, drop_drop → Xi, takeWhile_prefix → Xm, size_toArray → Xn, mem_append → Xs, pairwise_map → XA, take_zero → XN, not_mem_nil → XS, any_eq_true → XU, mem_cons → XZ, append_assoc → X4, drop_zero → Yt, length_mergeSort → YF
open _root_.List.Nodup renaming length_le_of_subset → WZ
open _root_.List.Pairwise renaming nil → Yj
open _root_.Nat renaming le_refl → L1, lt_of_lt_of_le → VH, zero_le → VK, le_trans → VO, zero_add → Wg, add_sub_cancel → W1, le_succ → W5, add_mul → Xc
open _root_.Option renaming some → Bs, none → B0, map_some → Wv
open _root_.Option.some renaming injEq → VN
set_option linter.all false
set_option maxRecDepth 100000
set_option maxHeartbeats 16000000
theorem Du (x:Sx):sx ⟨x.toArray⟩=x:=by simp[sx]
theorem q4z (s:ByteArray):s.toList=sx s:=by
 obtain⟨⟨l⟩⟩:=s;show(ByteArray.mk (List.toArray l)).toList=l;simp
theorem J9 {P:WQ} {f:FuncId} {d:Func} {c:Code} (i:P.funcs[f]? = Bs d) (a:(d.name == "runtime.NumGoroutine")=Jx) (p:d.body=Bs c):∀ (args:Array Hi) (w:B1),(callFunc f args).run P w=.ok (.enter f args) w:=by
 intro args w;have q:d.name ≠ "runtime.NumGoroutine" := by simpa using a
 simp[callFunc,i,q,p,mark]
def cfV (t:Int) (x:Vx):Int:=wrap64 (x.t-t)
theorem MF (t:Int) (x:Vx) (w:B1):VX Tryz.prog 107 #[vxV x,.int .i64 t] w fun e w'=>e=.returned (.int .i64 (cfV t x))/\VJ w.heap.size w w':=by
 have a:VJ w.heap.size w (w.alloc (.cells #[.int .i64 x.t,.string ⟨x.v.toArray⟩,.bool x.g] 145)):=(S2 _ _).alloc (L1 _) _;have c:=LH a;clear a;unfold vxV cfV;go_enter Tryz.func107,Tryz.ntmps107;go_wp2_with fail;go_ret;exact⟨rfl,c.o⟩
theorem MG (t:Int) (x:Vx) (w:B1):VX Tryz.prog 73 #[vxV x,.int .i64 t] w fun e w'=>e=.returned (.int .i64 (cfV t x))/\VJ w.heap.size w w':=by
 have a:VJ w.heap.size w (w.alloc (.cells #[.int .i64 x.t,.string ⟨x.v.toArray⟩,.bool x.g] 145)):=(S2 _ _).alloc (L1 _) _;have c:=LH a;clear a;unfold vxV cfV;go_enter Tryz.func73,Tryz.ntmps73;go_wp2_with fail;go_ret;exact⟨rfl,c.o⟩
theorem JF:∀ {L:List Vx} {t:Int} {i:Nat},i<=L.length->(∀ k (h:k<L.length),k<i->L[k].t<t)->(∀ k (h:k<L.length),i<=k->t<=L[k].t)->(AB L t).length=i
 | [],t,i,a,_,_=>by simp at a;subst a;rfl
 | x::L,t,0,a,h1,h2=>by
  have:=h2 0 (by simp) (L1 _);unfold AB;rw[List.takeWhile_cons_of_neg (by simpa using this)];rfl
 | x::L,t,i+1,a,h1,h2=>by
  have:=h1 0 (by simp) (by omega);have c:=JF (L:=L) (t:=t) (i:=i) (by simpa using a) (fun k h d=>by have:=h1 (k+1) (by simpa using h) (by omega);simpa using this) (fun k h d=>by have:=h2 (k+1) (by simpa using h) (by omega);simpa using this);unfold AB at *;rw[List.takeWhile_cons_of_pos (by simpa using this),WH,c]
theorem has_at {L:List Vx} {t:Int} {i:Nat} (hs:FB L) (q:∀ k (h:k<L.length),k<i->L[k].t<t) (p:∀ k (h:k<L.length),i<=k->t<=L[k].t):Dc L t=T2↔∃ h:i<L.length,L[i].t=t:=by
 unfold Dc;rw[XU];constructor
 ·rintro ⟨x,f,a⟩;have a:x.t=t:=of_decide_eq_true a;obtain⟨k,d,rfl⟩:=List.getElem_of_mem f;have c:i<=k:=Nat.le_of_not_lt (fun h=>by have:=q k d h;omega);refine⟨by omega,?_⟩;have r:=p i (by omega) (L1 _);rcases Nat.lt_or_eq_of_le c with h|rfl
  ·have:=List.pairwise_iff_getElem.1 hs i k (by omega) d h;omega
  ·exact a
 ·rintro ⟨h,e⟩;exact⟨L[i],WE h,by simpa using e⟩
def TmOk (l:List Vx):Prop:=∀ v∈l,0<=v.t/\v.t<=1099511627776
theorem cfV_eq {t:Int} {x:Vx} (f:0<=x.t) (d:x.t<=1099511627776) (c:0<=t) (a:t<9223372036854775808):cfV t x=x.t-t:=IntWalk.wrap64_in _ ⟨by omega,by omega⟩
theorem qaz (F:Nat) (base:Nat) (V:Hi) (l:List Vx) (t:Int) (w:B1) (M:∀ args w,(callFunc F args).run Tryz.prog w=.ok (.enter F args) w) (I:∀ W x,VX Tryz.prog F #[vxV x,.int .i64 t] W fun e w'=>e=.returned (.int .i64 (cfV t x))/\VJ W.heap.size W w')
  (z:Ds w base V l) (hs:FB l) (D:l.length<=100000) (s:TmOk l) (B:0<=t) (r:t<9223372036854775808) :
  VX Tryz.prog 72 #[V,.int .i64 t,.func (.func F) #[] #[]] w fun e w'=>e=.returned (.tuple #[.int .i64 ((AB l t).length:Nat),.bool (Dc l t)])/\VJ w.heap.size w w':=by
 obtain⟨A,c,rfl,N⟩:=z.form;have a:∀ k (h:k<l.length),cfV t l[k]=l[k].t-t:=fun k h=>by
  have:=s _ (WE h);exact cfV_eq this.1 this.2 B r
 refine(IB F (cfV t) A l.length c l t w M (fun W x _ _=>I W x) z.rd rfl D (fun _ _=>trivial) (fun i j q y v=>?_)).mono ?_
 ·rw[a i q,a j y];rcases Nat.lt_or_eq_of_le v with h|rfl
  ·have:=List.pairwise_iff_getElem.1 hs i j q y h;omega
  ·omega
 ·rintro e w' ⟨i,f,rfl,q,L,J,E,G⟩;have p:∀ k (h:k<l.length),k<i->l[k].t<t:=fun k h u=>by have:=L k h u;rw[a k h] at this;omega
  have d:∀ k (h:k<l.length),i<=k->t<=l[k].t:=fun k h u=>by have:=J k h u;rw[a k h] at this;omega
  refine⟨?_,G⟩;rw[JF q p d];have:f=Dc l t:=by
   rw[Bool.eq_iff_iff,E,has_at hs p d];exact⟨fun⟨h,e⟩=>⟨h,by rw[a i h] at e;omega⟩,fun⟨h,e⟩=>⟨h,by rw[a i h];omega⟩⟩
  rw[this]
noncomputable abbrev kV:CQ Tryz.prog 9 ByteArray:=keyS Tryz.underlying9
def Ef (loc:Sx->Hi) (K:Kp):ByteArray->Option Hi:=fun s=>if (K (sx s)).isEmpty then B0 else Bs (loc (sx s))
def StM (w:B1) (n:Nat) (mb:Option Nat) (loc:Sx->Hi) (K:Kp):Prop:=match mb with
 | none=>∀ x,K x=[]
 | some b=>Aa kV w b n (Ef loc K)
structure B8 (w:B1) (base n g off:Nat) (ty:VQ) (cs:Array Hi) (mb:Option Nat) (loc:Sx->Hi) (K:Kp) (low:Int):Prop where
 ah:Ab w g ty cs
 c0:cs[off]? = Bs (.map mb)
 c1:cs[off+1]? = Bs (.int .i64 low)
 ne:ty≠145
 map:StM w n mb loc K
 rows:∀ x,K x≠[]->Ds w base (loc x) (K x)
 apart:∀ x y,x≠y->K x≠[]->K y≠[]->∀ b,(loc x).ownBlock=Bs b->(loc y).ownBlock≠Bs b
 small:∀ x,K x≠[]->x.length<=20
 times:∀ x,TmOk (K x)
 sorted:∀ x,FB (K x)
 len:∀ x,(K x).length<=n
 cH:0<=low
 cV:low<=1099511627776
 cA:∀ b,mb=Bs b->base<=b
 lo:base<=g
def Dz (mb:Option Nat) (loc:Sx->Hi) (K:Kp) (b:Nat):Prop:=mb=Bs b\/∃ x,K x≠[]/\(loc x).ownBlock=Bs b
def E5 (g:Nat) (mb:Option Nat) (loc:Sx->Hi) (K:Kp) (b:Nat):Prop:=b=g\/Dz mb loc K b
section
variable {w w':B1} {base n g off:Nat} {ty:VQ} {cs:Array Hi} {mb:Option Nat} {loc:Sx->Hi} {K:Kp} {low:Int}
theorem StM.fr {S:Nat->Prop} (h:StM w n mb loc K) (c:Fr S w w') (a:∀ b,mb=Bs b->¬S b):StM w' n mb loc K:=by
 unfold StM at h ⊢;rcases mb with _|b
 ·exact h
 ·exact Aa.fr h c (a b rfl)
theorem B8.fr {S:Nat->Prop} (h:B8 w base n g off ty cs mb loc K low) (c:Fr S w w') (a:∀ b,E5 g mb loc K b->¬S b):B8 w' base n g off ty cs mb loc K low:=
 ⟨c.ah h.ah (a g (.inl rfl)),h.c0,h.c1,h.ne,h.map.fr c (fun b d=>a b (.inr (.inl d))),fun x f=>(h.rows x f).fr c (fun b d=>a b (.inr (.inr ⟨x,f,d⟩))),h.apart,h.small,h.times,h.sorted,h.len,h.cH,h.cV,h.cA,h.lo⟩
theorem B8.av (h:B8 w base n g off ty cs mb loc K low) {b:Nat} (a:E5 g mb loc K b):base<=b/\b<w.heap.size:=by
 rcases a with rfl|a|⟨x,c,a⟩
 ·exact⟨h.lo,h.ah.lt⟩
 ·refine⟨h.cA b a,?_⟩;have:=h.map;rw[a] at this;exact Aa.lt (C:=kV) this
 ·exact⟨((h.rows x c).block a).1,((h.rows x c).block a).2.1⟩
theorem B8.a8 (h:B8 w base n g off ty cs mb loc K low) (a:VJ w.heap.size w w'):B8 w' base n g off ty cs mb loc K low:=
 h.fr (S:=fun b=>w.heap.size<=b) ⟨a.os,a.tape,a.output,a.size,fun i _ d=>a.block i (by omega)⟩ (fun b c f=>by have:=(h.av c).2;omega)
theorem B8.mono (h:B8 w base n g off ty cs mb loc K low) {n':Nat} (a:n<=n'):B8 w' base n' g off ty cs mb loc K low\/B8 w base n' g off ty cs mb loc K low:=by
 refine .inr ⟨h.ah,h.c0,h.c1,h.ne,?_,h.rows,h.apart,h.small,h.times,h.sorted,fun x=>VO (h.len x) a,h.cH,h.cV,h.cA,h.lo⟩;have:=h.map;unfold StM at this ⊢;rcases mb with _|b
 ·exact this
 ·exact Aa.mono this a
def On (loc:Sx->Hi) (K:Kp) (x:Sx):Hi:=if (K x).isEmpty then .slice B0 0 0 else loc x
theorem B8.row (h:B8 w base n g off ty cs mb loc K low) (x:Sx):Ds w base (On loc K x) (K x):=by
 unfold On;rcases e:K x with _|⟨a,l⟩
 ·exact .inl (VY _ _ _ _)
 ·rw[if_neg (by simp),<- e];exact h.rows x (by rw[e];simp)
theorem O9 (w:B1) (s:ByteArray):(XH 101 (.map B0) (.string s) Jx).run Tryz.prog w=.ok (.slice B0 0 0) w:=by kernel_rfl
theorem B8.look (h:B8 w base n g off ty cs mb loc K low) {s:ByteArray} (hs:s.size<=VZ):(XH 101 (.map mb) (.string s) Jx).run Tryz.prog w=.ok (On loc K (sx s)) w:=by
 have a:=h.map;unfold StM at a;rcases mb with _|b
 ·rw[O9];unfold On;rw[a (sx s)];rfl
 ·have c:(zeroValue 142).run Tryz.prog w=.ok (.slice B0 0 0) w:=by kernel_rfl
  have:=(Aa.look (C:=kV) a Tryz.underlying101 c (x:=s) hs).2;rw[show kV.val s=Value.string s from rfl] at this;rw[this];unfold Ef On;cases (K (sx s)).isEmpty <;> rfl
end
def qad (r:Sx×Bool) (w:B1) (e:WA) (w':B1):Prop:=e=.returned (.tuple #[.string ⟨r.1.toArray⟩,.bool r.2,.nilIface])/\VJ w.heap.size w w'
theorem U1 (base n g off:Nat) (ty:VQ) (cs:Array Hi) (mb:Option Nat) (loc:Sx->Hi) (K:Kp) (low:Int) (s:ByteArray) (t:Int) (w:B1) (hI:B8 w base n g off ty cs mb loc K low) (V:¬t<low) (O:t<9223372036854775808) (hs:s.size<=VZ) (hn:n<=100000) :
  VX Tryz.prog 42 #[.pointer (Bs ⟨g,off,B0⟩),.string s,.int .i64 t] w (qad (BL (Cf (K (sx s)) t)) w):=by
 have c0:=(hI.ah.cell off).trans hI.c0;have c1:=(hI.ah.cell (off+1)).trans hI.c1;have R:=hI.ah.lt;have E:=hI.look hs;have f:=hI.row (sx s);have v:=hI.sorted (sx s);have F:=VO (hI.len (sx s)) hn;have y:=qaz 73 base _ (K (sx s)) t w (J9 Tryz.func73 (by kernel_rfl) rfl) (fun W x=>MG t x W) f v F (hI.times _) (by have:=hI.cH;omega) O;have d1:decide (t<low)=Jx:=decide_eq_false V;obtain⟨A,c,Y,hc⟩:=f.form;rw[Y] at E y f;generalize K (sx s)=l at *;have D:(AB l t).length<=l.length:=(Xm _).length_le;have J:=LH y;clear y;have L:=LH f.rd;clear f hI Y;have U:=LH v;clear v;clear V;go_enter Tryz.func42,Tryz.ntmps42;go_wp2_with fail;refine J.o.mono ?_;rintro e r ⟨rfl,G⟩;have d:=LH G;clear G J E c0 c1 R;rcases X:Dc l t with _|_
 ·obtain⟨M,q1⟩:=Mt X;rcases B:(AB l t).length with _|m
  ·have q:=LH (show qad (BL (Cf l t)) w (.returned (.tuple #[.string ⟨#[]⟩,.bool Jx,.nilIface])) r by rw[M B];exact⟨rfl,d.o⟩);clear M q1 B D;go_wp2_with fail;go_ret3;exact q.o
  ·obtain⟨i,N⟩:=q1 (by omega);rw[B] at i N D;simp only[W1] at i N;obtain⟨S,Z,a,rfl,z,u,h0,h1,I⟩:=(L.o.below d.o).cj rfl (j:=m) (by omega);have Q:S<r.heap.size:=VH z d.o.size;rw[u] at i;have dk:decide (((m:Nat):Int)<0)=Jx:=decide_eq_false (by omega);rcases p:a.g with _|_
   ·have q:=LH (show qad (BL (Cf l t)) w (.returned (.tuple #[.string ⟨a.v.toArray⟩,.bool T2,.nilIface])) r by rw[i];unfold BL;simp only[p];exact⟨rfl,d.o⟩);rw[p] at I;clear M q1 i B u p;go_wp2_with fail;go_ret3;exact q.o
   ·have q:=LH (show qad (BL (Cf l t)) w (.returned (.tuple #[.string ⟨#[]⟩,.bool Jx,.nilIface])) r by rw[i];unfold BL;simp only[p];exact⟨rfl,d.o⟩);rw[p] at I;clear M q1 i B u p;go_wp2_with fail;go_ret3;exact q.o
 ·obtain⟨i,N⟩:=Mu U.o X;generalize (AB l t).length=m at *;obtain⟨S,Z,a,rfl,z,u,h0,h1,I⟩:=(L.o.below d.o).cj rfl (j:=m) (by omega);have Q:S<r.heap.size:=VH z d.o.size;rw[u] at i;have dk:decide (((m:Nat):Int)<0)=Jx:=decide_eq_false (by omega);rcases p:a.g with _|_
  ·have q:=LH (show qad (BL (Cf l t)) w (.returned (.tuple #[.string ⟨a.v.toArray⟩,.bool T2,.nilIface])) r by rw[i];unfold BL;simp only[p];exact⟨rfl,d.o⟩);rw[p] at I;clear i u p;go_wp2_with fail;go_ret3;exact q.o
  ·have q:=LH (show qad (BL (Cf l t)) w (.returned (.tuple #[.string ⟨#[]⟩,.bool Jx,.nilIface])) r by rw[i];unfold BL;simp only[p];exact⟨rfl,d.o⟩);rw[p] at I;clear i u p;go_wp2_with fail;go_ret3;exact q.o
section
variable {P:WQ} {w:B1} {base size n cap g o:Nat} {e:VQ} {xs:List Hi}
theorem Ln (t y:VQ) (a:TypeInfo) (z:Hi) (F G:IntKind) (M:P.underlying t=Bs (.slice e)) (B:P.underlying y=Bs (.int G)) (R:P.info? e=Bs a) (L:a.zero=Bs z) (f:a.size=size) (d:z.cells.size=size) (BD:0<size)
  (c:xs.length=n*size) (A:∀ j u,xs[j]? = Bs u->w.cell? ⟨g,o+j,B0⟩=Bs u) {k:Nat} (U:0<k) (I:cap<n+k) (q:n+k<=1000000) (E:a.bytes<=1000000) (S:base<=w.heap.size) :
  ∃ J w',(∀ ty,(Xv #[t,y] ty #[.slice (Bs ⟨g,o,B0⟩) n cap,.int F k]).run P w=.ok (.slice (Bs ⟨w.heap.size,0,B0⟩) (n+k) J) w')/\
   w'.ownsRow base e size (.slice (Bs ⟨w.heap.size,0,B0⟩) (n+k) J) (n+k) (xs++(WC z.cells k).toList)/\Fr (fun _=>False) w w'/\w'.heap.size=w.heap.size+1:=by
 have p:(XW a.size n (.slice (Bs ⟨g,o,B0⟩) n cap)).run P w.drew=.ok xs.toArray w.drew:=by
  have:=run_loadCells_list (P:=P) w.drew ⟨g,o,B0⟩ xs (fun j v Q=>by
   rw[WJ];show w.cell? _=_;exact A j v Q)
  rw[c] at this;unfold XW;rw[f];exact this
 have s:(n+k)*a.bytes<=140737488355328:=by
  have:(n+k)*a.bytes<=1000000*1000000:=Nat.mul_le_mul q E;omega
 have O:k*a.bytes<=(n+k)*a.bytes:=Nat.mul_le_mul_right _ (by omega);have i:=fun ty=>Lib.run_append_grow_zeros (P:=P) w t y ty e a z F G M B R L (Bs ⟨g,o,B0⟩) n cap xs p k U (by rw[f];exact BD) I (by omega) (by omega) (growslice_fits I s)
 have D:=grownCap_ge w (n+k) cap e;have r:grownCap w (n+k) cap e<=VZ:=grownCap_le_maxLen w (n+k) cap e (by unfold VZ;omega);refine⟨_,_,i,⟨?_,.inr ⟨w.heap.size,_,_,rfl,S,heap_alloc_new w.drew _,D,r,?_,?_⟩⟩,(Fr.refl _ w).drew.alloc _,by simp⟩
 ·rw[VP,c,Ws,Xr,d,Xc]
 ·simp only[Array.size_append,Xn,Xr,d,c,<- Xc];congr 1;omega
 ·have N:(xs++(WC z.cells k).toList).length=(n+k)*size:=by rw[VP,c,Ws,Xr,d,Xc]
  simp only[Array.toList_append];rw[<- N];exact List.take_left
theorem Ox (t:VQ) (d:TypeInfo) (z:Hi) (N:P.underlying t=Bs (.slice e)) (Q:P.info? e=Bs d) (M:d.zero=Bs z) (i:d.size=size) (A:z.cells.size=size)
  (a:xs.length=n*size) (B:∀ j u,xs[j]? = Bs u->w.cell? ⟨g,o+j,B0⟩=Bs u) (f:List Hi) (c:f.length=size) (y I:Nat) (D:∀ j u,f[j]? = Bs u->w.cell? ⟨y,j,B0⟩=Bs u) (J:cap<n+1) (q:n+1<=1000000) (G:d.bytes<=1000000) (R:base<=w.heap.size) :
  ∃ L w',(∀ ty,(Xv #[t,t] ty #[.slice (Bs ⟨g,o,B0⟩) n cap,.slice (Bs ⟨y,0,B0⟩) 1 I]).run P w=.ok (.slice (Bs ⟨w.heap.size,0,B0⟩) (n+1) L) w')/\
   w'.ownsRow base e size (.slice (Bs ⟨w.heap.size,0,B0⟩) (n+1) L) (n+1) (xs++f)/\Fr (fun _=>False) w w':=by
 have s:(n+1)*d.bytes<=140737488355328:=by
  have:(n+1)*d.bytes<=1000000*1000000:=Nat.mul_le_mul q G;omega
 have p:=fun ty=>run_append_grow (P:=P) (w:=w) t ty e d z N Q M ⟨g,o,B0⟩ n cap xs (by rw[i];exact a) (fun j v E=>by rw[WJ];exact B j v E) ⟨y,0,B0⟩ 1 I f (by rw[i,c];omega) (fun j v E=>by rw[WJ,Wg];exact D j v E) J (by omega) (growslice_fits J s)
 have F:=grownCap_ge w (n+1) cap e;have r:grownCap w (n+1) cap e<=VZ:=grownCap_le_maxLen w (n+1) cap e (by unfold VZ;omega);refine⟨_,_,p,⟨?_,.inr ⟨w.heap.size,_,_,rfl,R,heap_alloc_new w.drew _,F,r,?_,?_⟩⟩,(Fr.refl _ w).drew.alloc _⟩
 ·rw[VP,a,c,Xc];omega
 ·simp only[Array.size_append,Xn,Xr,A,a,c];have:n*size+size=(n+1)*size:=by rw[Xc];omega
  rw[this,<- Xc];congr 1;omega
 ·have O:(xs++f).length=(n+1)*size:=by rw[VP,a,c,Xc];omega
  simp only[Array.toList_append];rw[<- O];exact List.take_left
end
theorem QC (base g o n i S vc:Nat) (cs:Array Hi) (xs L:List Hi) (w:B1) (z:Ab w g 145 cs) (s:xs.length=n*3) (X:∀ j u,xs[j]? = Bs u->cs[o+j]? = Bs u) (hi:i<n) (hn:n<=100000) (M:∀ u∈xs,u.oneCell'=T2) (N:L.length=3) (V:∀ u∈L,u.oneCell'=T2)
  (O:Ab w S 145 L.toArray) (hb:base<=w.heap.size) :
  VX Tryz.prog 108 #[.slice (Bs ⟨g,o,B0⟩) n n,.int .i64 i,.slice (Bs ⟨S,0,B0⟩) 1 vc] w (P8 base n i (.slice (Bs ⟨g,o,B0⟩) n n) L xs w):=by
 obtain⟨a8,a7⟩:=q1b 142 AV KI I8 w (Bs ⟨g,o,B0⟩) n n i (by omega);obtain⟨i0,Z,U,D,I⟩:=info_parts GF;have ab:g<w.heap.size:=z.lt;have R:∀ (w':B1),Ab w' g 145 cs->∀ j u,xs[j]? = Bs u->w'.cell? ⟨g,o+j,B0⟩=Bs u:=fun w' hk j u B=>(hk.cell (o+j)).trans (X j u B)
 obtain⟨J,w1,c,d,y,a2⟩:=Ln (base:=base) (w:=w) (g:=g) (o:=o) (n:=i) (cap:=n) (xs:=xs.take (i*3)) 142 3 i0 _ .i64 .i64 AV Tryz.underlying3 Z U D rfl (by decide) (by rw[Wz,s];omega) (fun j u B=>by
  rw[List.getElem?_take] at B;split at B
  ·exact R w z j u B
  ·cases B) (k:=n+1-i) (by omega) (by omega) (by omega) (by rw[I];decide) hb
 rw[show i+(n+1-i)=n+1 by omega] at c d;have ac:=(Ur d).1;have A:Ab w1 S 145 L.toArray:=y.ah O (fun h=>h);have G:=y.ah z (fun h=>h);have a6:=O.lt;obtain⟨w2,q,r,Q⟩:=TB (w:=w1) 142 142 145 AV q7f d (i:=i) (m:=1) (by omega) L (by rw[N]) ⟨S,0,B0⟩ (fun j v hj=>by
   rw[WJ,Wg];exact(A.cell j).trans (by simpa using hj)) V (n+1-i) (J-i) 1 vc (by show min _ _=_;omega)
 have F:=Q.ah G (fun e:g=w.heap.size=>by omega);obtain⟨w3,p,f,a1⟩:=TB (w:=w2.drew) 142 142 145 AV q7f (show w2.drew.ownsRow base 145 3 (.slice (Bs ⟨w.heap.size,0,B0⟩) (n+1) J) (n+1) _ from r) (i:=i+1) (m:=n-i) (by omega) (xs.drop (i*3))
  (by rw[List.length_drop,s,Nat.sub_mul]) ⟨g,o+i*3,B0⟩ (fun j v hj=>by
   rw[WJ];rw[List.getElem?_drop] at hj;show w2.cell? _=_;rw[Nat.add_assoc];exact R w2 F _ _ hj) (fun u B=>M u (List.mem_of_mem_drop B)) (n-i) (J-(i+1)) (n-i) (n-i) (by show min _ _=_;omega)
 rw[q7o s (by omega) (by rw[Ws,Xr];rfl) N] at f;have a0:Fr (fun k=>Bs k=Value.ownBlock (.slice (Bs ⟨g,o,B0⟩) n n)) w w3:=(((y.trans' Q (fun k hk (e:k=w.heap.size)=>by omega)).drew).trans' a1 (fun k hk (e:k=w.heap.size)=>by omega)).mono (fun k _ h=>h.elim);have E:P8 base n i (.slice (Bs ⟨g,o,B0⟩) n n) L xs w (.returned (.slice (Bs ⟨w.heap.size,0,B0⟩) (n+1) J)) w3:=
  ⟨_,rfl,f,a0,.inr ⟨_,rfl,L1 _⟩⟩
 have Y:(n:Int)+1-i=((n+1-i:Nat):Int):=by omega
 have s1:=Ou 142 AV KI I8 w g o n n i (i:Int) rfl (by omega);have s2:=fun W=>Qd 142 AV KI I8 W w.heap.size (n+1) J i (i:Int) rfl (by omega) (by omega)
 have s3:=fun W=>Qd 142 AV KI I8 W w.heap.size (n+1) J (i+1) ((i:Int)+1) (by omega) (by omega) (by omega)
 rw[show n+1-(i+1)=n-i by omega] at s3;have s4:=fun W=>I0 142 AV KI I8 W g o n n i (i:Int) rfl (by omega)
 rw[if_neg (by omega)] at s4;have HF:=LH E;clear E d r f y Q a1 z G F R X O A Z U D I a0 a2;have aa:IntKind.i64.wrap ((i:Int)+1)=(i:Int)+1:=V8 _ (by omega);have a9:IntKind.i64.wrap ((n:Int)+1)=(n:Int)+1:=V8 _ (by omega);rw[<- Y] at c;have a5:=LH c;clear c Y;have a4:=LH q;clear q;have a3:=LH p;clear p;have ad:=LH M;clear M;clear V N s;have d1:((i:Int) == (n:Int))=Jx:=by rw[beq_eq_false_iff_ne];omega
 have d2:decide ((n:Int)<(n:Int)+1)=T2:=by rw[decide_eq_true_eq];omega
 go_enter Tryz.func108,Tryz.ntmps108;go_wp2_with (first|(refine q1z rfl (.tmp 34) (.tmp 39) 142 3 rfl (.slice (Bs ⟨g,o,B0⟩) i n) (.int .i64 ((n:Int)+1-i)) _ rfl rfl (a5.o _) ?_)|(refine q1p rfl (.tmp 43) (.tmp 44) 142 142 rfl (.slice (Bs ⟨w.heap.size,i*3,B0⟩) (n+1-i) (J-i)) (.slice (Bs ⟨S,0,B0⟩) 1 vc) _ rfl rfl (a4.o _) ?_))
 refine nW ?_;refine Tr (fun _=>True) 9 ?_;have a:True:=trivial;refine nE 0 a ?_;refine nE 1 a ?_;refine nE 2 a ?_;refine nE 3 a ?_;refine nE 4 a ?_;refine nE 5 a ?_;refine nE 6 a ?_;refine nE 7 a ?_;refine nG 8 (fun K hK=>?_);refine q2j (.tmp 50) (.tmp 53) 142 142 rfl (.slice (Bs ⟨w.heap.size,(i+1)*3,B0⟩) (n-i) (J-(i+1))) (.slice (Bs ⟨g,o+i*3,B0⟩) (n-i) (n-i)) _ (by simp[Xg,Xj]) (by simp[Xg,Xj]) (a3.o _) ?_;go_simp;refine hK _ _ (fun _=>a) ?_;clear hK K;refine nX ?_;clear a;go_wp2_with fail;go_ret;exact HF.o
theorem IC (base g o n E F:Nat) (cs:Array Hi) (xs r:List Hi) (w:B1) (D:Ab w g 145 cs) (d:xs.length=n*3) (z:∀ j u,xs[j]? = Bs u->cs[o+j]? = Bs u) (S:n<=100000) (v:r.length=3)
  (y:Ab w E 145 r.toArray) (O:base<=w.heap.size) :
  VX Tryz.prog 108 #[.slice (Bs ⟨g,o,B0⟩) n n,.int .i64 n,.slice (Bs ⟨E,0,B0⟩) 1 F] w (P8 base n n (.slice (Bs ⟨g,o,B0⟩) n n) r xs w):=by
 obtain⟨M,J⟩:=q1b 142 AV KI I8 w (Bs ⟨g,o,B0⟩) n n n (L1 _);obtain⟨N,A,s,f,q⟩:=info_parts GF;obtain⟨Q,L,a,c,B⟩:=Ox (base:=base) (w:=w) (g:=g) (o:=o) (n:=n) (cap:=n) (xs:=xs) 142 N _ AV A s f rfl d (fun j u G=>(D.cell (o+j)).trans (z j u G)) r v E F (fun j u G=>(y.cell j).trans (by simpa using G)) (by omega) (by omega) (by rw[q];decide) O;have i:Cc 3 n r xs=xs++r:=by
  unfold Cc;rw[VU (by rw[d];omega),List.drop_of_length_le (by rw[d];omega),WM]
 have p:P8 base n n (.slice (Bs ⟨g,o,B0⟩) n n) r xs w (.returned (.slice (Bs ⟨w.heap.size,0,B0⟩) (n+1) Q)) L:=
  ⟨_,rfl,by rw[i];exact c,B.mono (fun k _ h=>h.elim),.inr ⟨_,rfl,L1 _⟩⟩
 have R:=LH p;clear p c B D z y i A s f q;have I:=LH a;clear a;clear d v;go_enter Tryz.func108,Tryz.ntmps108;go_wp2_with (refine q1z rfl _ _ 142 142 rfl (.slice (Bs ⟨g,o,B0⟩) n n) (.slice (Bs ⟨E,0,B0⟩) 1 F) _ rfl rfl (I.o _) ?_)
 go_ret;exact R.o
theorem L5 (l:List Vx) (t:Int):AB l t=l.take (AB l t).length:=by
 unfold AB;exact List.prefix_iff_eq_take.1 (Xm _)
theorem LA (l:List Vx) (v:Vx):Cc 3 (AB l v.t).length (Da v) (l.flatMap Da)=(Cu l v).flatMap Da:=by
 unfold Cc Cu;rw[qbi,qbj,Wx,VI,<- X4,<- L5]
theorem Qz (base d i:Nat) (V:Hi) (l:List Vx) (v:Vx) (w:B1) (D:Ds w base V l) (q:l.length<=100000) (c:Ab w d 145 (Da v).toArray) (p:V.ownBlock≠Bs d) (s:base<=w.heap.size) :
  VX Tryz.prog 108 #[V,.int .i64 ((AB l v.t).length:Nat),.slice (Bs ⟨d,0,B0⟩) 1 i] w fun e w'=>
   ∃ V',e=.returned V'/\w'.ownsRow base 145 3 V' (Cu l v).length ((Cu l v).flatMap Da)/\Aq w w' V.ownBlock V'.ownBlock:=by
 have r:(AB l v.t).length<=l.length:=(Xm _).length_le;have f:∀ u∈Da v,u.oneCell'=T2:=fun u A=>q9x [v] u (by simpa using A)
 have a:∀ e w',P8 base l.length (AB l v.t).length V (Da v) (l.flatMap Da) w e w'->∃ V',e=.returned V'/\w'.ownsRow base 145 3 V' (Cu l v).length ((Cu l v).flatMap Da)/\Aq w w' V.ownBlock V'.ownBlock:=by
  rintro e w' ⟨V',rfl,F,E⟩;exact⟨V',rfl,by rw[qcd,<- LA];exact F,E⟩
 rcases D with h|⟨g,o,cs,rfl,I,B,G,y,z⟩
 ·exact(QD base l.length (AB l v.t).length d i V (l.flatMap Da) (Da v) w h r q (q9x l) rfl f c p s).mono a
 ·by_cases e:(AB l v.t).length=l.length
  ·refine Calls.mono ?_ a;rw[e];exact IC base g o l.length d i cs (l.flatMap Da) (Da v) w y (q9y l) z q rfl c s
  ·exact(QC base g o l.length (AB l v.t).length d i cs (l.flatMap Da) (Da v) w y (q9y l) z (by omega) q (q9x l) rfl f c s).mono a
def Ct (K:Kp) (low:Int) (r:Rx):Int×Kp:=
 if r.t<0\/1099511627776<r.t then(2,K) else if 20<r.key.length\/40<r.v.length then(4,K) else if r.t<low then(8,K) else if Dc (K r.key) r.t then(9,K) else(0,BX K r.key (Cu (K r.key) (Im r)))
def Qh (base n g off:Nat) (ty:VQ) (cs:Array Hi) (mb:Option Nat) (loc:Sx->Hi) (K d:Kp) (c:Int) (w w':B1):Prop:=
 ∃ a loc',B8 w' base n g off ty (cs.setIfInBounds off (.map a)) a loc' d c/\Fr (E5 g mb loc K) w w'/\∀ b,E5 g a loc' d b->E5 g mb loc K b\/w.heap.size<=b
section
variable {w w':B1} {base n g off:Nat} {ty:VQ} {cs:Array Hi} {mb:Option Nat} {loc:Sx->Hi} {K:Kp} {low:Int}
theorem B8.more (h:B8 w base n g off ty cs mb loc K low) {n':Nat} (a:n<=n'):B8 w base n' g off ty cs mb loc K low:=(h.mono (w':=w) a).elim id id
theorem Qh.below (h:B8 w base n g off ty cs mb loc K low) {n':Nat} (c:n<=n') (a:VJ w.heap.size w w'):Qh base n' g off ty cs mb loc K K low w w':=
 ⟨mb,loc,by rw[q5g h.c0];exact(h.a8 a).more c,⟨a.os,a.tape,a.output,a.size,fun k d _=>a.block k d⟩,fun b h=>.inl h⟩
theorem Qh.trans {v1:Hi} {d:Option Nat} {c:Sx->Hi} {A z:Kp} {a:Int} {v u:B1} (y:Fr (E5 g mb loc K) w v) (q:∀ b,E5 g d c A b->E5 g mb loc K b\/w.heap.size<=b) (k:Qh base n g off ty (cs.setIfInBounds off v1) d c A z a v u):Qh base n g off ty cs mb loc K z a w u:=by
 obtain⟨r,f,hI,s,p⟩:=k;rw[q4i] at hI;refine⟨r,f,hI,y.trans' s (fun i B h=>?_),fun b h=>?_⟩
 ·rcases q i h with h|h
  ·exact h
  ·omega
 ·rcases p b h with h|h
  ·exact q b h
  ·exact .inr (VO y.size h)
def L0 (loc:Sx->Hi) (x:Sx) (V:Hi):Sx->Hi:=fun y=>if y=x then V else loc y
theorem QA (s:ByteArray) (V:Hi) {l:List Vx} (c:l≠[]):AU (Ef loc K) s (Bs V)=Ef (L0 loc (sx s) V) (BX K (sx s) l):=by
 funext t;unfold AU Ef L0 BX;by_cases e:t=s
 ·subst e;rcases l with _|⟨a,l⟩
  ·exact absurd rfl c
  ·simp
 ·have:¬sx t=sx s:=fun h=>e (q8z h)
  simp[e,this]
theorem B8.made (h:B8 w base n g off ty cs B0 loc K low):B8 ((w.alloc (.map #[] 0)).setCell ⟨g,off,B0⟩ (.map (Bs w.heap.size))) base n g off ty (cs.setIfInBounds off (.map (Bs w.heap.size))) (Bs w.heap.size) loc K low:=by
 have f:∀ x,K x=[]:=h.map;have p:Aa kV (w.alloc (.map #[] 0)) w.heap.size n (Ef loc K):=by
  have e:Ef loc K=fun _=>B0:=by funext s;unfold Ef;rw[f];rfl
  rw[e];exact(Aa.made kV w).mono (VK _)
 have q:=h.ah.lt;have c:off<cs.size:=by
  rcases Nat.lt_or_ge off cs.size with i|i
  ·exact i
  ·have:=h.c0;rw[Array.getElem?_eq_none i] at this;cases this
 refine⟨?_,by simp[c],by rw[Array.getElem?_setIfInBounds_ne (by omega)];exact h.c1,h.ne,p.fr (Fr.ax g (w.alloc (.map #[] 0)) off (.map (Bs w.heap.size))) (fun e=>by omega),fun x a=>absurd (f x) a,fun x y _ a=>absurd (f x) a,h.small,h.times,h.sorted,h.len,h.cH,h.cV,fun b d=>?_,h.lo⟩
 ·exact(h.ah.alloc _).aC off (.map (Bs w.heap.size))
 ·injection d with d;rw[<- d];have:=h.lo;omega
theorem B8.bB {b:Nat} (h:B8 w base n g off ty cs (Bs b) loc K low) {x:Sx} (a:K x≠[]):(loc x).ownBlock≠Bs b:=fun e=>by
 obtain⟨_,_,cs,c⟩:=(h.rows x a).block e;exact Aa.a6 (C:=kV) h.map c rfl
theorem B8.cd (h:B8 w base n g off ty cs mb loc K low) {x:Sx} (a:K x≠[]):(loc x).ownBlock≠Bs g:=(h.rows x a).a6 h.ah h.ne
theorem q61 {x:Sx} {b:Nat} (h:(On loc K x).ownBlock=Bs b):K x≠[]/\(loc x).ownBlock=Bs b:=by
 unfold On at h;rcases e:K x with _|⟨a,l⟩
 ·rw[e] at h;cases h
 ·rw[e] at h;exact⟨by simp,h⟩
theorem B8.setK {b n2:Nat} {J B:B1} {s:ByteArray} {V':Hi} {l':List Vx} (L:n<=n2) (h:B8 w base n g off ty cs (Bs b) loc K low) (hs:(sx s).length<=20) (R:l'≠[]) (N:TmOk l') (O:FB l') (Q:l'.length<=n2)
  (F:Ds J base V' l') (M:Aq w J (On loc K (sx s)).ownBlock V'.ownBlock) (G:Aa kV B b n2 (AU (Ef loc K) s (Bs V'))) (S:Fr (fun k=>k=b) J B) :
  B8 B base n2 g off ty cs (Bs b) (L0 loc (sx s) V') (BX K (sx s) l') low/\Fr (E5 g (Bs b) loc K) w B/\∀ q,E5 g (Bs b) (L0 loc (sx s) V') (BX K (sx s) l') q->E5 g (Bs b) loc K q\/w.heap.size<=q:=by
 have u:∀ q,V'.ownBlock=Bs q->(K (sx s)≠[]/\(loc (sx s)).ownBlock=Bs q)\/w.heap.size<=q:=fun q a=>by
  rcases M.2 with e|⟨W,e,d⟩
  ·exact .inl (q61 (e.symm.trans a))
  ·rw[a] at e;injection e with e;exact .inr (by omega)
 have V:b<w.heap.size:=(h.av (.inr (.inl rfl))).2;have A:Fr (fun k=>k=b\/Bs k=(On loc K (sx s)).ownBlock) w B:=(M.1.mono (T:=fun k=>k=b\/Bs k=(On loc K (sx s)).ownBlock) (fun i _ e=>.inr e)).trans' S (fun i _ e=>.inl e);have r:∀ y,y≠sx s->K y≠[]->∀ q,(loc y).ownBlock=Bs q->¬(q=b\/Bs q=(On loc K (sx s)).ownBlock):=fun y c I q a e=>by
  rcases e with e|e
  ·subst e;exact h.bB I a
  ·obtain⟨p,f⟩:=q61 e.symm;exact h.apart y (sx s) c I p q a f
 refine⟨⟨A.ah h.ah (fun e=>?_),h.c0,h.c1,h.ne,?_,fun y c=>?_,fun y z E c D q a d=>?_,fun y c=>?_,fun y=>?_,fun y=>?_,fun y=>?_,h.cH,h.cV,h.cA,h.lo⟩,?_,fun q a=>?_⟩
 ·rcases e with e|e
  ·exact Aa.a6 (C:=kV) h.map h.ah e.symm
  ·obtain⟨p,f⟩:=q61 e.symm;exact h.cd p f
 ·show Aa kV B b n2 _;rw[<- QA s V' R];exact G
 ·unfold BX L0 at *;split
  ·rename_i e;exact F.fr S (fun q a v=>by
    rcases u q a with ⟨p,f⟩|U
    ·subst v;exact h.bB p f
    ·have:=M.1.size;omega)
  ·rename_i e;rw[if_neg e] at c;exact(h.rows y c).fr A (r y e c)
 ·unfold BX L0 at *;by_cases e1:y=sx s
  ·by_cases v:z=sx s
   ·exact E (e1.trans v.symm)
   ·rw[if_pos e1] at a;rw[if_neg v] at d D;rcases u q a with ⟨p,f⟩|U
    ·exact h.apart z (sx s) v D p q d f
    ·have:=((h.rows z D).block d).2.1;omega
  ·rw[if_neg e1] at a c;by_cases v:z=sx s
   ·rw[if_pos v] at d;rcases u q d with ⟨p,f⟩|U
    ·exact h.apart y (sx s) e1 c p q a f
    ·have:=((h.rows y c).block a).2.1;omega
   ·rw[if_neg v] at d D;exact h.apart y z E c D q a d
 ·unfold BX at c;split at c
  ·rename_i e;rw[e];exact hs
  ·exact h.small y c
 ·unfold BX;split
  ·exact N
  ·exact h.times y
 ·unfold BX;split
  ·exact O
  ·exact h.sorted y
 ·unfold BX;split
  ·exact Q
  ·exact VO (h.len y) L
 ·refine A.mono (fun i _ e=>?_);rcases e with e|e
  ·exact .inr (.inl (by rw[e]))
  ·obtain⟨p,f⟩:=q61 e.symm;exact .inr (.inr ⟨_,p,f⟩)
 ·rcases a with a|a|⟨y,c,a⟩
  ·exact .inl (.inl a)
  ·exact .inl (.inr (.inl a))
  ·unfold BX L0 at *;by_cases e1:y=sx s
   ·rw[if_pos e1] at a;exact(u q a).imp (fun k=>.inr (.inr ⟨_,k.1,k.2⟩)) id
   ·rw[if_neg e1] at a c;exact .inl (.inr (.inr ⟨y,c,a⟩))
end
def Ri (base n g off:Nat) (ty:VQ) (cs:Array Hi) (mb:Option Nat) (loc:Sx->Hi) (K:Kp) (low:Int) (r:Rx) (w:B1) (e:WA) (w':B1):Prop:=
 e=.returned (CX (Ct K low r).1)/\Qh base (n+1) g off ty cs mb loc K (Ct K low r).2 low w w'
theorem Hn {P:WQ} (w:B1) (t k e:VQ) (m:Option Nat) (h:P.underlying t=Bs (.map k e)):(binOp .eql t (.map m) (.map B0)).run P w=.ok (.bool m.isNone) w:=by
 simp only[binOp];simp[run_equal_map_nil w t k e m h]
section
variable (base n g off:Nat) (ty:VQ) (cs:Array Hi) (mb:Option Nat) (loc:Sx->Hi) (K:Kp) (low:Int) (key val:ByteArray) (gone:Bool) (t:Int) (w:B1) (hI:B8 w base n g off ty cs mb loc K low)
include hI
theorem q9a (a:Int) (d:Ct K low ⟨sx key,sx val,gone,t⟩=(a,K)) (c:a≠0):Ri base n g off ty cs mb loc K low ⟨sx key,sx val,gone,t⟩ w (.returned (.iface 79 (.int .i64 a))) (w.alloc (.cells #[.string key,.string val,.bool gone] 45)):=by
 unfold Ri;rw[d];refine⟨by show _=Ending.returned (CX a);unfold CX;rw[if_neg c],Qh.below hI (W5 n) ((S2 _ _).alloc (L1 _) _)⟩
theorem OI (h:t<0\/1099511627776<t):VX Tryz.prog 82 #[.pointer (Bs ⟨g,off,B0⟩),.int .i64 t,.agg #[.string key,.string val,.bool gone]] w (Ri base n g off ty cs mb loc K low ⟨sx key,sx val,gone,t⟩ w):=by
 have a:=q9a base n g off ty cs mb loc K low key val gone t w hI 2 (by unfold Ct;rw[if_pos h]) (by decide);have d:=LH a;clear a hI;by_cases c:t<0
 ·have d1:decide (t<0)=T2:=decide_eq_true c;clear h;go_enter Tryz.func82,Tryz.ntmps82;go_wp2_with fail;go_ret;exact d.o
 ·have d1:decide (t<0)=Jx:=decide_eq_false c;have f:t > 1099511627776:=by rcases h with h|h <;> omega
  have d2:decide (t > 1099511627776)=T2:=decide_eq_true f;clear h;go_enter Tryz.func82,Tryz.ntmps82;go_wp2_with fail;go_ret;exact d.o
theorem OJ (h:¬(t<0\/1099511627776<t)) (c:20<(sx key).length\/40<(sx val).length):VX Tryz.prog 82 #[.pointer (Bs ⟨g,off,B0⟩),.int .i64 t,.agg #[.string key,.string val,.bool gone]] w (Ri base n g off ty cs mb loc K low ⟨sx key,sx val,gone,t⟩ w):=by
 have a:=q9a base n g off ty cs mb loc K low key val gone t w hI 4 (by unfold Ct;rw[if_neg h,if_pos c]) (by decide);have d:=LH a;clear a hI;have d1:decide (t<0)=Jx:=decide_eq_false (fun e=>h (.inl e));have d2:decide (t > 1099511627776)=Jx:=decide_eq_false (fun e=>h (.inr e));clear h;rw[<- I9,<- I9] at c;by_cases i:20<key.size
 ·have f:decide ((key.size:Int) > 20)=T2:=decide_eq_true (by omega);clear c;go_enter Tryz.func82,Tryz.ntmps82;go_wp2_with fail;go_ret;exact d.o
 ·have f:decide ((key.size:Int) > 20)=Jx:=decide_eq_false (by omega);have p:decide ((val.size:Int) > 40)=T2:=decide_eq_true (by omega);clear c;go_enter Tryz.func82,Tryz.ntmps82;go_wp2_with fail;go_ret;exact d.o
theorem Rs (h:¬(t<0\/1099511627776<t)) (d:¬(20<(sx key).length\/40<(sx val).length)) (c:t<low):VX Tryz.prog 82 #[.pointer (Bs ⟨g,off,B0⟩),.int .i64 t,.agg #[.string key,.string val,.bool gone]] w (Ri base n g off ty cs mb loc K low ⟨sx key,sx val,gone,t⟩ w):=by
 have a:=q9a base n g off ty cs mb loc K low key val gone t w hI 8 (by unfold Ct;rw[if_neg h,if_neg d,if_pos c]) (by decide);have p:=LH a;clear a;have i:=hI.ah.alloc (.cells #[.string key,.string val,.bool gone] 45);have u:=(hI.ah.cell (off+1)).trans hI.c1;have f:=hI.ah.lt;clear hI i;have d1:decide (t<0)=Jx:=decide_eq_false (fun e=>h (.inl e));have d2:decide (t > 1099511627776)=Jx:=decide_eq_false (fun e=>h (.inr e));have q:decide (t<low)=T2:=decide_eq_true c;rw[<- I9,<- I9] at d;have s:decide ((key.size:Int) > 20)=Jx:=decide_eq_false (by omega);have r:decide ((val.size:Int) > 40)=Jx:=decide_eq_false (by omega);clear h d;go_enter Tryz.func82,Tryz.ntmps82;go_wp2_with fail;go_ret;exact p.o
end
theorem Ju (s:ByteArray):(⟨(sx s).toArray⟩:ByteArray)=s:=q8z (Du (sx s))
section
variable (base n g off:Nat) (ty:VQ) (cs:Array Hi) (mb:Option Nat) (loc:Sx->Hi) (K:Kp) (low:Int) (key val:ByteArray) (gone:Bool) (t:Int) (w:B1) (hI:B8 w base n g off ty cs mb loc K low)
include hI
theorem Rr (h:¬(t<0\/1099511627776<t)) (hl:¬(20<(sx key).length\/40<(sx val).length)) (aN:¬t<low) (hn:n+1<=100000):VX Tryz.prog 82 #[.pointer (Bs ⟨g,off,B0⟩),.int .i64 t,.agg #[.string key,.string val,.bool gone]] w (Ri base n g off ty cs mb loc K low ⟨sx key,sx val,gone,t⟩ w):=by
 have aH:Ct K low ⟨sx key,sx val,gone,t⟩=if Dc (K (sx key)) t then(9,K) else(0,BX K (sx key) (Cu (K (sx key)) (Im ⟨sx key,sx val,gone,t⟩))):=by
  unfold Ct;rw[if_neg h,if_neg hl,if_neg aN]
 have aX:=LH aH;clear aH;have aj:VJ w.heap.size w (w.alloc (.cells #[.string key,.string val,.bool gone] 45)):=(S2 _ _).alloc (L1 _) _;have aK:Ab (w.alloc (.cells #[.string key,.string val,.bool gone] 45)) w.heap.size 45 #[.string key,.string val,.bool gone]:=Ab.new _ _ _;have aU:=hI.a8 aj;have c1:=(hI.ah.cell (off+1)).trans hI.c1;have bg:=hI.ah.lt;have d1:decide (t<0)=Jx:=decide_eq_false (fun e=>h (.inl e));have d2:decide (t > 1099511627776)=Jx:=decide_eq_false (fun e=>h (.inr e));have d5:decide (t<low)=Jx:=decide_eq_false aN;have b6:(sx key).length<=20:=by omega
 have aO:key.size<=VZ:=by rw[I9];unfold VZ;omega
 rw[<- I9,<- I9] at hl;have d3:decide ((key.size:Int) > 20)=Jx:=decide_eq_false (by omega);have d4:decide ((val.size:Int) > 40)=Jx:=decide_eq_false (by omega);have aE:0<=t:=by omega
 have b3:t<=1099511627776:=by omega
 have N:=LH hI;clear hI;have O:=LH aU;clear aU;have a0:=LH aK;clear aK;have b2:=LH aj;clear aj;clear h hl;go_enter Tryz.func82,Tryz.ntmps82;go_upto_region 7 with (fail)
 clear d1 d2 d3 d4 d5 c1;generalize az:w.alloc (.cells #[.string key,.string val,.bool gone] 45)=w0 at *;have ay:w0.heap.size=w.heap.size+1:=by rw[<- az];simp
 have bh:=LH ay;clear ay az;go_cut [7] (fun s7 wx=>s7=On loc K (sx key)/\VJ w0.heap.size w0 wx)
 case first=>
  have c0:=(O.o.ah.cell off).trans O.o.c0;have p0:=a0.o.cell 0;have be:=O.o.ah.lt;have bd:=a0.o.lt;simp only[Ft,D0] at p0;have bf:∀ q,(XH 101 (.map mb) (.string key) Jx).run Tryz.prog (w0.drewN q)=.ok (On loc K (sx key)) (w0.drewN q):=fun q=>(O.o.a8 (w':=w0.drewN q) ⟨rfl,rfl,rfl,L1 _,fun _ _=>rfl⟩).look aO
  go_quiet (fail);go_wp2_with fail;go_meet;exact⟨rfl,⟨rfl,rfl,rfl,L1 _,fun _ _=>rfl⟩⟩
 case rest=>
  obtain⟨aD,a3⟩:=hcut;rename B1=>w1
  have L:=O.o.a8 a3;have aJ:=a0.o.below a3 a0.o.lt;have aS:VJ w.heap.size w w1:=b2.o.trans (a3.mono b2.o.size);have S:=L.row (sx key);have a7:=VO (L.len (sx key)) (show n<=100000 by omega);obtain⟨A,c,hV,hc⟩:=S.form;rw[hV] at aD;subst aD;have aG:=qaz 107 base (.slice A (K (sx key)).length c) (K (sx key)) t w1 (J9 Tryz.func107 (by kernel_rfl) rfl) (fun W x=>MF t x W) (hV▸S) (L.sorted _) a7 (L.times _) aE (by omega);have aW:=LH aG;clear aG;have HV:=LH hV;clear hV S;have b0:=LH L;clear L;have aq:=LH aJ;clear aJ;have ax:=LH aS;clear aS a3;go_wp2_with fail;refine aW.o.mono ?_;rintro e u ⟨rfl,a5⟩;have aT:=b0.o.a8 a5;have aI:=aq.o.below a5 aq.o.lt;have aa:=ax.o.trans (a5.mono ax.o.size);have B:=LH aT;clear aT;have ap:=LH aI;clear aI;have d:=LH aa;clear aa a5 aW;rcases hh:Dc (K (sx key)) t with _|_
  ·
   have b9:=LH (aX.o.trans (if_neg (by rw[hh];decide)));have bb:=LH hh;clear hh;have c0:=(B.o.ah.cell off).trans B.o.c0;have f0:=B.o.ah.frozen off;have aP:=B.o.ah.lt;have b4:=fun W=>Hn W 101 _ _ mb Tryz.underlying101
   have Y:∀ (a:B1) (b:Nat) (w8:B1),Fr (E5 g mb loc K) w a->(∀ q,E5 g (Bs b) loc K q->E5 g mb loc K q\/w.heap.size<=q)->Qh base (n+1) g off ty (cs.setIfInBounds off (.map (Bs b))) (Bs b) loc K (BX K (sx key) (Cu (K (sx key)) (Im ⟨sx key,sx val,gone,t⟩))) low a w8->Ri base n g off ty cs mb loc K low ⟨sx key,sx val,gone,t⟩ w (.returned .nilIface) w8:=fun a b w8 h1 h2 h3=>by
    unfold Ri;rw[b9.o];exact⟨rfl,Qh.trans h1 h2 h3⟩
   have au:=LH Y;clear Y;rcases mb with _|b
   case' none=>
    have b5:=@run_makeMap Tryz.prog;have ag:=B.o.made;have U:(u.alloc (.map #[] 0)).setCell ⟨g,off,B0⟩ (.map (Bs u.heap.size))=(u.setCell ⟨g,off,B0⟩ (.map (Bs u.heap.size))).alloc (.map #[] 0):=by
     rw[World.setCell_alloc_past _ _ _ _ (by omega)]
    have ah:Fr (E5 g B0 loc K) w ((u.alloc (.map #[] 0)).setCell ⟨g,off,B0⟩ (.map (Bs u.heap.size))):=((show Fr (E5 g B0 loc K) w u from⟨d.o.os,d.o.tape,d.o.output,d.o.size,fun k hk _=>d.o.block k hk⟩).alloc _).setCell (p:=⟨g,off,B0⟩) (.inl (.inl rfl)) _;have af:Ab ((u.alloc (.map #[] 0)).setCell ⟨g,off,B0⟩ (.map (Bs u.heap.size))) w.heap.size 45 #[.string key,.string val,.bool gone]:=(Fr.ax g _ off _).ah (ap.o.alloc _) (fun e:w.heap.size=g=>by have:=N.o.ah.lt;omega);rw[U] at ag ah af;clear U;have b1:=LH (show ∀ q,E5 g (Bs u.heap.size) loc K q->E5 g B0 loc K q\/w.heap.size<=q from fun q E=>by
     rcases E with E|E|E
     ·exact .inl (.inl E)
     ·injection E with E;have:=d.o.size;exact .inr (by omega)
     ·exact .inl (.inr (.inr E)))
    have aZ:=LH ag;clear ag;have ar:=LH ah;clear ah;have G:=LH af;clear af;go_upto_region 13 with (fail)
    clear b5 c0 f0;generalize hb:u.heap.size=b at *;generalize (u.setCell ⟨g,off,B0⟩ (.map (Bs b))).alloc (.map #[] 0)=a at *
   case' some=>
    have aZ:Hid (B8 u base n g off ty (cs.setIfInBounds off (.map (Bs b))) (Bs b) loc K low):=by rw[q5g B.o.c0];exact B
    have ar:=LH (show Fr (E5 g (Bs b) loc K) w u from⟨d.o.os,d.o.tape,d.o.output,d.o.size,fun k hk _=>d.o.block k hk⟩);have b1:=LH (show ∀ q,E5 g (Bs b) loc K q->E5 g (Bs b) loc K q\/w.heap.size<=q from fun q E=>.inl E);have G:=ap;go_upto_region 13 with (fail)
    clear c0 f0;obtain⟨a,rfl⟩:∃ a:B1,a=u:=⟨u,rfl⟩
   all_goals
    clear b4 B ap d b0 aq ax O a0 aP;have p1:=G.o.cell 1;have p2:=G.o.cell 2;have pl:=G.o.lt;simp only[Ft,D0,N2] at p1 p2;have aC:Ab (a.alloc (.cells #[.int .i64 t,.string val,.bool gone] 145)) a.heap.size 145 #[.int .i64 t,.string val,.bool gone]:=Ab.new _ _ _;have ai:VJ a.heap.size a (a.alloc (.cells #[.int .i64 t,.string val,.bool gone] 145)):=(S2 _ _).alloc (L1 _) _;have ao:=LH (G.o.below ai pl);have M:=LH aC;clear aC;have aw:=LH ai;clear ai;go_upto_region 14 with (fail)
    clear p1 p2 pl;generalize a.alloc (.cells #[.int .i64 t,.string val,.bool gone] 145)=w4 at *;have p2:=ao.o.cell 2;have pl:=ao.o.lt;simp only[Ft,D0,N2] at p2;go_upto_if 70 with (fail)
    clear p2 pl;go_cut [] (fun wx=>Ab wx a.heap.size 145 (Da (Im ⟨sx key,sx val,gone,t⟩)).toArray/\Fr (fun k=>k=a.heap.size) w4 wx)
    case first=>
     have v1:=M.o.cell 1;have vf:=M.o.frozen 1;have vl:=M.o.lt;simp only[Ft,D0,N2] at v1;rcases gone with _|_
     ·go_wp2_with fail;go_meet;exact⟨by unfold Da Im;simp only[Bool.false_eq_true,if_false,Ju];exact M.o,Fr.refl _ _⟩
     ·have f:Ab (w4.setCell ⟨a.heap.size,1,B0⟩ (.string ⟨#[]⟩)) a.heap.size 145 (Da (Im ⟨sx key,sx val,T2,t⟩)).toArray/\Fr (fun k=>k=a.heap.size) w4 (w4.setCell ⟨a.heap.size,1,B0⟩ (.string ⟨#[]⟩)):=⟨by unfold Da Im;simp only[if_true];exact M.o.aC 1 _,Fr.ax _ _ _ _⟩
      have HF:=LH f;clear f;go_wp2_with fail;go_meet;exact HF.o
    case rest=>
     obtain⟨a2,aR⟩:=hcut;rename B1=>w5
     obtain⟨vv,aA⟩:∃ vv:ByteArray,vv=⟨(if gone then [] else sx val).toArray⟩:=⟨_,rfl⟩
     have ad:(Da (Im ⟨sx key,sx val,gone,t⟩)).toArray=#[.int .i64 t,.string vv,.bool gone]:=by rw[aA];rfl
     rw[ad] at a2;have b8:=LH ad;clear ad aA;have I:VJ a.heap.size a w5:=aw.o.trans (aR.below (fun i e=>by omega) aw.o.size);have Z:=aZ.o.a8 I;have ae:=G.o.below I G.o.lt;have a9:∀ W,VJ w5.heap.size w5 W->W.cell? ⟨g,off,B0⟩=Bs (.map (Bs b))/\W.cell? ⟨w.heap.size,0,B0⟩=Bs (.string key)/\W.cell? ⟨a.heap.size,0,B0⟩=Bs (.int .i64 t)/\W.cell? ⟨a.heap.size,1,B0⟩=Bs (.string vv)/\W.cell? ⟨a.heap.size,2,B0⟩=Bs (.bool gone):=fun W hW=>by
      have k0:=((Z.ah.below hW Z.ah.lt).cell off).trans Z.c0;have k1:=(ae.below hW ae.lt).cell 0;have hk:=a2.below hW a2.lt;have v0:=hk.cell 0;have v1:=hk.cell 1;have v2:=hk.cell 2;simp only[Ft,D0,N2] at k1 v0 v1 v2;exact⟨k0,k1,v0,v1,v2⟩
     have J:=LH a9;clear a9 a2;have a1:=LH Z;clear Z;have ac:=LH I;clear I aR M ao aw ae;go_wp2_with fail;refine nW ?_;refine CU (fun W=>W.cell? ⟨g,off,B0⟩=Bs (.map (Bs b))/\W.cell? ⟨w.heap.size,0,B0⟩=Bs (.string key)/\W.cell? ⟨a.heap.size,0,B0⟩=Bs (.int .i64 t)/\W.cell? ⟨a.heap.size,1,B0⟩=Bs (.string vv)/\W.cell? ⟨a.heap.size,2,B0⟩=Bs (.bool gone)) 11 (fun _ _ _ _ _ h=>h) (fun r=>?_);have s:=J.o w5.drew (S2 _ _).drew;refine nF 0 r s ?_;refine nF 1 r s ?_;refine nF 2 r s ?_;refine nB 3 rfl rfl r s (fun w' Q=>by obtain⟨q0,q1,q2,q3,q4⟩:=Q;go_simp;rfl) ?_;refine nF 4 r s ?_;refine nB 5 rfl rfl r s (fun w' Q=>by obtain⟨q0,q1,q2,q3,q4⟩:=Q;go_simp;rfl) ?_;refine nF 6 r s ?_;refine nF 7 r s ?_;refine nB 8 rfl rfl r s (fun w' Q=>by obtain⟨q0,q1,q2,q3,q4⟩:=Q;go_simp;rfl) ?_;clear s;refine nG 9 (fun KK hK=>?_);go_simp;refine hK _ _ (fun _=>J.o _ ((S2 _ _).alloc (L1 _) _).drew) ?_;clear hK KK;have a4:VJ w5.heap.size w5 (w5.drew.alloc (.cells #[.int .i64 t,.string vv,.bool gone] 145)):=(S2 _ _).drew.alloc (L1 _) _;have aB:Ab (w5.drew.alloc (.cells #[.int .i64 t,.string vv,.bool gone] 145)) w5.heap.size 145 (Da (Im ⟨sx key,sx val,gone,t⟩)).toArray:=by rw[b8.o];exact Ab.new w5.drew _ _
     have ak:=a1.o.a8 a4;have D:=ak.row (sx key);rw[HV.o] at D;have a8:=Qz base w5.heap.size 1 (.slice A (K (sx key)).length c) (K (sx key)) (Im ⟨sx key,sx val,gone,t⟩) _ D a7 aB (fun e=>by
      rw[<- HV.o] at e;obtain⟨k1,k2⟩:=q61 e;have:=((a1.o.rows _ k1).block k2).2.1;omega) (by have:=a1.o.lo;have:=a1.o.ah.lt;have:=a4.size;omega)
     have ab:=LH a8;clear a8 aB D;have a6:=LH ak;clear ak;have av:=LH a4;clear a4;refine nG 10 (fun KK hK=>?_);go_simp;refine ab.o.mono ?_;rintro e w7 ⟨V7,rfl,R,y⟩;have aV:w7.cell? ⟨g,off,B0⟩=Bs (.map (Bs b))/\w7.cell? ⟨w.heap.size,0,B0⟩=Bs (.string key)/\w7.cell? ⟨a.heap.size,0,B0⟩=Bs (.int .i64 t)/\w7.cell? ⟨a.heap.size,1,B0⟩=Bs (.string vv)/\w7.cell? ⟨a.heap.size,2,B0⟩=Bs (.bool gone):=by
      obtain⟨q0,q1,q2,q3,q4⟩:=J.o _ av.o;have F:∀ q,Dz (Bs b) loc K q\/True->q=g\/w.heap.size<=q->¬Bs q=(WI A (K (sx key)).length c).ownBlock:=fun q _ E e=>by
       rw[<- HV.o] at e;obtain⟨k1,k2⟩:=q61 e.symm;rcases E with rfl|E
       ·exact a6.o.cd k1 k2
       ·have:=((N.o.rows _ k1).block k2).2.1;omega
      have X:∀ q,q<w5.heap.size->q<(w5.drew.alloc (.cells #[.int .i64 t,.string vv,.bool gone] 145)).heap.size:=fun q E=>VH E av.o.size
      have b7:=a1.o.ah.lt;have am:w.heap.size<=a.heap.size:=ar.o.size;have al:a.heap.size<w5.heap.size:=by
       have:=V0 w5 ⟨a.heap.size,0,B0⟩ (J.o w5 (S2 _ _)).2.2.1;exact this
      refine⟨(y.1.cell (p:=⟨g,off,B0⟩) (X g b7) (F g (.inr trivial) (.inl rfl))).trans q0,(y.1.cell (p:=⟨w.heap.size,0,B0⟩) (X _ (by show w.heap.size<_;omega)) (F _ (.inr trivial) (.inr (L1 _)))).trans q1,(y.1.cell (p:=⟨a.heap.size,0,B0⟩) (X _ al) (F _ (.inr trivial) (.inr am))).trans q2,(y.1.cell (p:=⟨a.heap.size,1,B0⟩) (X _ al) (F _ (.inr trivial) (.inr am))).trans q3,(y.1.cell (p:=⟨a.heap.size,2,B0⟩) (X _ al) (F _ (.inr trivial) (.inr am))).trans q4⟩
     have V:Aa kV w7 b n (Ef loc K):=(show Aa kV _ b n (Ef loc K) from a6.o.map).fr y.1 (fun e=>by
      rw[<- HV.o] at e;obtain⟨k1,k2⟩:=q61 e.symm;exact a6.o.bB k1 k2)
     have bc:=LH aV;clear aV;have aY:=LH V;clear V;have an:=LH R;clear R;have ba:=LH y;clear y ab;go_simp;refine hK _ _ (fun _=>bc.o) ?_;clear hK KK;refine nG 11 (fun KK hK=>?_);refine Gw (C:=kV) 101 142 Tryz.underlying101 (.tmp 75) (.tmp 77) _ rfl (by simp[Xg,Xj]) aY.o (by unfold VZ;omega) key V7 (by simp[Xg,Xj,kV,keyS]) (by simp[Xg,Xj]) aO ?_;intro w8 aM aQ;have aF:Qh base (n+1) g off ty (cs.setIfInBounds off (.map (Bs b))) (Bs b) loc K (BX K (sx key) (Cu (K (sx key)) (Im ⟨sx key,sx val,gone,t⟩))) low a w8:=by
      have F:Cu (K (sx key)) (Im ⟨sx key,sx val,gone,t⟩)≠[]:=fun e=>by have:=qcd (K (sx key)) (Im ⟨sx key,sx val,gone,t⟩);rw[e] at this;simp at this
      have aL:=ba.o;rw[<- HV.o] at aL;obtain⟨s1,s2,s3⟩:=B8.setK (n2:=n+1) (by omega) a6.o b6 F (fun v hv=>by
       rcases q6x.1 hv with rfl|hv
       ·exact⟨aE,b3⟩
       ·exact N.o.times _ v hv) (q9s (N.o.sorted _) bb.o) (by rw[qcd];have:=N.o.len (sx key);omega) (.inl an.o) aL aM aQ
      have z:=ac.o.trans (av.o.mono ac.o.size);exact Qh.trans (v1:=.map (Bs b)) ⟨z.os,z.tape,z.output,z.size,fun k hk _=>z.block k hk⟩ (fun q h=>.inl h) ⟨Bs b,_,by rw[q4i,q4i];exact s1,s2,s3⟩
     have f:=au.o a b w8 ar.o b1.o aF;have HF:=LH f;clear f aM aQ;refine hK _ _ nZ ?_;clear hK KK;refine nX ?_;clear r;go_wp2_with fail;go_ret;exact HF.o
  ·
   have f:Ri base n g off ty cs mb loc K low ⟨sx key,sx val,gone,t⟩ w (.returned (.iface 79 (.int .i64 9))) u:=by
    unfold Ri;rw[aX.o,if_pos hh];exact⟨rfl,Qh.below N.o (W5 n) d.o⟩
   have HF:=LH f;clear f hh;go_wp2_with fail;go_ret;exact HF.o
theorem Ux (d:n+1<=100000):VX Tryz.prog 82 #[.pointer (Bs ⟨g,off,B0⟩),.int .i64 t,.agg #[.string key,.string val,.bool gone]] w (Ri base n g off ty cs mb loc K low ⟨sx key,sx val,gone,t⟩ w):=by
 by_cases h:t<0\/1099511627776<t
 ·exact OI base n g off ty cs mb loc K low key val gone t w hI h
 ·by_cases c:20<(sx key).length\/40<(sx val).length
  ·exact OJ base n g off ty cs mb loc K low key val gone t w hI h c
  ·by_cases a:t<low
   ·exact Rs base n g off ty cs mb loc K low key val gone t w hI h c a
   ·exact Rr base n g off ty cs mb loc K low key val gone t w hI h c a d
end
def q3z (base n g off:Nat) (ty:VQ) (cs:Array Hi) (mb:Option Nat) (loc:Sx->Av) (T:Tb) (x:Ak) (w:B1) (e:WA) (w':B1):Prop:=
 ∃ (ok:Bool) (l:List Int) (d:Int) (T':Tb) (A:Option Addr) (c:Nat) (a:Option Nat) (loc':Sx->Av),e=.returned (.tuple #[.bool ok,.slice A l.length c,CX d])/\DA T x ok l d T'/\
  AD w' base (n+2) g off ty (cs.setIfInBounds off (.map a)) a loc' T'/\(∀ b,AE a loc' T' b->AE mb loc T b\/w.heap.size<=b)/\Fr (TFr g mb loc T) w w'/\
  Rd w' w'.heap.size 1 A l.length (l.map (Wi .i64))/\(∀ b o,A=Bs ⟨b,o,B0⟩->0<l.length->w.heap.size<=b/\¬AE a loc' T' b)
theorem q8l {w a:B1} {g:Nat} {mb:Option Nat} {loc:Sx->Av} {T:Tb} {o:Obj} (c:Fr (fun k=>k=g\/Bs k=mb) (w.alloc o) a):Fr (TFr g mb loc T) w a:=
 ((Fr.refl (fun k=>k=g\/Bs k=mb) w).alloc o |>.trans c).mono (fun i _ h=>by
  rcases h with h|h
  ·exact .inl h
  ·exact .inr (.inl h))
theorem qcm {w c:B1} {mb:Option Nat} {b1:Nat} {loc:Sx->Av} {T:Tb} {x:Sx} {L:Av} {k':Kx} (f:VG mb c b1) (r:w.heap.size<=c.heap.size) (q:T x≠B0->L=loc x) (p:T x=B0->∀ b,AQ L b->c.heap.size<=b) :
  ∀ b,AE (Bs b1) (Az loc x L) (Ap T x (Bs k')) b->AE mb loc T b\/w.heap.size<=b:=fun b a=>by
 rcases a with a|⟨y,d,a⟩
 ·injection a with a;rcases f with h|⟨_,h⟩
  ·exact .inl (.inl (by rw[h,a]))
  ·exact .inr (by omega)
 ·by_cases e:y=x
  ·subst e;rw[show Az loc y L y=L by unfold Az;rw[if_pos rfl]] at a;by_cases i:T y=B0
   ·exact .inr (VO r (p i b a))
   ·exact .inl (.inr ⟨y,i,q i▸a⟩)
  ·rw[show Az loc x L y=loc y by unfold Az;rw[if_neg e]] at a;unfold Ap at d;rw[if_neg e] at d;exact .inl (.inr ⟨y,d,a⟩)
theorem LY (base n g off:Nat) (ty:VQ) (cs:Array Hi) (mb:Option Nat) (loc:Sx->Av) (T:Tb) (s:ByteArray) (tx mode:Int) (w:B1) (hI:AD w base n g off ty cs mb loc T) (d:BW mode) (hl:(sx s).length<=20) (a5:CA tx) (hn:n<1000000)
  (S:CC (Ac T (sx s)).ws tx=T2) :
  VX Tryz.prog 64 #[.pointer (Bs ⟨g,off,B0⟩),.int .i64 tx,.string s,.int .i64 mode] w (q3z base n g off ty cs mb loc T ⟨tx,sx s,mode⟩ w):=by
 have v:VJ w.heap.size w (w.alloc (.cells #[.int .i64 tx] 3)):=(S2 _ _).alloc (L1 _) _;have M:=hI.a8 v;have N:Ab (w.alloc (.cells #[.int .i64 tx] 3)) w.heap.size 3 #[.int .i64 tx]:=Ab.new w _ _;have F:=ML base n g off ty cs mb loc T s _ M hl hn;have R:=LH F;clear F M;have HI:=LH hI;clear hI;have a2:=LH N;clear N;have a9:=LH v;clear v;have a3:¬((s.size:Int) > 20):=by rw[GI];omega
 go_enter Tryz.func64,Tryz.ntmps64;go_upto_block 0 with (fail)
 go_cut [] (fun wx=>wx=w.alloc (.cells #[.int .i64 tx] 3))
 case first=>
  rcases d with rfl|rfl
  ·go_wp2_with fail;go_meet;rfl
  ·go_wp2_with fail;go_meet;rfl
 case rest=>
  subst hcut;go_wp2_with fail;refine R.o.mono ?_;rintro e w1 ⟨b1,L,rfl,z,q,D,J,I⟩;have G:Ap T (sx s) (Bs (Ac T (sx s))) (sx s)=Bs (Ac T (sx s)):=by unfold Ap;rw[if_pos rfl]
  have a:=z.keys (sx s) _ G;rw[show Az loc (sx s) L (sx s)=L by unfold Az;rw[if_pos rfl]] at a;have f:=q.ah a2.o (fun h=>by
   rcases h with h|h
   ·have:=HI.o.ah.lt;omega
   ·have:=(HI.o.av (.inl h)).2;omega)
  have cb:=f.cell 0;have W:=a.ah.cell 0;have O:=a.ah.cell 1;have a7:=a.ah.lt;have a4:=f.lt;obtain⟨A,c,U,a6,_⟩:=AK a.row;simp only[Ft,D0,N2] at cb W O;rw[U] at O;have r:=q3c 87 #[.pointer (Bs ⟨w.heap.size,0,B0⟩)] (fun x=>decide (x.1=tx)) A _ c _ w1 (P9 Tryz.func87 (by kernel_rfl) rfl) (q9q w.heap.size tx w1 cb) (Rd.au (U▸a.row)) rfl (by have:=a.len;omega);rw[show(Ac T (sx s)).ws.any (fun x=>decide (x.1=tx))=T2 from S] at r;have a1:=LH r;clear r;have a8:=LH a;clear a;have a0:=LH z;clear z;have Q:=LH q;clear q;have X:=LH D;clear D;have Z:=LH J;clear J;have Y:=LH I;clear I;have HV:=LH U;clear U;have aa:=LH f;clear f G R;go_wp2_with fail;refine a1.o.mono ?_;rintro e w2 ⟨rfl,u⟩;have E:T (sx s)≠B0:=fun h=>by rw[show Ac T (sx s)=k0 by unfold Ac;rw[h];rfl] at S;cases S
  obtain⟨k,hk⟩:=Option.ne_none_iff_exists'.1 E;have y:=a0.o.a8 u;have B:=q9b hk;have V:Ap T (sx s) (Bs (Ac T (sx s)))=T:=B;rw[V] at y;have p:q3z base n g off ty cs mb loc T ⟨tx,sx s,mode⟩ w (.returned (.tuple #[.bool Jx,.slice B0 0 0,CX 9])) w2:=by
   refine⟨Jx,[],9,T,B0,0,Bs b1,_,rfl,.twice d hl S,y.mono (by omega),fun b hb=>?_,(q8l Q.o).trans' (q26 u) (fun i hi (h:_<=i)=>?_),Rd.none_ _ _ _ _,fun b o h=>nomatch h⟩
   ·have h2:=qcm (w:=w) (k':=Ac T (sx s)) X.o (by simp) Z.o Y.o b;rw[V] at h2;exact h2 hb
   ·have:=Q.o.size;simp at this;omega
  have HF:=LH p;clear p y u B V hk E;unfold CX at HF;go_wp2_with fail;go_ret3;exact HF.o
theorem qc3 (T:Tb) (x:Sx) (a b:Option Kx):Ap (Ap T x a) x b=Ap T x b:=by
 funext y;unfold Ap;split <;> rfl
theorem JA (loc:Sx->Av) (x:Sx) (L L':Av):Az (Az loc x L) x L'=Az loc x L':=by
 funext y;unfold Az;split <;> rfl
theorem NB (h:Int->Option Int) (tx mode:Int):AU (hM h) tx (Bs (.int .i64 (if mode > Ax h tx then mode else Ax h tx)))=hM (Aj h tx mode):=by
 have e:(if mode > Ax h tx then mode else Ax h tx)=max (Ax h tx) mode:=by split <;> omega
 funext o;unfold AU hM Aj AW;rw[e];split <;> rfl
theorem Jf {m:Int} (h:BW m):CA m:=by rcases h with rfl|rfl <;> rfl
theorem U3 {h:Int->Option Int} {tx mode:Int} (d:∀ o m,h o=Bs m->CA o/\CA m) (a:CA tx) (f:BW mode):∀ o m,Aj h tx mode o=Bs m->CA o/\CA m:=fun o m e=>by
 unfold Aj AW at e;split at e
 ·rename_i e1;injection e with e;subst e1;refine⟨a,?_⟩;rw[<- e];unfold Ax;rcases Int.le_total ((h o).getD 0) mode with c|c
  ·rw[Int.max_eq_right c];exact Jf f
  ·rw[Int.max_eq_left c];cases i:h o with
   | none=>rfl
   | some p=>exact(d _ _ i).2
 ·exact d o m e
theorem RW (base n g off:Nat) (ty:VQ) (cs:Array Hi) (mb:Option Nat) (loc:Sx->Av) (T:Tb) (s:ByteArray) (tx mode:Int) (w:B1) (hI:AD w base n g off ty cs mb loc T) (q:BW mode) (hl:(sx s).length<=20) (S:CA tx) (hn:n<1000000)
  (hw:CC (Ac T (sx s)).ws tx=Jx) (a8:As (Ac T (sx s)).h tx mode (Ac T (sx s)).ws=T2) :
  VX Tryz.prog 64 #[.pointer (Bs ⟨g,off,B0⟩),.int .i64 tx,.string s,.int .i64 mode] w (q3z base n g off ty cs mb loc T ⟨tx,sx s,mode⟩ w):=by
 have Y:VJ w.heap.size w (w.alloc (.cells #[.int .i64 tx] 3)):=(S2 _ _).alloc (L1 _) _;have ah:=hI.a8 Y;have aj:Ab (w.alloc (.cells #[.int .i64 tx] 3)) w.heap.size 3 #[.int .i64 tx]:=Ab.new w _ _;have ac:=ML base n g off ty cs mb loc T s _ ah hl hn;have ap:=LH ac;clear ac ah;have HI:=LH hI;clear hI;have az:=LH aj;clear aj;have aC:=LH Y;clear Y;have aA:¬((s.size:Int) > 20):=by rw[GI];omega
 go_enter Tryz.func64,Tryz.ntmps64;go_upto_block 0 with (fail)
 go_cut [] (fun wx=>wx=w.alloc (.cells #[.int .i64 tx] 3))
 case first=>
  rcases q with rfl|rfl
  ·go_wp2_with fail;go_meet;rfl
  ·go_wp2_with fail;go_meet;rfl
 case rest=>
  subst hcut;go_wp2_with fail;refine ap.o.mono ?_;rintro e M ⟨b1,L,rfl,a1,V,a6,ae,ad⟩;have B:Ap T (sx s) (Bs (Ac T (sx s))) (sx s)=Bs (Ac T (sx s)):=by unfold Ap;rw[if_pos rfl]
  have d:=a1.keys (sx s) _ B;rw[show Az loc (sx s) L (sx s)=L by unfold Az;rw[if_pos rfl]] at d;have G:=V.ah az.o (fun h=>by
   rcases h with h|h
   ·have:=HI.o.ah.lt;omega
   ·have:=(HI.o.av (.inl h)).2;omega)
  have cb:=G.cell 0;have ak:=d.ah.cell 0;have a2:=d.ah.cell 1;have a7:=d.ah.lt;have O:=G.lt;obtain⟨A,c,hV,aq,_⟩:=AK d.row;simp only[Ft,D0,N2] at cb ak a2;rw[hV] at a2;have X:=q3c 87 #[.pointer (Bs ⟨w.heap.size,0,B0⟩)] (fun x=>decide (x.1=tx)) A _ c _ M (P9 Tryz.func87 (by kernel_rfl) rfl) (q9q w.heap.size tx M cb) (Rd.au (hV▸d.row)) rfl (by have:=d.len;omega);rw[show(Ac T (sx s)).ws.any (fun x=>decide (x.1=tx))=Jx from hw] at X;have ao:=LH X;clear X;have aw:=LH d;clear d;have ax:=LH a1;clear a1;have an:=LH V;clear V;have au:=LH a6;clear a6;have am:=LH ae;clear ae;have al:=LH ad;clear ad;have HV:=LH hV;clear hV;have ay:=LH G;clear G B ap;go_wp2_with fail;refine ao.o.mono ?_;rintro e w2 ⟨rfl,ab⟩;have r:∀ W,VJ M.heap.size M W->Ba W base (n+1) L (Ac T (sx s))/\W.cell? ⟨w.heap.size,0,B0⟩=Bs (.int .i64 tx)/\W.cell? ⟨L.g,0,B0⟩=Bs (.map (Bs L.hb))/\W.cell? ⟨L.g,1,B0⟩=Bs (.slice A (Ac T (sx s)).ws.length c):=fun W hW=>by
   have E:=aw.o.a8 hW;have h2:=E.ah.cell 0;have h3:=E.ah.cell 1;have h4:=(ay.o.below hW O).cell 0;simp only[Ft,D0,N2] at h2 h3 h4;rw[HV.o] at h3;exact⟨E,h4,h2,h3⟩
  have z:∀ W,VJ M.heap.size M W->VX Tryz.prog 88 #[.pointer (Bs ⟨L.g,0,B0⟩),.int .i64 tx,.int .i64 mode,.slice A (Ac T (sx s)).ws.length c] W fun e w'=>e=.returned (.bool T2)/\VJ W.heap.size W w':=fun W hW=>by
   have E:=(r W hW).1;have h2:=qch L.g L.hb (n+1) (Ac T (sx s)).ws.length c L.V (Ac T (sx s)).h tx mode A (Ac T (sx s)).ws W E.ah E.holds E.cM S (Rd.au (HV.o▸E.row)) rfl (by have:=E.len;omega);rw[a8] at h2;exact h2
  have f:=LH r;clear r;have a5:=LH z;clear z;have J:=LH ab;clear ab ao;have aB:=LH a7;clear a7;clear cb ak a2 O aq;go_wp2_with fail;refine nW ?_;refine CU (fun w'=>w'.cell? ⟨w.heap.size,0,B0⟩=Bs (.int .i64 tx)/\w'.cell? ⟨L.g,1,B0⟩=Bs (.slice A (Ac T (sx s)).ws.length c)) 8 (fun _ _ _ _ _ h=>h) (fun a4=>?_);have u:=f.o w2.drew J.o.drew;have p:=Wm u.2.1 u.2.2.2;clear u;refine nE 0 p ?_;refine nC 1 rfl (fun _ _ _ h=>a4 _ _ _ _ _ h) p (fun w' R=>by obtain⟨h0,E⟩:=R;go_simp;rfl) ?_;refine nE 2 p ?_;refine nE 3 p ?_;refine nE 4 p ?_;refine nE 5 p ?_;refine nC 6 rfl (fun _ _ _ h=>a4 _ _ _ _ _ h) p (fun w' R=>by obtain⟨h0,E⟩:=R;go_simp;rfl) ?_;refine nG 7 (fun K hK=>?_);go_simp;refine(a5.o w2.drew J.o.drew).mono ?_;rintro e w3 ⟨rfl,aa⟩;have ai:VJ M.heap.size M w3:=J.o.drew.trans (aa.mono (by have:=J.o.size;simpa using this));have F:=LH ai;clear ai aa;have u:=f.o w3 F.o;go_simp;refine hK _ _ (fun _=>⟨u.2.1,u.2.2.2⟩) ?_;clear hK K p;refine nX ?_;clear a4 u;go_wp2_with fail;refine XM 13 (by kernel_rfl) (by kernel_rfl) ?_;change wpStill _ _ (Ym _) _ _ _;simp only[WU,XN,Xd,Yt];have a3:=LH S;clear S;obtain⟨U,c0,c1,_⟩:=f.o w3.drew F.o.drew;have ar:=qcg U.holds a3.o;have HH:=LH U.holds;clear U
  repeat still_step
  refine Y5 ?_;refine TF (C:=kI) rfl 61 3 Tryz.underlying61 (.tmp 51) (.tmp 52) (.tmp 60) rfl (by simp[Xg]) HH.o (by unfold VZ;omega) tx (.int .i64 (if mode > Ax (Ac T (sx s)).h tx then mode else Ax (Ac T (sx s)).h tx)) (by simp[Xg];rfl) (by simp[Xg];try (split <;> omega)) a3.o ?_;intro w4 v a9;have av:=LH v;clear v;have I:=LH a9;clear a9;clear ar c0 c1 HH;have a:=(f.o w3.drew F.o.drew).1;have ag:=ax.o.a8 F.o.drew;have y:AU (hM (Ac T (sx s)).h) tx (Bs (.int .i64 (if mode > Ax (Ac T (sx s)).h tx then mode else Ax (Ac T (sx s)).h tx)))=hM (Aj (Ac T (sx s)).h tx mode):=NB _ _ _;have v:=av.o;rw[y] at v;have af:Ba w4 base (n+2) L ⟨Aj (Ac T (sx s)).h tx mode,(Ac T (sx s)).ws⟩:=
   ⟨I.o.ah a.ah (fun e=>a.holds.a6 a.ah e.symm),v,I.o.own a.row (fun b hb e=>by subst e;exact a.holds.aG a.row hb),a.log,a.loh,fun o m h=>U3 a.cM a3.o q o m h,a.okw,a.len⟩
  have B:Ap T (sx s) (Bs (Ac T (sx s))) (sx s)=Bs (Ac T (sx s)):=by unfold Ap;rw[if_pos rfl]
  have D:Az loc (sx s) L (sx s)=L:=by unfold Az;rw[if_pos rfl]
  have a0:=ag.cu (n':=n+2) (L':=L) (k':=⟨Aj (Ac T (sx s)).h tx mode,(Ac T (sx s)).ws⟩) B (by omega) (I.o.mono (fun i _ (h:i=L.hb)=>by rw[D];exact .inr (.inl h))) af (by rw[D]) (by rw[D]) (fun b hb=>by rw[D];exact .inl hb);rw[qc3,JA] at a0;have N:q3z base n g off ty cs mb loc T ⟨tx,sx s,mode⟩ w (.returned (.tuple #[.bool T2,.slice B0 0 0,CX 0])) w4:=by
   refine⟨T2,[],0,_,B0,0,Bs b1,_,rfl,.got q hl hw a8,a0,qcm au.o (by simp) am.o al.o,?_,Rd.none_ _ _ _ _,fun b o h=>nomatch h⟩;refine((q8l an.o).trans' (q26 F.o.drew) (fun i hi (h:_<=i)=>?_)).trans' I.o (fun i hi (h:i=L.hb)=>?_)
   ·have:=an.o.size;simp at this;omega
   ·by_cases Z:T (sx s)=B0
    ·have:=al.o Z i (.inr (.inl h));simp at this;omega
    ·exact .inr (.inr ⟨sx s,Z,by rw[<- am.o Z];exact .inr (.inl h)⟩)
  have Q:=LH N;clear N a0 af v y B D ag a;unfold CX at Q;go_wp2_with fail
  all_goals
   go_ret3;exact Q.o
theorem Fq (base n:Nat) (V:Hi) (l:List Int) (w:B1) (h:w.ownsRow base 3 1 V n (l.map (Wi .i64))) (s:l.length=n) (y:n<1000000000) :
  VX Tryz.prog 92 #[V] w fun e w'=>e=.returned (.tuple #[])/\w'.ownsRow base 3 1 V n ((DL l).map (Wi .i64))/\Fr (fun k=>V.ownBlock=Bs k) w w':=by
 subst s;rcases h.2 with ⟨rfl,u⟩|⟨g,cap,r,rfl,q,a,f,p,d,c⟩
 ·have e:l=[]:=Ww u;subst e;refine(GN B0 0 w).mono ?_;rintro e w' ⟨rfl,rfl⟩;exact⟨rfl,by rw[show DL []=[] by simp[DL]];exact VY _ _ _ _,Fr.refl _ _⟩
 ·refine(Ue g 0 cap l w (holds_of_blockI a (by rw[Nat.mul_one] at c;exact c)) (by have:=Ab.lt (show Ab w g _ r from a);omega) (by omega)).mono ?_;rintro e w' ⟨rfl,n,v,rfl⟩;exact⟨rfl,ownsRow_sortedI (YF l) q a f p d,Fr.aP (grownBy_sortedI _) (fun k i=>by injection i with i;subst i;rfl)⟩
theorem UB {d:List (Int×Int)} {tx mode:Int} (h:∀ x∈d,CA x.1/\CA x.2) (c:CA tx) (f:BW mode):∀ x∈BY d (tx,mode),CA x.1/\CA x.2:=fun x a=>by
 rcases q4r.1 a with rfl|a
 ·exact⟨c,Jf f⟩
 ·exact h x a
theorem UR {W w5:B1} {base n:Nat} {L:Av} {k:Kx} {tx mode:Int} {V':Hi} {i:Nat} (h:Ba W base n L k) (y:(k.ws.takeWhile (fun x=>decide (x.1<tx))).length=i) (B:k.ws.length≠50)
  (a:w5.ownsRow base 166 2 V' (k.ws.length+1) (Cc 2 i (Cy (tx,mode)) (k.ws.flatMap Cy))) (c:Aq W w5 L.V.ownBlock V'.ownBlock) (q:CA tx) (v:BW mode) :
  Ba (w5.setCell ⟨L.g,1,B0⟩ V') base n ⟨L.g,L.hb,V'⟩ ⟨k.h,BY k.ws (tx,mode)⟩/\Fr (AQ L) W (w5.setCell ⟨L.g,1,B0⟩ V'):=by
 have d:=c.1.ah h.ah (fun e=>Be h.row h.ah (by decide) e.symm);have f:=h.holds.fr c.1 (fun e=>h.holds.aG h.row e.symm);have r:=Be a d (by decide);have u:=Fr.ax L.g w5 1 V';have s:=d.aC 1 V';refine⟨⟨s,f.fr u (fun e=>f.a6 d e),?_,h.log,h.loh,h.cM,UB h.okw q v,?_⟩,(c.1.mono (fun b _ A=>.inr (.inr A.symm))).trans ((Fr.refl _ _).setCell (p:=⟨L.g,1,B0⟩) (.inl (.inl rfl)) V')⟩
 ·have:=u.own a (fun g z e=>r (by rw[z,e]));rw[OM y] at this;rw[JO];exact this
 ·rw[JO];have:=h.len;show k.ws.length+1<=50;omega
theorem J0 {mb:Option Nat} {loc:Sx->Av} {T:Tb} {x:Sx} {L L':Av} {k k':Kx} {B:Nat} (f:L'.g=L.g) (d:L'.hb=L.hb) (i:∀ b,L'.V.ownBlock=Bs b->L.V.ownBlock=Bs b\/B<=b) :
  ∀ b,AE mb (Az loc x L') (Ap T x (Bs k')) b->AE mb (Az loc x L) (Ap T x (Bs k)) b\/B<=b:=fun b a=>by
 rcases a with a|⟨y,c,a⟩
 ·exact .inl (.inl a)
 ·by_cases e:y=x
  ·subst e;rw[show Az loc y L' y=L' by unfold Az;rw[if_pos rfl]] at a;have key:AQ L b\/B<=b:=by
    rcases a with h|h|h
    ·exact .inl (.inl (by rw[h,f]))
    ·exact .inl (.inr (.inl (by rw[h,d])))
    ·rcases i b h with h|h
     ·exact .inl (.inr (.inr h))
     ·exact .inr h
   rcases key with h|h
   ·exact .inl (.inr ⟨y,by unfold Ap;rw[if_pos rfl];simp,by rw[show Az loc y L y=L by unfold Az;rw[if_pos rfl]];exact h⟩)
   ·exact .inr h
  ·rw[show Az loc x L' y=loc y by unfold Az;rw[if_neg e]] at a;unfold Ap at c;rw[if_neg e] at c;exact .inl (.inr ⟨y,by unfold Ap;rw[if_neg e];exact c,by rw[show Az loc x L y=loc y by unfold Az;rw[if_neg e]];exact a⟩)
theorem DT.dg {P:WQ} {kt:VQ} {κ:Type} {C:CQ P kt κ} {w:B1} {b r n:Nat} {m:κ->Option Hi} {left:κ->Bool} {a:Nat} (h:DT C w b r n m left a):a<=n:=by
 obtain⟨D,l,⟨q,d,c,f,s,_,_,i,_,_,_,p,_⟩,_⟩:=h;rw[<- p];exact VO (Array.size_filter_le) i
section
variable {l:List Int} {left:Int->Bool} {h:Int->Option Int} {tx mode o m:Int}
theorem JG {_:∀ p,Decidable (p=o)} : ∀ p,(left p && !decide (p=o))=Jx↔left p=Jx\/p=o:=fun p=>by
 by_cases e:p=o <;> simp[e]
theorem TP {d:∀ p,Decidable (p=o)} (u:∀ p,p∈l↔left p=Jx/\∃ m,h p=Bs m/\tx<p/\AN m mode=T2) (r:h o=Bs m) (s:left o=T2) (f:¬(tx<o/\AN m mode=T2)) :
  ∀ p,p∈l↔(left p && !decide (p=o))=Jx/\∃ m,h p=Bs m/\tx<p/\AN m mode=T2:=fun p=>by
 rw[JG p,u p];constructor
 ·rintro ⟨c,a⟩;exact⟨.inl c,a⟩
 ·rintro ⟨c|c,q,a,i⟩
  ·exact⟨c,q,a,i⟩
  ·subst c;rw[r] at a;injection a with a;subst a;exact absurd i f
theorem TO {d:∀ p,Decidable (p=o)} (s:∀ p,p∈l↔left p=Jx/\∃ m,h p=Bs m/\tx<p/\AN m mode=T2) (v:h o=Bs m) (q:left o=T2) (f:tx<o/\AN m mode=T2) (i:l.Nodup) :
  (l++[o]).Nodup/\∀ p,p∈l++[o]↔(left p && !decide (p=o))=Jx/\∃ m,h p=Bs m/\tx<p/\AN m mode=T2:=by
 refine⟨List.nodup_append.2 ⟨i,by simp,fun a y b u=>?_⟩,fun p=>?_⟩
 ·simp at u;subst u;rintro rfl;have:=((s a).1 y).1;rw[q] at this;cases this
 ·rw[JG p,Xs,s p,VW];constructor
  ·rintro (⟨c,r⟩|c)
   ·exact⟨.inl c,r⟩
   ·subst c;exact⟨.inr rfl,m,v,f⟩
  ·rintro ⟨c|c,r⟩
   ·exact .inl ⟨c,r⟩
   ·exact .inr c
end
def PX (tx mode o m:Int):Bool:=decide (tx<o) && AN m mode
theorem Pi:(Tryz.prog.info? 3).map (fun i=>(i.zero,i.size,i.bytes))=Bs (Bs (.int .i64 0),1,8):=by kernel_rfl
def SN (W:B1) (h:Int->Option Int) (tx mode:Int) (c r n:Nat) (v:Hi) (wr:B1):Prop:=
 ∃ (left:Int->Bool) (a:Nat) (l:List Int),DT kI wr c r n (hM h) left a/\l.length+a<=n/\wr.ownsRow (W.heap.size+1) 3 1 v l.length (l.map (Wi .i64))/\l.Nodup/\
  (∀ o,o∈l↔left o=Jx/\∃ m,h o=Bs m/\tx<o/\AN m mode=T2)/\VJ W.heap.size W wr/\W.heap.size+1<=wr.heap.size
def S8 (base n g off:Nat) (ty:VQ) (cs:Array Hi) (mb:Option Nat) (loc:Sx->Av) (T:Tb) (x:Ak) (w:B1) (lg c:Nat) (a:B1):Prop:=
 ∃ (b1:Nat) (V:Hi),AD a base (n+1) g off ty (cs.setIfInBounds off (.map (Bs b1))) (Bs b1) (Az loc x.key ⟨lg,c,V⟩) (Ap T x.key (Bs ⟨(Ac T x.key).h,BY (Ac T x.key).ws (x.tx,x.mode)⟩))/\
  (∀ b,AE (Bs b1) (Az loc x.key ⟨lg,c,V⟩) (Ap T x.key (Bs ⟨(Ac T x.key).h,BY (Ac T x.key).ws (x.tx,x.mode)⟩)) b->AE mb loc T b\/w.heap.size<=b)/\Fr (TFr g mb loc T) w a/\Ab a w.heap.size 3 #[.int .i64 x.tx]/\lg<a.heap.size
theorem G8 (base n g off:Nat) (ty:VQ) (cs:Array Hi) (mb:Option Nat) (loc:Sx->Av) (T:Tb) (s:ByteArray) (tx mode:Int) (w:B1) (hI:AD w base n g off ty cs mb loc T) (Q:BW mode) (hl:(sx s).length<=20) (bj:CA tx) (hn:n<1000000)
  (hw:CC (Ac T (sx s)).ws tx=Jx) (aT:As (Ac T (sx s)).h tx mode (Ac T (sx s)).ws=Jx) (aQ:(Ac T (sx s)).ws.Pairwise (·.1 < ·.1)) :
  VX Tryz.prog 64 #[.pointer (Bs ⟨g,off,B0⟩),.int .i64 tx,.string s,.int .i64 mode] w (q3z base n g off ty cs mb loc T ⟨tx,sx s,mode⟩ w):=by
 have aZ:VJ w.heap.size w (w.alloc (.cells #[.int .i64 tx] 3)):=(S2 _ _).alloc (L1 _) _;have bM:=hI.a8 aZ;have bP:Ab (w.alloc (.cells #[.int .i64 tx] 3)) w.heap.size 3 #[.int .i64 tx]:=Ab.new w _ _;have bG:=ML base n g off ty cs mb loc T s _ bM hl hn;have c6:=LH bG;clear bG bM;have HI:=LH hI;clear hI;have cz:=LH bP;clear bP;have ao:=LH aZ;clear aZ;have cA:¬((s.size:Int) > 20):=by rw[GI];omega
 go_enter Tryz.func64,Tryz.ntmps64;go_upto_block 0 with (fail)
 go_cut [] (fun wx=>wx=w.alloc (.cells #[.int .i64 tx] 3))
 case first=>
  rcases Q with rfl|rfl
  ·go_wp2_with fail;go_meet;rfl
  ·go_wp2_with fail;go_meet;rfl
 case rest=>
  subst hcut;go_wp2_with fail;refine c6.o.mono ?_;rintro e w1 ⟨b1,L,rfl,b3,aV,bo,bI,bH⟩;have aw:Ap T (sx s) (Bs (Ac T (sx s))) (sx s)=Bs (Ac T (sx s)):=by unfold Ap;rw[if_pos rfl]
  have S:=b3.keys (sx s) _ aw;rw[show Az loc (sx s) L (sx s)=L by unfold Az;rw[if_pos rfl]] at S;have av:=aV.ah cz.o (fun h=>by
   rcases h with h|h
   ·have:=HI.o.ah.lt;omega
   ·have:=(HI.o.av (.inl h)).2;omega)
  have cb:=av.cell 0;have ay:=S.ah.cell 0;have b6:=S.ah.cell 1;have bx:=S.ah.lt;have ae:=av.lt;obtain⟨A,c,hV,c9,_⟩:=AK S.row;simp only[Ft,D0,N2] at cb ay b6;rw[hV] at b6;have aW:=q3c 87 #[.pointer (Bs ⟨w.heap.size,0,B0⟩)] (fun x=>decide (x.1=tx)) A _ c _ w1 (P9 Tryz.func87 (by kernel_rfl) rfl) (q9q w.heap.size tx w1 cb) (Rd.au (hV▸S.row)) rfl (by have:=S.len;omega);rw[show(Ac T (sx s)).ws.any (fun x=>decide (x.1=tx))=Jx from hw] at aW;have c0:=LH aW;clear aW;have bd:=LH S;clear S;have aD:=LH b3;clear b3;have a8:=LH aV;clear aV;have b9:=LH bo;clear bo;have aC:=LH bI;clear bI;have aB:=LH bH;clear bH;have HV:=LH hV;clear hV;have c4:=LH av;clear av aw c6;go_wp2_with fail;refine c0.o.mono ?_;rintro e w2 ⟨rfl,bF⟩;have a0:∀ W,VJ w1.heap.size w1 W->Ba W base (n+1) L (Ac T (sx s))/\W.cell? ⟨w.heap.size,0,B0⟩=Bs (.int .i64 tx)/\W.cell? ⟨L.g,0,B0⟩=Bs (.map (Bs L.hb))/\W.cell? ⟨L.g,1,B0⟩=Bs (.slice A (Ac T (sx s)).ws.length c):=fun W hW=>by
   have D:=bd.o.a8 hW;have N:=D.ah.cell 0;have h3:=D.ah.cell 1;have h4:=(c4.o.below hW ae).cell 0;simp only[Ft,D0,N2] at N h3 h4;rw[HV.o] at h3;exact⟨D,h4,N,h3⟩
  have ad:∀ W,VJ w1.heap.size w1 W->VX Tryz.prog 88 #[.pointer (Bs ⟨L.g,0,B0⟩),.int .i64 tx,.int .i64 mode,.slice A (Ac T (sx s)).ws.length c] W fun e w'=>e=.returned (.bool Jx)/\VJ W.heap.size W w':=fun W hW=>by
   have D:=(a0 W hW).1;have N:=qch L.g L.hb (n+1) (Ac T (sx s)).ws.length c L.V (Ac T (sx s)).h tx mode A (Ac T (sx s)).ws W D.ah D.holds D.cM bj (Rd.au (HV.o▸D.row)) rfl (by have:=D.len;omega);rw[aT] at N;exact N
  have y:=LH a0;clear a0;have am:=LH ad;clear ad;have ap:=LH bF;clear bF c0;have cH:=LH bx;clear bx;have c3:=LH ae;have cr:=LH bj;clear cb ay b6 ae c9;go_upto_region 8 with (fail)
  go_cut [47] (fun s47 wx=>s47=.bool Jx/\VJ w1.heap.size w1 wx)
  case first=>
   refine nW ?_;refine CU (fun w'=>w'.cell? ⟨w.heap.size,0,B0⟩=Bs (.int .i64 tx)/\w'.cell? ⟨L.g,1,B0⟩=Bs (.slice A (Ac T (sx s)).ws.length c)) 8 (fun _ _ _ _ _ h=>h) (fun q=>?_);have r:=y.o w2.drew ap.o.drew;have a:=Wm r.2.1 r.2.2.2;clear r;refine nF 0 q a ?_;refine nB 1 rfl rfl q a (fun w' I=>by obtain⟨h0,D⟩:=I;go_simp;rfl) ?_;refine nF 2 q a ?_;refine nF 3 q a ?_;refine nF 4 q a ?_;refine nF 5 q a ?_;refine nB 6 rfl rfl q a (fun w' I=>by obtain⟨h0,D⟩:=I;go_simp;rfl) ?_;refine nG 7 (fun K E=>?_);go_simp;refine(am.o w2.drew ap.o.drew).mono ?_;rintro e w3 ⟨rfl,Y⟩;have bO:VJ w1.heap.size w1 w3:=ap.o.drew.trans (Y.mono (by have:=ap.o.size;simpa using this));have F:=LH bO;clear bO Y;have r:=y.o w3 F.o;go_simp;refine E _ _ (fun _=>⟨r.2.1,r.2.2.2⟩) ?_;clear E K a;refine nX ?_;clear q r;go_wp2_with fail;go_meet;exact⟨rfl,F.o⟩
  case rest=>
   obtain⟨bh,Y⟩:=hcut;subst bh;clear am ap;have F:=LH Y;clear Y;have bK:=aD.o.a8 F.o;have bZ:=LH bK;clear bK;obtain⟨_,cn,cp,co⟩:=y.o wc F.o;by_cases a7:(Ac T (sx s)).ws.length=50
   ·
    have G:q3z base n g off ty cs mb loc T ⟨tx,sx s,mode⟩ w (.returned (.tuple #[.bool Jx,.slice B0 0 0,CX 4])) wc:=by
     have ce:T (sx s)≠B0:=fun h=>by rw[show Ac T (sx s)=k0 by unfold Ac;rw[h];rfl] at a7;cases a7
     obtain⟨k,hk⟩:=Option.ne_none_iff_exists'.1 ce;have hT:Ap T (sx s) (Bs (Ac T (sx s)))=T:=q9b hk;have bL:=bZ.o;rw[hT] at bL;refine⟨Jx,[],4,T,B0,0,Bs b1,_,rfl,.full Q hl hw aT a7,bL.mono (by omega),fun b hb=>?_,(q8l a8.o).trans' (q26 F.o) (fun i hi (h:_<=i)=>?_),Rd.none_ _ _ _ _,fun b o h=>(nomatch h)⟩
     ·have N:=qcm (w:=w) (k':=Ac T (sx s)) b9.o (by simp) aC.o aB.o b;rw[hT] at N;exact N hb
     ·have:=a8.o.size;simp at this;omega
    have M:=LH G;clear G;have bQ:(((Ac T (sx s)).ws.length:Int) == 50)=T2:=by simp[a7]
    unfold CX at M;go_wp2_with fail;go_ret3;exact M.o
   have bQ:(((Ac T (sx s)).ws.length:Int) == 50)=Jx:=by rw[beq_eq_false_iff_ne];omega
   have c7:=LH a7;clear a7;go_upto_region 13 with (fail)
   clear bQ cn cp co;go_cut [12] (fun s12 wx=>∃ i:Nat,s12=.int .i64 i/\Hid (i<=(Ac T (sx s)).ws.length/\((Ac T (sx s)).ws.takeWhile (fun x=>decide (x.1<tx))).length=i)/\VJ w1.heap.size w1 wx)
   case first=>
    refine nW ?_;refine CU (fun w'=>w'.cell? ⟨w.heap.size,0,B0⟩=Bs (.int .i64 tx)/\w'.cell? ⟨L.g,1,B0⟩=Bs (.slice A (Ac T (sx s)).ws.length c)) 10 (fun _ _ _ _ _ h=>h) (fun q=>?_);have r:=y.o wc.drew F.o.drew;have a:=Wm r.2.1 r.2.2.2;have bE:=Iq 90 (PP tx) A _ c (Ac T (sx s)).ws tx wc.drew (P9 Tryz.func90 (by kernel_rfl) rfl) (Pb tx wc.drew) (Rd.au (HV.o▸r.1.row)) rfl (by have:=r.1.len;omega) (fun _ _=>trivial) (SA aQ);have c1:=LH bE;clear bE;clear r;refine nF 0 q a ?_;refine nF 1 q a ?_;refine nF 2 q a ?_;refine nB 3 rfl rfl q a (fun w' I=>by obtain⟨h0,D⟩:=I;go_simp;rfl) ?_;refine nB 4 rfl rfl q a (fun w' I=>by obtain⟨h0,D⟩:=I;go_simp;rfl) ?_;refine nG 5 (fun K E=>?_);go_simp;refine c1.o.mono ?_;rintro e w4 ⟨i,f,rfl,hi,bt,bu,_,af⟩;have ab:=Jd hi bt bu;have ak:=LH (Wm hi ab);clear hi bt bu ab;have bN:VJ w1.heap.size w1 w4:=F.o.drew.trans (af.mono (by have:=F.o.size;simpa using this));have U:=LH bN;clear bN af c1;have r:=y.o w4 U.o;have Z:=Wm r.2.1 r.2.2.2;clear r a;have a:=Z;clear Z;go_simp;refine E _ _ (fun _=>a) ?_;clear E K;refine nG 6 (fun K E=>?_);go_simp;refine E _ _ (fun _=>a) ?_;clear E K;refine nF 7 q a ?_;refine nF 8 q a ?_;refine nG 9 (fun K E=>?_);go_simp;refine E _ _ (fun _=>a) ?_;clear E K;refine nG 10 (fun K E=>?_);go_simp;refine E _ _ nZ ?_;clear E K;refine nX ?_;clear q a;go_wp2_with fail;go_meet;exact⟨i,rfl,ak,U.o⟩
   case rest=>
    obtain⟨i,bi,ab,af⟩:=hcut;subst bi;have U:=LH af;clear af F bZ;have ak:=LH ab.o;clear ab;go_upto_region 14 with (fail)
    go_cut [] (fun wx=>S8 base n g off ty cs mb loc T ⟨tx,sx s,mode⟩ w L.g L.hb wx)
    case first=>
     refine nW ?_;refine CU (fun w'=>w'.cell? ⟨w.heap.size,0,B0⟩=Bs (.int .i64 tx)/\w'.cell? ⟨L.g,1,B0⟩=Bs (.slice A (Ac T (sx s)).ws.length c)) 11 (fun _ _ _ _ _ h=>h) (fun q=>?_);have r:=y.o wc.drew U.o.drew;have a:=Wm r.2.1 r.2.2.2;clear r;refine nF 0 q a ?_;refine nF 1 q a ?_;refine nF 2 q a ?_;refine nF 3 q a ?_;refine nB 4 rfl rfl q a (fun w' I=>by obtain⟨h0,D⟩:=I;go_simp;rfl) ?_;refine nF 5 q a ?_;refine nB 6 rfl rfl q a (fun w' I=>by obtain⟨h0,D⟩:=I;go_simp;rfl) ?_;refine nF 7 q a ?_;refine nF 8 q a ?_;refine nG 9 (fun K E=>?_);go_simp;have ag:VJ w1.heap.size w1 ((wc.alloc (.cells #[.int .i64 tx,.int .i64 mode] 166)).drew):=(U.o.alloc (by have:=U.o.size;simpa using this) _).drew;have a5:=y.o _ ag;have bJ:=aD.o.a8 ag;have bg:Ab ((wc.alloc (.cells #[.int .i64 tx,.int .i64 mode] 166)).drew) wc.heap.size 166 #[.int .i64 tx,.int .i64 mode]:=Ab.new wc _ _;have aM:=c4.o.below ag c3.o;have aK:=Qp base (Ac T (sx s)).ws.length i wc.heap.size 1 L.V ((Ac T (sx s)).ws.flatMap Cy) (Cy (tx,mode)) _ a5.1.row ak.o.1 (by have:=a5.1.len;omega) (fun u hu=>by
      obtain⟨x,_,hx⟩:=List.mem_flatMap.1 hu;simp only[Cy,XZ,XS,or_false] at hx;rcases hx with rfl|rfl <;> rfl) rfl (fun u hu=>by
      simp only[Cy,XZ,XS,or_false] at hu;rcases hu with rfl|rfl <;> rfl) bg (fun e=>by have:=(bd.o.av (.inr (.inr e))).2;have:=U.o.size;omega) (by have:=aD.o.bg;have:=U.o.size;simp;omega)
     generalize cj:(wc.alloc (.cells #[.int .i64 tx,.int .i64 mode] 166)).drew=w5 at *;have aO:=LH aK;clear aK;have a3:=LH a5.1;have cu:=LH bJ;clear bJ;have c5:=LH ag;clear ag;have ai:=LH aM;clear aM bg;have Z:=Wm a5.2.1 a5.2.2.2;clear a5 a;have a:=Z;clear Z;clear cj;refine E _ _ (fun _=>a) ?_;clear E K;refine nG 10 (fun K E=>?_);rw[HV.o] at aO;go_simp;refine aO.o.mono ?_;rintro e w6 ⟨V',rfl,aa,J⟩;rw[<- HV.o] at J;obtain⟨R,aU⟩:=UR a3.o ak.o.2 c7.o aa J cr.o Q;have au:=J.1.ah a3.o.ah (fun e=>Be a3.o.row a3.o.ah (by decide) e.symm);have b5:=au.cell 1;have cq:=au.frozen 1;have bz:=au.lt;simp only[Ft,D0,N2] at b5;have aL:=J.1.ah ai.o (fun e=>Be a3.o.row ai.o (by decide) e.symm);have b4:=aL.cell 0;simp only[Ft,D0] at b4;have aX:=b5;rw[HV.o] at aX;have cy:=LH (Wm b4 aX);clear b4 aX aL;have G:S8 base n g off ty cs mb loc T ⟨tx,sx s,mode⟩ w L.g L.hb (w6.setCell ⟨L.g,1,B0⟩ V'):=by
      have aw:Ap T (sx s) (Bs (Ac T (sx s))) (sx s)=Bs (Ac T (sx s)):=by unfold Ap;rw[if_pos rfl]
      have ax:Az loc (sx s) L (sx s)=L:=by unfold Az;rw[if_pos rfl]
      have a6:=cu.o.cu (n':=n+1) (L':=⟨L.g,L.hb,V'⟩) (k':=⟨(Ac T (sx s)).h,BY (Ac T (sx s)).ws (tx,mode)⟩) aw (L1 _) (by rw[ax];exact aU) R (by rw[ax]) (by rw[ax]) (fun b hb=>by
       rw[ax];rcases J.2 with e|⟨g',e,cc⟩
       ·exact .inl (e.symm.trans hb)
       ·rw[hb] at e;injection e with e;exact .inr (by omega))
      rw[qc3,JA] at a6;refine⟨b1,V',a6,fun b hb=>?_,?_,?_,by simp[World.setCell];exact bz⟩
      ·rcases J0 (L:=L) (L':=⟨L.g,L.hb,V'⟩) (k:=Ac T (sx s)) (k':=⟨(Ac T (sx s)).h,BY (Ac T (sx s)).ws (tx,mode)⟩) (B:=w5.heap.size) rfl rfl (fun b hb=>by
        rcases J.2 with e|⟨g',e,cc⟩
        ·exact .inl (e.symm.trans hb)
        ·have ci:V'.ownBlock=Bs b:=hb;rw[ci] at e;injection e with e;exact .inr (by omega)) b hb with h|h
       ·exact qcm b9.o (by simp) aC.o aB.o b h
       ·exact .inr (by have:=c5.o.size;have:=a8.o.size;simp at this;omega)
      ·refine((q8l a8.o).trans' (q26 c5.o) (fun i hi (h:_<=i)=>?_)).trans' aU (fun i hi (h:AQ L i)=>?_)
       ·have:=a8.o.size;simp at this;omega
       ·by_cases b0:T (sx s)=B0
        ·have:=aB.o b0 i h;simp at this;omega
        ·exact .inr (.inr ⟨sx s,b0,by rw[<- aC.o b0];exact h⟩)
      ·exact(J.1.ah ai.o (fun e=>Be a3.o.row ai.o (by decide) e.symm)).far (fun e=>ai.o.ne_ a3.o.ah (by decide) e) _
     obtain⟨A',c',cl,_,_⟩:=AK aa;have M:=LH G;clear G R aU au aa J;subst cl;clear a;go_simp;refine E _ _ (fun _=>cy.o) ?_;clear E K;refine nG 11 (fun K E=>?_);go_simp;refine E _ _ nZ ?_;clear E K;refine nG 12 (fun K E=>?_);go_simp;refine E _ _ nZ ?_;clear E K;refine nG 13 (fun K E=>?_);go_simp;refine E _ _ nZ ?_;clear E K;refine nX ?_;clear q b5 cq bz;go_wp2_with fail;go_meet;exact M.o
    case rest=>
     obtain⟨b2,V,a6,bA,bB,ar,cD⟩:=hcut;rename B1=>W6
     clear y ak U a8 b9 aC aB HV bd aD;have R:=a6.keys (sx s) _ (show Ap T (sx s) _ (sx s)=_ by unfold Ap;rw[if_pos rfl]);rw[show Az loc (sx s) ⟨L.g,L.hb,V⟩ (sx s)=⟨L.g,L.hb,V⟩ by unfold Az;rw[if_pos rfl]] at R;have ay:=R.ah.cell 0;have cb:=ar.cell 0;simp only[Ft,D0] at ay cb;have ch:=ar.lt;have bV:=LH R.holds;have bU:=LH R.cM;have bv:=R.holds.lt;have bY:=LH a6;clear a6;have cx:=LH bA;clear bA;have be:=LH bB;clear bB;have cI:=LH ar;clear ar R;have cv:=LH bv;clear bv;go_wp2_with (at_range;refine q2p rfl _ 61 3 rfl Tryz.underlying61 rfl bV.o ?_;intro w0 bR aH cd BD)
     try go_frame
     go_loopw [14] (fun v wr=>SN W6 (Ac T (sx s)).h tx mode L.hb W6.heap.size (n+1) v wr) (fun _ wr=>wr.rangeLeft L.hb W6.heap.size)
     case atStart=>exact⟨_,bR,[],aH,(by simpa using aH.dg),VY _ _ _ _,List.nodup_nil,(fun o=>by
      simp only[XS,false_iff];rintro ⟨D,m,N,_⟩;simp[hM,N] at D),cd.aU,by omega⟩
     case round=>
      obtain⟨left,cF,l,bn,bD,aI,bp,aJ,aY,bk⟩:=hrel;have bS:=(aY.cell (p:=⟨w.heap.size,0,B0⟩) ch).trans cb;have aN:w.heap.size<wr.heap.size:=by omega
      have b8:=LH bn;clear bn;have O:=LH aI;clear aI;have bb:=LH bp;clear bp;have al:=LH aJ;clear aJ;have ao:=LH aY;clear aY;have an:=LH bD;clear bD;have az:=LH bk;clear bk;go_wp2_with (at_next;refine q35 rfl _ rfl rfl b8.o ?_ ?_)
      ·
       intro ca;have aE:=Fq (W6.heap.size+1) l.length _ l wr O.o rfl (by have:=an.o;omega);have bT:=LH aE;clear aE;obtain⟨A2,c2,ck,_,cm⟩:=AK O.o;subst ck;go_wp2_with fail;refine bT.o.mono ?_;rintro e w9 ⟨rfl,z,bC⟩;have G:q3z base n g off ty cs mb loc T ⟨tx,sx s,mode⟩ w (.returned (.tuple #[.bool Jx,.slice A2 l.length c2,CX 0])) w9:=by
        have a1:VJ W6.heap.size W6 w9:=ao.o.trans (bC.below (fun i hi=>by have:=(O.o.lt i hi).1;omega) (by have:=ao.o.size;omega));have bl:(DL l).length=l.length:=YF l;refine⟨Jx,DL l,0,_,A2,c2,Bs b2,_,by rw[bl],.waits Q hl hw aT c7.o ⟨IZ bb.o,fun o=>?_⟩,(bY.o.a8 a1).mono (by omega),cx.o,be.o.trans' (q26 a1) (fun i hi (h:_<=i)=>by have:=be.o.size;omega),?_,fun b o e h0=>?_⟩
        ·rw[FR,al.o o];constructor
         ·rintro ⟨_,m,D,N,h3⟩;exact⟨N,m,D,h3⟩
         ·rintro ⟨N,m,D,h3⟩;exact⟨ca o (bU.o o m D).1,m,D,N,h3⟩
        ·rw[bl];exact Rd.au z
        ·have D:=O.o.lt b (by rw[cm _ e]);refine⟨by have:=be.o.size;omega,fun N=>?_⟩;have:=(bY.o.av N).2;omega
       have M:=LH G;clear G bC z;unfold CX at M;go_wp2_with fail;go_ret3;exact M.o
      ·intro o v w3 ah cC br X aG aS aq bm cf;obtain⟨m,hm,rfl⟩:∃ m,(Ac T (sx s)).h o=Bs m/\v=.int .i64 m:=by
        unfold hM at X;cases e:(Ac T (sx s)).h o with
        | none=>rw[e] at X;cases X
        | some m=>rw[e] at X;injection X with X;exact⟨m,rfl,X.symm⟩
       have Y:VJ W6.heap.size W6 w3:=ao.o.trans (aq.below (fun i (hi:i=_)=>by omega) (by have:=ao.o.size;omega));have ac:=aq.own O.o (fun b hb (e:b=_)=>by have:=(O.o.lt b hb).1;omega);have cG:=(aq.cell (p:=⟨w.heap.size,0,B0⟩) aN (fun e=>by have:w.heap.size=W6.heap.size:=e;omega)).trans bS;have cg:w.heap.size<w3.heap.size:=by omega
       have F:=LH Y;clear Y;have ba:=LH ac;clear ac;have bW:=LH hm;clear hm;have aj:=LH aG;clear aG X;have bX:=LH br;clear br;rw[show kI.val o=Wi .i64 o from rfl] at cf ⊢;have bq:w3.rangeLeft L.hb W6.heap.size<wr.rangeLeft L.hb W6.heap.size:=by
        rw[aj.o.left_eq,b8.o.left_eq];exact aS
       have ct:=LH bq;clear bq;have bc:=LH aS;clear aS aq;have aA:=LH bm;clear bm;clear bS aN;have a9:¬(tx<o/\AN m mode=T2)->SN W6 (Ac T (sx s)).h tx mode L.hb W6.heap.size (n+1) _ w3:=fun aR=>
        ⟨_,ah,l,aj.o,by have:=an.o;have:=bc.o;omega,ba.o,bb.o,TP al.o bW.o bX.o aR,F.o,by have:=az.o;have:=aA.o;omega⟩
       have b7:=LH a9;clear a9;have bw:∀ V9 w9,(tx<o/\AN m mode=T2)->w9.ownsRow (W6.heap.size+1) 3 1 V9 (l.length+1) (l.map (Wi .i64)++[Wi .i64 o])->VJ (W6.heap.size+1) w3 w9->
         SN W6 (Ac T (sx s)).h tx mode L.hb W6.heap.size (n+1) V9 w9/\w9.rangeLeft L.hb W6.heap.size<wr.rangeLeft L.hb W6.heap.size:=fun V9 w9 a4 z a1=>by
        have aF:DT kI w9 L.hb W6.heap.size (n+1) (hM (Ac T (sx s)).h) _ ah:=aj.o.bj (a1.block _ (by have:=cv.o;omega)) (a1.block _ (by omega));have hw:=TO (d:=fun p=>Classical.propDecidable (p=o)) al.o bW.o bX.o a4 bb.o;refine⟨⟨_,ah,l++[o],aF,by have:=an.o;have:=bc.o;simp;omega,by simpa using z,hw.1,hw.2,F.o.trans (a1.mono (by omega)),by have:=a1.size;have:=az.o;have:=aA.o;omega⟩,?_⟩;rw[aF.left_eq,b8.o.left_eq];exact bc.o
       have cw:=LH bw;clear bw;go_upto_region 19 with (fail)
       go_cut [110] (fun s110 wx=>s110=.bool (PX tx mode o m)/\wx=w3)
       case first=>
        by_cases D:tx<o
        ·have d1:decide (o > tx)=T2:=decide_eq_true D;by_cases N:m=2
         ·have d2:(m == 2)=T2:=by simpa using N
          have a2:=LH (show PX tx mode o m=T2 by simp[PX,D,AN,N]);go_wp2_with fail;go_meet;exact⟨by rw[a2.o],rfl⟩
         ·have d2:(m == 2)=Jx:=by simpa using N
          by_cases h3:mode=2
          ·have d3:(mode == 2)=T2:=by simpa using h3
           have a2:=LH (show PX tx mode o m=T2 by simp[PX,D,AN,h3]);go_wp2_with fail;go_meet;exact⟨by rw[a2.o],rfl⟩
          ·have d3:(mode == 2)=Jx:=by simpa using h3
           have a2:=LH (show PX tx mode o m=Jx by simp[PX,D,AN,N,h3]);go_wp2_with fail;go_meet;exact⟨by rw[a2.o],rfl⟩
        ·have d1:decide (o > tx)=Jx:=decide_eq_false D;have a2:=LH (show PX tx mode o m=Jx by simp[PX,D]);go_wp2_with fail;go_meet;exact⟨by rw[a2.o],rfl⟩
       case rest=>
        obtain⟨aP,c8⟩:=hcut;subst aP c8;rcases bf:PX tx mode o m with _|_
        ·have aR:¬(tx<o/\AN m mode=T2):=fun h=>by simp[PX,h.1,h.2] at bf
         have HR:=LH (b7.o aR);go_wp2_with fail;go_roundw
         case rel=>exact HR.o
         case measure=>exact ct.o
        ·have a4:tx<o/\AN m mode=T2:=by simpa [PX] using bf
         have HY:=LH a4;clear a4;go_wp2_with (at_builtin;refine stop ?_)
         refine Cn ?_;refine Nf _ _ rfl (.tmp 111) (.tmp 113) 26 rfl (W6.heap.size+1) 3 (.int .i64 0) 1 8 Tryz.underlying26 Pi rfl (by decide) _ _ _ #[.int .i64 o] rfl ba.o 1 rfl _ rfl rfl (by simp[Wy]) ?_ ?_ ?_ ?_
         ·have:=an.o;unfold VZ;omega
         ·have:=an.o;omega
         ·have:=az.o;have:=aA.o;omega
         intro v' w9 z J;have h9:=cw.o v' w9 HY.o (by simpa using z) (J.below (fun b hb=>(ba.o.lt b hb).1) (by have:=az.o;have:=aA.o;omega));have H9:=LH h9;clear h9 z J;go_wp2_with fail;go_roundw
         case rel=>exact H9.o.1
         case measure=>exact H9.o.2

def KF (tx:Int) (x:Int×Int):Bool:=decide (x.1=tx)
def NC (w:B1) (g o:Nat) (x:Int×Int):B1:=(w.setCell ⟨g,o,B0⟩ (.int .i64 x.1)).setCell ⟨g,o+1,B0⟩ (.int .i64 x.2)
theorem Sn (w:B1) (g o:Nat) (x:Int×Int):Fr (fun i=>i=g) w (NC w g o x):=
 ((Fr.refl (fun i=>i=g) w).setCell (p:=⟨g,o,B0⟩) (.inl rfl) _).setCell (p:=⟨g,o+1,B0⟩) (.inl rfl) _
theorem set2:∀ (M:List (Int×Int)) (i:Nat) (x:Int×Int),i<M.length->(((M.flatMap Cy).set (i*2) (.int .i64 x.1)).set (i*2+1) (.int .i64 x.2))=(M.set i x).flatMap Cy
 | [],i,x,h=>by simp at h
 | y::M,0,x,_=>by simp[Cy]
 | y::M,i+1,x,h=>by
  have a:=set2 M i x (by simpa using h);have c:(i+1)*2=i*2+2:=by omega
  rw[c,List.set_cons_succ,VI,VI,<- a];simp[Cy,Nat.add_right_comm]
theorem OV {w:B1} {base g n cap i:Nat} {M:List (Int×Int)} (h:w.ownsRow base 166 2 (.slice (Bs ⟨g,0,B0⟩) n cap) n (M.flatMap Cy)) (x:Int×Int) (a:i<M.length) :
  (NC w g (i*2) x).ownsRow base 166 2 (.slice (Bs ⟨g,0,B0⟩) n cap) n ((M.set i x).flatMap Cy):=by
 rw[<- set2 M i x a];exact((h.stored _ _).1.stored _ _).1
theorem Hl {B:Nat} {w w':B1} (h:VJ B w w'):Fr (fun k=>B<=k) w w':=⟨h.os,h.tape,h.output,h.size,fun k _ a=>h.block k (by omega)⟩
theorem J4 (L:List (Int×Int)) (i:Nat):(L.flatMap Cy).take (i*2)=(L.take i).flatMap Cy:=by
 induction L generalizing i with
 | nil=>simp
 | cons x L a=>
  cases i with
  | zero=>simp
  | succ i=>rw[show(i+1)*2=i*2+2 by omega,VI,WU,VI,<- a];simp[Cy]
theorem Lx {w w':B1} {base e size n:Nat} {v:Hi} {xs:List Hi} (h:w.ownsRow base e size v n xs) (a:VJ w.heap.size w w'):w'.ownsRow base e size v n xs:=
 Fr.own (S:=fun k=>w.heap.size<=k) ⟨a.os,a.tape,a.output,a.size,fun k _ d=>a.block k (by omega)⟩ h (fun g c (f:w.heap.size<=g)=>by have:=(h.lt g c).2;omega)
def NL (base a n cap:Nat) (tx:Int) (L:List (Int×Int)) (w:B1) (u v:Hi) (wr:B1):Prop:=
 ∃ (i j:Nat) (M:List (Int×Int)),u=.int .i64 i/\v=.int .i64 j/\i<j/\j<=n/\M.length=n/\M.take i=AC (L.take j) tx/\M.drop j=L.drop j/\wr.ownsRow base 166 2 (.slice (Bs ⟨a,0,B0⟩) n cap) n (M.flatMap Cy)/\Fr (fun k=>k=a) w wr
def EF (base a cap:Nat) (n:Nat) (l:List (Int×Int)) (w:B1) (e:WA) (w':B1):Prop:=
 e=.returned (.slice (Bs ⟨a,0,B0⟩) l.length cap)/\w'.ownsRow base 166 2 (.slice (Bs ⟨a,0,B0⟩) l.length cap) l.length (l.flatMap Cy)/\Fr (fun k=>k=a) w w'/\l.length<=n
theorem qc5 {tx:Int} {L:List (Int×Int)} {j:Nat} {x:Int×Int} (h:L[j]? = Bs x):AC (L.take (j+1)) tx=if KF tx x then AC (L.take j) tx else AC (L.take j) tx++[x]:=by
 unfold AC;rw[VV,h,List.filter_append];rcases a:KF tx x with _|_ <;> (unfold KF at a;simp[a])
theorem OY {tx:Int} {L:List (Int×Int)} {i:Nat} (h:CK (KF tx) L=i):i<L.length/\L.take i=AC (L.take (i+1)) tx:=by
 unfold CK at h;rcases a:L.findIdx? (KF tx) with _|j
 ·rw[a] at h;simp only at h;omega
 ·rw[a] at h;have e:j=i:=by have r:(j:Int)=i:=h;omega
  subst e;rw[List.findIdx?_eq_some_iff_getElem] at a;obtain⟨c,p,f⟩:=a;refine⟨c,?_⟩;rw[qc5 (K0 c),if_pos p];unfold AC;rw[List.filter_eq_self.2];intro x d;obtain⟨k,q,rfl⟩:=List.mem_take_iff_getElem.1 d;have:=f k (by omega);unfold KF at this;simpa using this
theorem UC {tx:Int} {L:List (Int×Int)} (h:CK (KF tx) L = -1):AC L tx=L:=by
 unfold CK at h;rcases a:L.findIdx? (KF tx) with _|j
 ·unfold AC;rw[List.filter_eq_self.2];intro x c;rw[List.findIdx?_eq_none_iff] at a;have:=a x c;unfold KF at this;simpa using this
 ·rw[a] at h;simp only at h;omega
theorem KV (tx:Int) (L:List (Int×Int)):CK (KF tx) L = -1\/∃ i:Nat,CK (KF tx) L=i:=by
 unfold CK;split
 ·exact .inr ⟨_,rfl⟩
 ·exact .inl rfl
theorem w_zero (w:B1):(zeroValue 166).run Tryz.prog w=.ok (.agg #[.int .i64 0,.int .i64 0]) w:=by kernel_rfl
theorem Iw (base r n cap b:Nat) (tx:Int) (L:List (Int×Int)) (w:B1) (d:w.ownsRow base 166 2 (.slice (Bs ⟨r,0,B0⟩) n cap) n (L.flatMap Cy)) (hl:L.length=n) (hn:n<=100000)
  (hb:w.cell? ⟨b,0,B0⟩=Bs (.int .i64 tx)) (ag:b≠r):VX Tryz.prog 102 #[.slice (Bs ⟨r,0,B0⟩) n cap,.func (.func 103) #[] #[.pointer (Bs ⟨b,0,B0⟩)]] w (EF base r cap n (AC L tx) w):=by
 have a5:=q7e 103 #[.pointer (Bs ⟨b,0,B0⟩)] (KF tx) (Bs ⟨r,0,B0⟩) n cap L w (P9 Tryz.func103 (by kernel_rfl) rfl) (q55 b tx w hb) (Rd.au d) hl hn;have a8:=V0 w _ hb;have S:=LH a5;clear a5;have X:=LH d;clear d;have HB:=LH hb;clear hb;have HL:=LH hl;clear hl;rcases KV tx L with hf|⟨i0,hf⟩
 ·rw[hf] at S;go_enter Tryz.func102,Tryz.ntmps102;go_wp2_with fail;refine S.o.mono ?_;rintro e w1 ⟨rfl,f⟩;have u:EF base r cap n (AC L tx) w (.returned (.slice (Bs ⟨r,0,B0⟩) n cap)) w1:=by
   rw[UC hf];unfold EF;rw[HL.o];exact⟨rfl,Lx X.o f,⟨f.os,f.tape,f.output,f.size,fun k hk _=>f.block k hk⟩,L1 _⟩
  have J:=LH u;clear u;go_wp2_with fail;go_ret;exact J.o
 ·rw[hf] at S;obtain⟨a6,a4⟩:=OY hf;have a6:i0<n:=by have:=HL.o;omega
  have a2:((i0:Int) == -1)=Jx:=by rw[beq_eq_false_iff_ne];omega
  go_enter Tryz.func102,Tryz.ntmps102;go_wp2_with fail;refine S.o.mono ?_;rintro e w1 ⟨rfl,f⟩;have A:NL base r n cap tx L w (.int .i64 i0) (.int .i64 ((i0:Int)+1)) w1:=⟨i0,i0+1,L,rfl,rfl,by omega,by omega,HL.o,a4,rfl,Lx X.o f,⟨f.os,f.tape,f.output,f.size,fun k hk _=>f.block k hk⟩⟩
  have ah:=LH A;clear A;clear hf a4;go_wp2_with fail;clear a2 a6 f;go_loopw [5,6] (NL base r n cap tx L w) (fun _ v _=>n-(intOf v).toNat)
  case atStart=>exact ah.o
  case round=>
   obtain⟨i,j,M,rfl,rfl,al,hj,hM,E,Q,d,D⟩:=hrel;by_cases ak:(j:Int)<n
   ·have hx:M[j]? = L[j]?:=by
     have:=congrArg (fun l=>l[0]?) Q;simpa using this
    obtain⟨g',o',x,hA,an,a0,h0,h1⟩:=(Rd.au d).bE hM (j:=j) (by omega);simp only[VN,W7,and_true] at hA;obtain⟨rfl,rfl⟩:=hA;rw[Wg] at h0 h1;have a1:L[j]? = Bs x:=hx▸a0;have O:Fr (fun _=>False) wr (wr.alloc (.cells #[.int .i64 x.1,.int .i64 x.2] 166)):=(Fr.refl _ _).alloc _;have a7:=(O.cell (p:=⟨b,0,B0⟩) (VH a8 D.size) (fun h=>h)).trans ((D.cell (p:=⟨b,0,B0⟩) a8 ag).trans HB.o);have s:=q55 b tx _ a7 _ x (S2 _ _);unfold wtV at s;rw[show(fun y:Int×Int=>decide (y.1=tx)) x=KF tx x from rfl] at s;have a9:Ab (wr.alloc (.cells #[.int .i64 x.1,.int .i64 x.2] 166)) wr.heap.size 166 #[.int .i64 x.1,.int .i64 x.2]:=Ab.new wr _ _;have F:=O.own d (fun _ _ h=>h);have HC:=LH s;clear s;have af:=LH a9;clear a9;have ai:=LH F;clear F;have ad:=LH (D.trans' O (fun _ _ h=>h.elim));clear D O;have ab:=LH E;clear E;have ac:=LH Q;clear Q;have aa:=LH a1;clear a1 hx a0 a7;have HM:=LH hM;clear hM;go_wp2_with fail;refine HC.o.mono ?_;rintro e N ⟨rfl,Z⟩;have I:Fr (fun k=>k=r) w N:=ad.o.trans' (Hl Z) (fun i hi (h:_<=i)=>by have:=ad.o.size;simp at h this;omega);have a:=Lx ai.o Z;have R:Ab N wr.heap.size 166 #[.int .i64 x.1,.int .i64 x.2]:=af.o.below Z af.o.lt;have ae:=LH I;clear I;rcases hp:KF tx x with _|_
    ·have z:=qc5 (tx:=tx) aa.o;rw[hp,if_neg (by simp)] at z;have Y:i<M.length:=by rw[HM.o];omega
     have q0:=R.cell 0;have q1:=R.cell 1;simp only[Ft,N2,D0] at q0 q1;obtain⟨g',o',y,hA,_,_,p0,p1⟩:=(Rd.au a).bE HM.o (j:=i) (by omega);simp only[VN,W7,and_true] at hA;obtain⟨rfl,rfl⟩:=hA;rw[Wg] at p0 p1;have f0:=a.frozenAt (i*2);have f1:=a.frozenAt (i*2+1);have am:r<N.heap.size:=(a.lt r rfl).2;have U:=OV a x Y;have q:NL base r n cap tx L w (.int .i64 ((i:Int)+1)) (.int .i64 ((j:Int)+1)) (NC N r (i*2) x):=by
      refine⟨i+1,j+1,M.set i x,rfl,rfl,by omega,by omega,by rw[List.length_set];exact HM.o,?_,?_,U,ae.o.trans (Sn N r (i*2) x)⟩
      ·rw[z,<- ab.o,VV,List.take_set,List.getElem?_set_self Y,List.set_eq_of_length_le (by rw[Wz];omega)];simp
      ·rw[List.drop_set_of_lt (by omega),<- Xi,ac.o,Xi]
     have B:=LH q;clear q U z Y;have HP:=LH hp;clear hp;have ap:=LH a;clear a;clear R h0 h1;unfold NC at B;go_wp2_with fail;go_roundw
     ·exact B.o
     ·simp[intOf];omega
    ·have z:=qc5 (tx:=tx) aa.o;rw[hp,if_pos rfl] at z;have q:NL base r n cap tx L w (.int .i64 i) (.int .i64 ((j:Int)+1)) N:=
      ⟨i,j+1,M,rfl,rfl,by omega,by omega,HM.o,by rw[ab.o,z],by rw[<- Xi,ac.o,Xi],a,ae.o⟩
     have B:=LH q;clear q z a;have HP:=LH hp;clear hp R h0 h1;go_wp2_with fail;go_roundw
     ·exact B.o
     ·simp[intOf];omega
   ·obtain rfl:j=n:=by omega
    have aj:=(Ur d).1;have V:L.take j=L:=VU (by have:=HL.o;omega);rw[V] at E;have a3:(AC L tx).length=i:=by rw[<- E,Wz];omega
    have G:=q4o d (i:=i) (by omega);rw[J4,E] at G;obtain⟨N,ao,a,I⟩:=q53 164 (.agg #[.int .i64 0,.int .i64 0]) Bp w_zero (by rfl) (by decide) G (m:=j-i) (c:=cap-i) (by omega);have s1:=q51 (size:=2) 164 (by rw[OB];exact Bp) (fun W=>by rw[OB];exact OC W) wr r j cap i (i:Int) rfl (by omega);have s2:=q3k 164 Bp OB OC N r j cap i (i:Int) rfl (by omega);have u:EF base r cap j (AC L tx) w (.returned (.slice (Bs ⟨r,0,B0⟩) i cap)) N:=by
     unfold EF;rw[a3];exact⟨rfl,a,D.trans I,by omega⟩
    have J:=LH u;clear u a I G d E Q hM D a3 V;go_wp2_with fail;go_ret;exact J.o
section
open Go.RowKit Go.Maps Go.Sort Go.Shelf
theorem q8c {w:B1} {base base':Nat} {e:VQ} {size n:Nat} {v:Hi} {xs:List Hi} (h:w.ownsRow base e size v n xs) (c:base'<=base):w.ownsRow base' e size v n xs:=
 ⟨h.1,h.2.imp id fun⟨g,cap,a,f,d,r⟩=>⟨g,cap,a,f,VO c d,r⟩⟩
theorem q7y {H:Type} {D:DataW H} {P:WQ} {k:VQ} {R:Hi->Option (DataW H×List MemPlace)} {w:B1} {b n:Nat} (f:w.ownsMap P k R b n D) (K:Keyed P k) (J:P.underlying k=Bs .string) :
  (strKeys D).Nodup/\(∀ x,x∈strKeys D↔has D (.string x)=T2)/\(strKeys D).length=Maps.size D:=by
 obtain⟨s,E,y,_⟩:=f.entries K;obtain⟨B,r,A⟩:=f.keysOf;obtain rfl:s=B:=by rw[E] at r;simpa using r
 subst E;have d:∀ p∈s,∃ x,p.1=.string x:=fun p I=>by obtain⟨v,G⟩:=A p I;obtain⟨x,_,F,_⟩:=Maps.keyOf_str J G;exact⟨x,F⟩
 refine⟨?_,fun x=>?_,?_⟩
 ·show(s.map fun p=>Go.strOf p.1).Nodup;refine List.pairwise_map.2 (y.imp_of_mem fun {p q} c u z e=>z ?_);obtain⟨a,i⟩:=d p c;obtain⟨b,L⟩:=d q u;rw[i,L] at e ⊢;exact congrArg _ e
 ·rw[has_eq,XU];show x∈s.map (fun p=>Go.strOf p.1)↔_;rw[List.mem_map];constructor
  ·rintro ⟨p,c,rfl⟩;obtain⟨a,i⟩:=d p c;exact⟨p,c,by rw[i];simp[Lit.sameKey,Go.strOf]⟩
  ·rintro ⟨p,c,hs⟩;obtain⟨a,i⟩:=d p c;rw[i] at hs;exact⟨p,c,by rw[i];simpa [Lit.sameKey,Go.strOf] using hs⟩
 ·show(s.map fun p=>Go.strOf p.1).length=_;simp[Maps.size]
def KsPost (T:Tb) (n:Nat) (w:B1) (e:WA) (w':B1):Prop:=
 ∃ (V:Hi) (ks:List Sx),e=.returned V/\Gr T ks/\ks.length<=n/\w'.ownsRow w.heap.size 9 1 V ks.length (ks.map encStr)/\VJ w.heap.size w w'
theorem Me (mb:Option Nat) (W:B1):VX Tryz.prog 101 #[.map mb] W fun e w'=>e=.returned (.func (.func 123) #[] #[.pointer (Bs ⟨W.heap.size,0,B0⟩)])/\w'=W.alloc (.cells #[.map mb] 98):=
 callsIn_wide.1 (R1 mb W)
theorem Pe {w:B1} {n b:Nat} {loc:Sx->Av} {T:Tb} {D:DataW Hi} (f:Dy kS D (Bb loc T)) (hs:∀ x,T x≠B0->x.length<=20) (a:w.ownsMap Tryz.prog 9 CW b n D) :
  ∀ x,has D (.string x)=T2↔T x≠B0:=fun x=>by
 have key:∀ y:Sx,y.length<=VZ->(has D (.string y)=T2↔T y≠B0):=fun y d=>by
  have c:=f ⟨y.toArray⟩ (show(ByteArray.mk y.toArray).size<=VZ by show y.toArray.size<=VZ;simpa using d);have e:(kS).kl ⟨y.toArray⟩=.string y:=by show Lit.string _=_;simp
  rw[e] at c;rw[c.1];have p:sx ⟨y.toArray⟩=y:=by show y.toArray.toList=y;simp
  unfold Bb;rw[p];cases T y <;> simp
 constructor
 ·intro h;have i:x∈strKeys D:=((q7y a kS.law Tryz.underlying9).2.1 x).2 h;exact(key x (strKeys_le a Tryz.underlying9 x i)).1 h
 ·intro h;exact(key x (by have:=hs x h;unfold VZ;omega)).2 h
theorem Lj {n:Nat} {mb:Option Nat} {loc:Sx->Av} {T:Tb} (w:B1) (A:Kr w n mb loc T) (hs:∀ x,T x≠B0->x.length<=20) (E:n<=2000000) :
  VX Tryz.prog 100 #[.func (.func 123) #[] #[.pointer (Bs ⟨w.heap.size,0,B0⟩)]] (w.alloc (.cells #[.map mb] 98)) (KsPost T n w):=by
 have r:VJ w.heap.size w (w.alloc (.cells #[.map mb] 98)):=(S2 _ _).alloc (L1 _) _;have d:w.heap.size<=(w.alloc (.cells #[.map mb] 98)).heap.size:=by simp
 rcases mb with _|b
 ·refine(callsIn_wide.1 (JI w)).mono ?_;rintro e w' ⟨v,f,rfl,rfl,c,_,z⟩;refine⟨v,[],rfl,⟨Yj,fun x=>?_⟩,VK _,?_,r.trans (z.mono d)⟩
  ·have:=A x;simp[this]
  ·have:=q8c c d;simpa using this
 ·obtain⟨D,a,B⟩:=A;obtain⟨u,p,q⟩:=q7y a kS.law Tryz.underlying9;have y:=a.size_le;refine(callsIn_wide.1 (Mb b n D CW w a (by unfold VZ;omega) (by omega))).mono ?_;rintro e w' ⟨v,f,rfl,s,c,_,z⟩;have i:(IY f).length=f.length:=YF f;refine⟨v,IY f,rfl,⟨Q0 (s.nodup_iff.2 u),fun x=>?_⟩,?_,?_,r.trans (z.mono d)⟩
  ·rw[O6,s.mem_iff,p,Pe B hs a]
  ·rw[i,s.length_eq,q];exact y
  ·rw[i];exact q8c c d
end
theorem hM_del (h:Int->Option Int) (tx:Int):AU (hM h) tx B0=hM (AW h tx B0):=by
 funext o;unfold AU hM AW;split <;> rfl
theorem US {w w':B1} {base n:Nat} {L:Av} {k:Kx} {tx:Int} (h:Ba w base n L k) (c:Aa kI w' L.hb n (AU (hM k.h) tx B0)) (d:Fr (fun b=>b=L.hb) w w'):Ba w' base n L ⟨AW k.h tx B0,k.ws⟩:=
 ⟨d.ah h.ah (fun e=>h.holds.a6 h.ah e.symm),by rw[hM_del] at c;exact c,d.own h.row (fun b i e=>by subst e;exact h.holds.aG h.row i),h.log,h.loh,fun o m f=>by
  have a:AW k.h tx B0 o=Bs m:=f;unfold AW at a;split at a
  ·cases a
  ·exact h.cM o m a,h.okw,h.len⟩
theorem Sh {h:Int->Option Int} {tx mode:Int} (d:∀ o m,h o=Bs m->CA o/\CA m) (a:CA tx) (f:CA mode):∀ o m,Aj h tx mode o=Bs m->CA o/\CA m:=fun o m e=>by
 unfold Aj AW at e;split at e
 ·rename_i e1;injection e with e;subst e1;refine⟨a,?_⟩;rw[<- e];unfold Ax;rcases Int.le_total ((h o).getD 0) mode with c|c
  ·rw[Int.max_eq_right c];exact f
  ·rw[Int.max_eq_left c];cases i:h o with
   | none=>rfl
   | some p=>exact(d _ _ i).2
 ·exact d o m e
theorem R2 {w w':B1} {base n:Nat} {L:Av} {k:Kx} {tx mode:Int} (h:Ba w base n L k) (d:Aa kI w' L.hb (n+1) (AU (hM k.h) tx (Bs (.int .i64 (if mode > Ax k.h tx then mode else Ax k.h tx))))) (f:Fr (fun b=>b=L.hb) w w') (c:CA tx) (a:CA mode) :
  Ba w' base (n+1) L ⟨Aj k.h tx mode,k.ws⟩:=
 ⟨f.ah h.ah (fun e=>h.holds.a6 h.ah e.symm),by rw[NB] at d;exact d,f.own h.row (fun b p e=>by subst e;exact h.holds.aG h.row p),h.log,h.loh,fun o m i=>Sh h.cM c a o m i,h.okw,h.len⟩
theorem Ny {W w5:B1} {base n:Nat} {L:Av} {k:Kx} {V':Hi} {a:List (Int×Int)} (h:Ba W base n L k) (d:Ab w5 L.g 168 #[.map (Bs L.hb),L.V]) (f:Aa kI w5 L.hb n (hM k.h))
  (c:w5.ownsRow base 166 2 V' a.length (a.flatMap Cy)) (p:∀ x∈a,CA x.1/\CA x.2) (i:a.length<=50):Ba (w5.setCell ⟨L.g,1,B0⟩ V') base n ⟨L.g,L.hb,V'⟩ ⟨k.h,a⟩:=by
 have r:=Fr.ax L.g w5 1 V';have q:=Be c d (by decide);exact⟨d.aC 1 V',f.fr r (fun e=>f.a6 d e),r.own c (fun g s e=>q (by rw[s,e])),h.log,h.loh,h.cM,p,i⟩
theorem Iv (b:Nat) (tx:Int) (w:B1) (f:w.cell? ⟨b,0,B0⟩=Bs (.int .i64 tx)):VX Tryz.prog 102 #[.slice B0 0 0,.func (.func 103) #[] #[.pointer (Bs ⟨b,0,B0⟩)]] w
  fun e w'=>e=.returned (.slice B0 0 0)/\VJ w.heap.size w w':=by
 have a:=q7e 103 #[.pointer (Bs ⟨b,0,B0⟩)] (KF tx) B0 0 0 [] w (P9 Tryz.func103 (by kernel_rfl) rfl) (q55 b tx w f) (Rd.none_ _ _ _ _) rfl (by omega);rw[show CK (KF tx) [] = -1 from rfl] at a;have d:=LH a;clear a;go_enter Tryz.func102,Tryz.ntmps102;go_wp2_with fail;refine d.o.mono ?_;rintro e p ⟨rfl,c⟩;have i:=LH c;clear c;go_wp2_with fail;go_ret;exact⟨rfl,i.o⟩
theorem UD (a:List (Int×Int)) (tx:Int):(AC a tx).length<=a.length:=List.length_filter_le _ _
theorem Qs (base n b:Nat) (tx:Int) (V:Hi) (L:List (Int×Int)) (w:B1) (d:w.ownsRow base 166 2 V n (L.flatMap Cy)) (s:L.length=n) (r:n<=100000) (p:w.cell? ⟨b,0,B0⟩=Bs (.int .i64 tx)) (f:V.ownBlock≠Bs b) :
  VX Tryz.prog 102 #[V,.func (.func 103) #[] #[.pointer (Bs ⟨b,0,B0⟩)]] w fun e w'=>
   ∃ A c,e=.returned (.slice A (AC L tx).length c)/\w'.ownsRow base 166 2 (.slice A (AC L tx).length c) (AC L tx).length ((AC L tx).flatMap Cy)/\Fr (fun k=>V.ownBlock=Bs k) w w'/\(WI A (AC L tx).length c).ownBlock=V.ownBlock:=by
 rcases d.2 with ⟨rfl,z⟩|⟨g,cap,y,rfl,_⟩
 ·have e:L=[]:=Ww (by omega);subst e;refine(Iv b tx w p).mono ?_;rintro e w' ⟨rfl,a⟩;exact⟨B0,0,rfl,VY _ _ _ _,⟨a.os,a.tape,a.output,a.size,fun k u _=>a.block k u⟩,rfl⟩
 ·refine(Iw base g n cap b tx L w d s r p (fun e=>f (by rw[e];rfl))).mono ?_;rintro e w' ⟨rfl,q,v,_⟩;exact⟨Bs ⟨g,0,B0⟩,cap,rfl,q,v.mono (fun i _ (h:i=g)=>by rw[h];rfl),rfl⟩
theorem AD.turn2 {w w':B1} {base n n' g off:Nat} {ty:VQ} {cs:Array Hi} {mb:Option Nat} {loc:Sx->Av} {T:Tb} (h:AD w base n g off ty cs mb loc T) {x:Sx} {k k':Kx} {L':Av} (E:T x=Bs k) (R:n<=n')
  {U:Nat->Prop} (G:Fr (fun b=>AQ (loc x) b\/U b) w w') (O:∀ b,U b->b≠g/\¬AE mb loc T b) (X:Ba w' base n' L' k') (V:L'.g=(loc x).g) (S:L'.hb=(loc x).hb) (Y:∀ b,L'.V.ownBlock=Bs b->(loc x).V.ownBlock=Bs b\/w.heap.size<=b) :
  AD w' base n' g off ty cs mb (Az loc x L') (Ap T x (Bs k')):=by
 have i:∀ b,AQ L' b->AQ (loc x) b\/w.heap.size<=b:=fun b a=>by
  rcases a with a|a|a
  ·exact .inl (.inl (by rw[a,V]))
  ·exact .inl (.inr (.inl (by rw[a,S])))
  ·rcases Y b a with h|h
   ·exact .inl (.inr (.inr h))
   ·exact .inr h
 have f:∀ y,Ap T x (Bs k') y≠B0->y=x\/(y≠x/\T y≠B0):=fun y d=>by
  unfold Ap at d;split at d
  ·rename_i e;exact .inl e
  ·rename_i e;exact .inr ⟨e,d⟩
 have v:∀ y,y≠x->Az loc x L' y=loc y:=fun y e=>by unfold Az;rw[if_neg e]
 have B:Az loc x L' x=L':=by unfold Az;rw[if_pos rfl]
 have q:T x≠B0:=by rw[E];simp
 have s:∀ y,y≠x->T y≠B0->∀ b,AQ (loc y) b->¬AQ (loc x) b:=fun y e d b a=>h.apart y x e d q b a
 refine⟨G.ah h.ah (fun a=>a.elim (fun a=>h.cZ E a rfl) (fun a=>(O _ a).1 rfl)),h.c0,?_,fun y L d=>?_,fun y z A d Q b a=>?_,fun y d=>?_,h.ne,h.cA,fun y d=>?_,VO h.bg G.size⟩
 ·have F:=h.map;rcases r:mb with _|c
  ·rw[r] at F;exact absurd (F x) q
  ·rw[r] at F;have e:Bb (Az loc x L') (Ap T x (Bs k'))=Bb loc T:=by
    funext t;unfold Bb;by_cases e:sx t=x
    ·rw[e,B,V];unfold Ap;rw[if_pos rfl,E];rfl
    ·rw[v _ e];unfold Ap;rw[if_neg e]
   show Aa kS w' c n' _;rw[e];exact(Aa.fr (C:=kS) F G (fun a=>a.elim (fun a=>h.b3 E r a rfl) (fun a=>(O _ a).2 (.inl r.symm)))).mono R
 ·unfold Ap at d;split at d
  ·rename_i e;subst e;injection d with d;rw[<- d,B];exact X
  ·rename_i e;rw[v y e];exact((h.keys y L d).fr G (fun b a p=>p.elim (fun p=>s y e (by rw[d];simp) b a p) (fun p=>(O _ p).2 (.inr ⟨y,by rw[d];simp,a⟩)))).mono R
 ·rcases f y d with rfl|⟨e1,u⟩
  ·rcases f z Q with rfl|⟨J,p⟩
   ·exact absurd rfl A
   ·rw[v z J];rw[B] at a;intro I;rcases i b a with D|D
    ·exact s z J p b I D
    ·obtain⟨W,M⟩:=Option.ne_none_iff_exists'.1 p;have:=((h.keys z W M).av I).2;omega
  ·rw[v y e1] at a;rcases f z Q with rfl|⟨J,p⟩
   ·rw[B];intro I;rcases i b I with D|D
    ·exact s y e1 u b a D
    ·obtain⟨L,N⟩:=Option.ne_none_iff_exists'.1 u;have:=((h.keys y L N).av a).2;omega
   ·rw[v z J];exact h.apart y z A u p b a
 ·rcases f y d with rfl|⟨_,u⟩
  ·exact h.small y q
  ·exact h.small y u
 ·rcases f y d with rfl|⟨e1,u⟩
  ·rw[B,S];exact h.bT y q
  ·rw[v y e1];exact h.bT y u
theorem QP {w w':B1} {base n g off b:Nat} {ty:VQ} {cs:Array Hi} {loc:Sx->Av} {T:Tb} {s:ByteArray} (h:AD w base n g off ty cs (Bs b) loc T) (v:Aa kS w' b n (AU (Bb loc T) s B0)) (p:Fr (fun k=>k=b) w w') :
  AD w' base n g off ty cs (Bs b) loc (Ap T (sx s) B0):=by
 have a:∀ y,Ap T (sx s) B0 y≠B0->y≠sx s/\T y≠B0:=fun y c=>by
  unfold Ap at c;split at c
  ·exact absurd rfl c
  ·rename_i e;exact⟨e,c⟩
 have i:g≠b:=fun e=>(Aa.a6 (C:=kS) h.map h.ah) e.symm
 refine⟨p.ah h.ah i,h.c0,?_,fun y r c=>?_,fun y z f c u=>h.apart y z f (a y c).2 (a z u).2,fun y c=>h.small y (a y c).2,h.ne,h.cA,fun y c=>h.bT y (a y c).2,VO h.bg p.size⟩
 ·show Aa kS w' b n _;have e:Bb loc (Ap T (sx s) B0)=AU (Bb loc T) s B0:=by
   funext t;unfold AU Bb Ap;by_cases e:t=s
   ·subst e;simp
   ·have:¬sx t=sx s:=fun h=>e (q8z h)
    simp[e,this]
  rw[e];exact v
 ·have A:=a y (by rw[c];simp);have d:T y=Bs r:=by unfold Ap at c;rw[if_neg A.1] at c;exact c
  exact(h.keys y r d).fr p (fun B q e=>by subst e;exact h.b3 d rfl q rfl)
def PZ (a:Ak):List Hi:=[.int .i64 a.tx,.string ⟨a.key.toArray⟩,.int .i64 a.mode]
theorem g_info:(Tryz.prog.info? 179).map (fun i=>(i.zero,i.size,i.bytes))=Bs (Bs (.agg #[.int .i64 0,.string ⟨#[]⟩,.int .i64 0]),3,32):=by kernel_rfl
theorem AD.bA {w:B1} {base n g off:Nat} {ty:VQ} {cs:Array Hi} {mb:Option Nat} {loc:Sx->Av} {T:Tb} (h:AD w base n g off ty cs mb loc T) {base' size m:Nat} {e:VQ} {v:Hi} {xs:List Hi} (c:w.ownsRow base' e size v m xs)
  (D:e≠ty) (B:e≠168) (A:e≠166) {b:Nat} (a:v.ownBlock=Bs b):b≠g/\¬AE mb loc T b:=by
 refine⟨fun q=>Be c h.ah D (by rw[a,q]),?_⟩;rintro (y|⟨x,u,f⟩)
 ·have:=h.map;rw[<- y] at this;exact Aa.aG (C:=kS) this c a
 ·obtain⟨k,d⟩:=Option.ne_none_iff_exists'.1 u;have p:=h.keys x k d;rcases f with rfl|rfl|f
  ·exact Be c p.ah B a
  ·exact p.holds.aG c a
  ·rcases c.2 with ⟨rfl,_⟩|⟨s,cap,r,rfl,_,z,_⟩
   ·cases a
   ·have i:s=b:=by injection a
    subst i;exact Be p.row (show Ab w s e r from z) (fun q=>A q.symm) f
section
open Go.RowKit Go.Maps Go.Sort Go.Shelf
open Classical in
noncomputable def ET (T:Tb) (tx:Int) (ks:List Sx) (j:Nat):Tb:=fun x=>if x∈ks.take j then(T x).bind fun k=>Eh k tx else T x
theorem tkT_0 (T:Tb) (tx:Int) (ks:List Sx):ET T tx ks 0=T:=by funext x;simp[ET]
theorem T7 {T:Tb} {tx:Int} {ks:List Sx} (h:Gr T ks):ET T tx ks ks.length=Bh T tx:=by
 funext x;unfold ET Bh;rw[WR];split
 ·rfl
 ·rename_i a;have:T x=B0:=Classical.byContradiction fun c=>a ((h.2 x).2 c)
  rw[this];rfl
theorem qby {ks:List Sx} (h:ks.Pairwise (· < ·)):ks.Nodup:=List.Pairwise.imp (R:=(· < ·)) (by intro a b h e;subst e;exact List.lt_irrefl _ h) h
theorem Lb {ks:List Sx} {j:Nat} {x:Sx} (h:ks.Nodup) (c:ks[j]? = Bs x):x ∉ ks.take j:=fun d=>by
 obtain⟨i,q,p⟩:=List.mem_take_iff_getElem.1 d;obtain⟨f,a⟩:=List.getElem?_eq_some_iff.1 c;exact List.pairwise_iff_getElem.1 h i j (by omega) f (by omega) (by rw[p,a])
theorem GG {T:Tb} {tx:Int} {ks:List Sx} {j:Nat} {x:Sx} (a:x ∉ ks.take j):ET T tx ks j x=T x:=by unfold ET;rw[if_neg a]
theorem IK {T:Tb} {tx:Int} {ks:List Sx} {j:Nat} {x:Sx} {k:Kx} (a:ks[j]? = Bs x) (c:T x=Bs k):ET T tx ks (j+1)=Ap (ET T tx ks j) x (Eh k tx):=by
 funext y;unfold ET Ap;rw[VV,a];by_cases e:y=x
 ·subst e;simp[c]
 ·simp[e]
def NP (base n g off:Nat) (ty:VQ) (cs:Array Hi) (mb:Option Nat) (loc:Sx->Av) (T:Tb) (tx:Int) (w:B1) (ks:List Sx) (Vk:Hi) (v5 a:Hi) (wr:B1):Prop:=
 ∃ (j:Nat) (loc':Sx->Av) (gs:List Ak),a=.int .i64 j/\j<=ks.length/\gs=(ks.take j).flatMap (Lu T tx)/\AD wr base (n+50) g off ty cs mb loc' (ET T tx ks j)/\
  (∀ x k,T x=Bs k->x ∉ ks.take j->Ba wr base n (loc' x) k)/\(∀ b,AE mb loc' (ET T tx ks j) b->AE mb loc T b\/w.heap.size<=b)/\Fr (TFr g mb loc T) w wr/\
  wr.ownsRow (w.heap.size+1) 179 3 v5 gs.length (gs.flatMap PZ)/\gs.length<=50*j/\wr.ownsRow w.heap.size 9 1 Vk ks.length (ks.map encStr)/\Ab wr w.heap.size 3 #[.int .i64 tx]
def NQ (base n g off:Nat) (ty:VQ) (cs:Array Hi) (mb:Option Nat) (loc:Sx->Av) (T:Tb) (tx:Int) (w:B1) (e:WA) (w':B1):Prop:=
 ∃ (V:Hi) (ks:List Sx) (loc':Sx->Av),e=.returned V/\Gr T ks/\w'.ownsRow (w.heap.size+1) 179 3 V (ks.flatMap (Lu T tx)).length ((ks.flatMap (Lu T tx)).flatMap PZ)/\
  AD w' base (n+50) g off ty cs mb loc' (Bh T tx)/\(∀ b,AE mb loc' (Bh T tx) b->AE mb loc T b\/w.heap.size<=b)/\Fr (TFr g mb loc T) w w'
def NW (base n:Nat) (q:Av) (s:Int->Option Int) (a:List (Int×Int)) (u:Nat) (c:List Ak) (x:Sx) (p:Option Nat) (W:B1) (v5 r f:Hi) (wr:B1):Prop:=
 ∃ (i:Nat) (h:Int->Option Int) (lf done:List (Int×Int)),f=.int .i64 i/\i<=a.length/\Ba wr base (n+i) q ⟨h,a⟩/\wr.ownsRow W.heap.size 166 2 r lf.length (lf.flatMap Cy)/\
  wr.ownsRow u 179 3 v5 (c.length+done.length) ((c++done.map fun d=>(⟨d.1,x,d.2⟩:Ak)).flatMap PZ)/\
  DU s [] a=((DU h lf (a.drop i)).1,(DU h lf (a.drop i)).2.1,done++(DU h lf (a.drop i)).2.2)/\Fr (fun b=>b=q.hb\/p=Bs b) W wr/\
  (∀ y∈lf,y∈a)/\lf.length<=i/\done.length<=i/\(∀ b,v5.ownBlock=Bs b->p=Bs b\/W.heap.size<=b)
theorem q5h {w:B1} {base base' size a m s:Nat} {e r:VQ} {v v':Hi} {xs c:List Hi} (h:w.ownsRow base e size v m xs) (y:w.ownsRow base' r a v' s c) (d:e≠r) {b:Nat} (p:v.ownBlock=Bs b):v'.ownBlock≠Bs b:=by
 rcases h.2 with ⟨rfl,_⟩|⟨q,cap,i,rfl,_,u,_⟩
 ·cases p
 ·have f:q=b:=by injection p
  subst f;exact Be y (show Ab w q e i from u) (fun e=>d e.symm)
theorem AD.a6 {w:B1} {base n g off:Nat} {ty:VQ} {cs:Array Hi} {mb:Option Nat} {loc:Sx->Av} {T:Tb} (h:AD w base n g off ty cs mb loc T) {b:Nat} {t:VQ} {i:Array Hi} (c:Ab w b t i)
  (u:t≠ty) (s:t≠168) (r:t≠166):b≠g/\¬AE mb loc T b:=by
 refine⟨c.ne_ h.ah u,?_⟩;rintro (q|⟨x,p,a⟩)
 ·have:=h.map;rw[<- q] at this;exact Aa.a6 (C:=kS) this c rfl
 ·obtain⟨k,d⟩:=Option.ne_none_iff_exists'.1 p;have f:=h.keys x k d;rcases a with a|a|a
  ·exact c.ne_ f.ah s a
  ·exact f.holds.a6 c a.symm
  ·exact Be f.row c (fun e=>r e.symm) a
theorem q7n {h:Int->Option Int} {lf a:List (Int×Int)} {y:Int×Int} (c:As h y.1 y.2 lf=Jx):DU h lf (y::a)=DU h (lf++[y]) a:=by
 rw[DU,if_neg (by simp[c])]
theorem q63 {h:Int->Option Int} {lf a:List (Int×Int)} {y:Int×Int} (c:As h y.1 y.2 lf=T2):DU h lf (y::a)=((DU (Aj h y.1 y.2) lf a).1,(DU (Aj h y.1 y.2) lf a).2.1,y::(DU (Aj h y.1 y.2) lf a).2.2):=by
 rw[DU,if_pos c]
section
variable {base n g off b:Nat} {ty:VQ} {cs:Array Hi} {loc loc':Sx->Av} {T:Tb} {tx:Int} {w W0 w7:B1} {ks:List Sx} {Vk v5 V9 v5':Hi} {j:Nat} {x:Sx} {k:Kx} {h:Int->Option Int} {lf done:List (Int×Int)} {gs:List Ak}
theorem Ui (U:ty≠9/\ty≠179/\ty≠3) (hI:AD W0 base (n+50) g off ty cs (Bs b) loc' (ET T tx ks j)) (a8:∀ x k,T x=Bs k->x ∉ ks.take j->Ba W0 base n (loc' x) k)
  (a2:∀ c,AE (Bs b) loc' (ET T tx ks j) c->AE (Bs b) loc T c\/w.heap.size<=c) (a3:Fr (TFr g (Bs b) loc T) w W0) (A:W0.ownsRow (w.heap.size+1) 179 3 v5 gs.length (gs.flatMap PZ))
  (ac:gs=(ks.take j).flatMap (Lu T tx)) (ad:gs.length<=50*j) (G:W0.ownsRow w.heap.size 9 1 Vk ks.length (ks.map encStr)) (W:Ab W0 w.heap.size 3 #[.int .i64 tx]) (Y:ks[j]? = Bs x) (N:x ∉ ks.take j) (hT:T x=Bs k)
  (hrel:BV k tx=(⟨h,lf⟩,done)) (hK:Ba w7 base (n+50) ⟨(loc' x).g,(loc' x).hb,V9⟩ ⟨h,lf⟩) (a4:∀ c,V9.ownBlock=Bs c->W0.heap.size<=c) (hf:Fr (fun c=>AQ (loc' x) c\/v5.ownBlock=Bs c) W0 w7)
  (z:w7.ownsRow (w.heap.size+1) 179 3 v5' (gs.length+done.length) ((gs++done.map fun d=>(⟨d.1,x,d.2⟩:Ak)).flatMap PZ)) (ae:done.length<=50) :
  AD w7 base (n+50) g off ty cs (Bs b) (Az loc' x ⟨(loc' x).g,(loc' x).hb,V9⟩) (Ap (ET T tx ks j) x (Bs ⟨h,lf⟩))/\
  (¬qae ⟨h,lf⟩->NP base n g off ty cs (Bs b) loc T tx w ks Vk v5' (.int .i64 ((j+1:Nat):Int)) w7)/\
  (qae ⟨h,lf⟩->∀ w8,Aa kS w8 b (n+50) (AU (Bb (Az loc' x ⟨(loc' x).g,(loc' x).hb,V9⟩) (Ap (ET T tx ks j) x (Bs ⟨h,lf⟩))) ⟨x.toArray⟩ B0)->Fr (fun k=>k=b) w7 w8->
   NP base n g off ty cs (Bs b) loc T tx w ks Vk v5' (.int .i64 ((j+1:Nat):Int)) w8):=by
 have a5:=(GG (T:=T) (tx:=tx) N).trans hT;have M:ET T tx ks j x≠B0:=by rw[a5];simp
 have hU:∀ c,v5.ownBlock=Bs c->c≠g/\¬AE (Bs b) loc' (ET T tx ks j) c:=fun c a=>hI.bA A (fun e=>U.2.1 e.symm) (by decide) (by decide) a
 have F:=hI.turn2 (n':=n+50) a5 (L1 _) hf hU hK rfl rfl (fun c a=>.inr (a4 c a));have a1:j<ks.length:=(List.getElem?_eq_some_iff.1 Y).1;have D:gs++done.map (fun d=>(⟨d.1,x,d.2⟩:Ak))=(ks.take (j+1)).flatMap (Lu T tx):=by
  rw[VV,Y,Wx,<- ac];congr 1;show _=[x].flatMap (Lu T tx);rw[List.flatMap_singleton];unfold Lu;rw[hT];simp only[hrel]
 have R:∀ c,AE (Bs b) (Az loc' x ⟨(loc' x).g,(loc' x).hb,V9⟩) (Ap (ET T tx ks j) x (Bs ⟨h,lf⟩)) c->AE (Bs b) loc T c\/w.heap.size<=c:=fun c a=>by
  rcases J0 (L:=loc' x) (L':=⟨(loc' x).g,(loc' x).hb,V9⟩) (k:=k) (B:=W0.heap.size) rfl rfl (fun c a=>.inr (a4 c a)) c a with f|f
  ·rw[FU] at f;refine a2 c ?_;rcases f with f|⟨y,r,f⟩
   ·exact .inl f
   ·refine .inr ⟨y,?_,f⟩;unfold Ap at r;split at r
    ·rename_i e;rw[e];exact M
    ·exact r
  ·exact .inr (VO a3.size f)
 have S:Fr (TFr g (Bs b) loc T) w w7:=a3.trans' hf (fun i hi f=>by
  rcases f with f|f
  ·rcases a2 i (.inr ⟨x,M,f⟩) with h2|h2
   ·exact .inr h2
   ·omega
  ·have:=(A.lt i f).1;omega)
 have hS:∀ {c:Nat},¬AE (Bs b) loc' (ET T tx ks j) c->v5.ownBlock≠Bs c->¬(AQ (loc' x) c\/v5.ownBlock=Bs c):=fun f h2 O=>O.elim (fun O=>f (.inr ⟨x,M,O⟩)) h2
 have u:w7.ownsRow w.heap.size 9 1 Vk ks.length (ks.map encStr):=hf.own G (fun c a=>hS (hI.bA G (fun e=>U.1 e.symm) (by decide) (by decide) a).2 (q5h G A (by decide) a));have I:Ab w7 w.heap.size 3 #[.int .i64 tx]:=hf.ah W (hS (hI.a6 W (fun e=>U.2.2 e.symm) (by decide) (by decide)).2 (Be A W (by decide)));have Q:∀ y J,T y=Bs J->y ∉ ks.take (j+1)->y≠x/\y ∉ ks.take j/\Ba w7 base n (loc' y) J:=fun y J r p=>by
  rw[VV,Y] at p;simp only[Option.toList_some,Xs,VW,not_or] at p;have X:ET T tx ks j y≠B0:=by rw[GG p.1,r];simp
  refine⟨p.2,p.1,(a8 y J r p.1).fr hf (fun c a O=>?_)⟩;rcases O with O|O
  ·exact hI.apart y x p.2 X M c a O
  ·exact(hU c O).2 (.inr ⟨y,X,a⟩)
 have q:(gs++done.map (fun d=>(⟨d.1,x,d.2⟩:Ak))).length=gs.length+done.length:=by simp
 refine⟨F,fun aa=>?_,fun he w8 ab E=>?_⟩
 ·have V:Eh k tx=Bs ⟨h,lf⟩:=by unfold Eh;rw[hrel,if_neg aa]
  have s:=IK (T:=T) (tx:=tx) (ks:=ks) (j:=j) Y hT;rw[V] at s;refine⟨j+1,_,_,rfl,a1,rfl,by rw[s];exact F,fun y J r p=>?_,by rw[s];exact R,S,by rw[<- D,q];exact z,by rw[<- D,q];omega,u,I⟩;have f:=Q y J r p;unfold Az;rw[if_neg f.1];exact f.2.2
 ·have V:Eh k tx=B0:=by unfold Eh;rw[hrel,if_pos he]
  have s:=IK (T:=T) (tx:=tx) (ks:=ks) (j:=j) Y hT;rw[V] at s;have a9:sx ⟨x.toArray⟩=x:=by show x.toArray.toList=x;simp
  have a6:=QP F ab E;rw[a9,qc3,<- s] at a6;have Z:∀ {c:Nat} {t:VQ} {base' size m:Nat} {v:Hi} {xs:List Hi},w7.ownsRow base' t size v m xs->v.ownBlock=Bs c->c≠b:=fun hr a e=>by subst e;exact Aa.aG (C:=kS) F.map hr a
  refine⟨j+1,_,_,rfl,a1,rfl,a6,fun y J r p=>?_,fun c a=>R c ?_,S.trans' E (fun i _ (e:i=b)=>.inr (.inl (by rw[e]))),by rw[<- D,q];exact E.own z (fun c a e=>Z z a e),by rw[<- D,q];omega,E.own u (fun c a e=>Z u a e),E.ah I (fun e=>Aa.a6 (C:=kS) F.map I e.symm)⟩
  ·have f:=Q y J r p;unfold Az;rw[if_neg f.1];have a7:Ap (ET T tx ks j) x (Bs ⟨h,lf⟩) y=Bs J:=by unfold Ap;rw[if_neg f.1,GG f.2.1,r]
   have a0:Az loc' x ⟨(loc' x).g,(loc' x).hb,V9⟩ y=loc' y:=by unfold Az;rw[if_neg f.1]
   exact f.2.2.fr E (fun c a e=>F.b3 a7 rfl (a0▸a) e)
  ·rcases a with a|⟨y,r,a⟩
   ·exact .inl a
   ·refine .inr ⟨y,?_,a⟩;rw[s] at r;unfold Ap at r ⊢;split at r
    ·exact absurd rfl r
    ·rename_i e;rw[if_neg e];exact r
end
end
section
open Go.RowKit Go.Maps Go.Sort Go.Shelf
theorem Pg {w w':B1} {base n:Nat} {L:Av} {k:Kx} {tx mode:Int} (h:Ba w base n L k) (d:Aa kI w' L.hb (n+1) (AU (hM k.h) tx (Bs (.int .i64 (max (Ax k.h tx) mode))))) (f:Fr (fun b=>b=L.hb) w w') (c:CA tx) (a:CA mode) :
  Ba w' base (n+1) L ⟨Aj k.h tx mode,k.ws⟩:=R2 h (by
 rw[show(if mode > Ax k.h tx then mode else Ax k.h tx)=max (Ax k.h tx) mode by split <;> omega];exact d) f c a
theorem Vb {w:B1} {base n:Nat} {L:Av} {h:Int->Option Int} {lf:List (Int×Int)} (i:Ba w base n L ⟨h,lf⟩) {f:Nat} (a:f=0↔∀ x,kI.ok x->hM h x=B0):qae ⟨h,lf⟩↔f=0/\lf.length=0:=by
 have e1:qae ⟨h,lf⟩↔(∀ o,h o=B0)/\lf=[]:=Iff.rfl;rw[a,e1];constructor
 ·rintro ⟨d,c⟩;exact⟨fun o _=>by unfold hM;rw[d o];rfl,by rw[c];rfl⟩
 ·rintro ⟨d,c⟩;refine⟨fun o=>?_,Ww c⟩;cases e:h o with
  | none=>rfl
  | some m=>
   have:=d o (i.cM o m e).1;unfold hM at this;rw[e] at this;cases this
theorem Ba.bA {w:B1} {base n:Nat} {L:Av} {k:Kx} (h:Ba w base n L k) {base' size m:Nat} {e:VQ} {v:Hi} {xs:List Hi} (a:w.ownsRow base' e size v m xs) (i:e≠168) (f:e≠166) {b:Nat} (c:v.ownBlock=Bs b):¬AQ L b:=by
 rintro (rfl|rfl|d)
 ·exact Be a h.ah i c
 ·exact h.holds.aG a c
 ·exact q5h a h.row f c d
theorem I6 (base n g off:Nat) (ty:VQ) (cs:Array Hi) (mb:Option Nat) (loc:Sx->Av) (T:Tb) (tx:Int) (w:B1) (hI:AD w base n g off ty cs mb loc T) (bQ:CA tx) (hn:n<1000000) (bP:ty≠9/\ty≠179/\ty≠3) :
  VX Tryz.prog 70 #[.pointer (Bs ⟨g,off,B0⟩),.int .i64 tx] w (NQ base n g off ty cs mb loc T tx w):=by
 have bC:VJ w.heap.size w (w.alloc (.cells #[.int .i64 tx] 3)):=(S2 _ _).alloc (L1 _) _;have a2:=hI.a8 bC;have ct:Ab (w.alloc (.cells #[.int .i64 tx] 3)) w.heap.size 3 #[.int .i64 tx]:=Ab.new w _ _;have c0:=(a2.ah.cell off).trans a2.c0;have aw:=a2.ah.lt;have c2:=Me mb (w.alloc (.cells #[.int .i64 tx] 3));have bv:=Lj (w.alloc (.cells #[.int .i64 tx] 3)) a2.map a2.small (by omega);rw[show(w.alloc (.cells #[.int .i64 tx] 3)).heap.size=w.heap.size+1 by simp] at bv;have cD:=LH c2;clear c2;have cA:=LH bv;clear bv;have HI:=LH hI;clear hI;have d9:=LH a2;clear a2;have cP:=LH ct;clear ct;have cN:=LH bC;clear bC;have d6:=LH bQ;clear bQ;go_enter Tryz.func70,Tryz.ntmps70;go_wp2_with fail;refine cD.o.mono ?_;rintro e w2 ⟨rfl,rfl⟩;go_wp2_with fail;refine cA.o.mono ?_;rintro e w3 ⟨Vk,ks,rfl,c1,aT,E,bB⟩;have u:VJ w.heap.size w w3:=cN.o.trans (bB.mono (by simp));have bS:NP base n g off ty cs mb loc T tx w ks Vk (.slice B0 0 0) (.int .i64 (0:Nat)) w3:=by
  have cr:=HI.o.a8 u;exact⟨0,loc,[],rfl,VK _,rfl,by rw[tkT_0];exact cr.mono (by omega),fun x k hx _=>cr.keys x k hx,fun b hb=>by rw[tkT_0] at hb;exact .inl hb,(show Fr _ w w3 from⟨u.os,u.tape,u.output,u.size,fun k hk _=>u.block k hk⟩),VY _ _ _ _,by simp,q8c E (by simp),cP.o.below bB (by simp)⟩
 have d7:=LH bS;clear bS;have aY:=LH c1;clear c1;have bI:=LH aT;clear aT;obtain⟨Ak,ck,rfl,_,_⟩:=AK E;have df:=LH u.size;clear bB u E c0 aw cD cA d9 cP cN;go_wp2_with fail;go_loopw [5,19] (NP base n g off ty cs mb loc T tx w ks (.slice Ak ks.length ck)) (fun _ v _=>ks.length-(intOf v).toNat)
 case atStart=>exact d7.o
 case round=>
  obtain⟨j,loc',gs,rfl,hj,a9,hI,aR,aa,aU,a6,aw,E,aA⟩:=hrel;by_cases dj:(j:Int)<ks.length
  ·have hx:ks[j]? = Bs ks[j]:=K0 (by omega);generalize cU:ks[j]=x at hx;clear cU;have bU:=qby aY.o.1;have G:=Lb bU hx;obtain⟨k,hT⟩:=Option.ne_none_iff_exists'.1 ((aY.o.2 x).1 (O0 hx));have aV:=(GG (T:=T) (tx:=tx) G).trans hT;obtain⟨b,rfl⟩:∃ b,mb=Bs b:=by
    rcases mb with _|b
    ·have:=hI.map x;rw[aV] at this;cases this
    ·exact⟨b,rfl⟩
   obtain⟨gk,ok,d3,dl,cd⟩:=(Rd.au E).2 (by omega);subst d3;have cn:=cd j (encStr x) (by rw[VT,hx];rfl);have cg:=(hI.ah.cell off).trans hI.c0;have c4:=hI.ah.lt;have di:=HI.o.small x (by rw[hT];simp);have bR:sx ⟨x.toArray⟩=x:=by show x.toArray.toList=x;simp
   have aS:=qbv (s:=⟨x.toArray⟩) hI.map (by rw[I9,bR];unfold VZ;omega);rw[bR,aV] at aS;have hK:=aR x k hT G;have M:=hK.ah.cell 0;have a3:=hK.ah.cell 1;have d2:=hK.ah.lt;have cb:=aA.cell 0;have Z:=aA.lt;obtain⟨A,c,hV,_,_⟩:=AK hK.row;simp only[Ft,D0,N2] at M a3 cb;have cx:=LH aR;clear aR;have cI:=LH aa;clear aa;have cK:=LH aU;clear aU;have a8:=LH a6;clear a6;have cH:=LH a9;clear a9;have aZ:=LH aw;clear aw;have bj:=LH E;clear E;have aO:=LH aA;clear aA;have bK:=LH hI;clear hI;have HX:=LH hx;clear hx;have bq:=LH G;clear G bU;have cy:=LH hT;clear hT;have cz:=LH aV;clear aV;have HK:=LH hK;clear hK;have HV:=LH hV;clear hV;clear cd;go_upto_region 6 with (fail)
   clear cn cg aS;refine XM 5 (by kernel_rfl) (by kernel_rfl) ?_;change wpStill _ _ (Ym _) _ _ _;simp only[WU,XN,Xd,Yt]
   repeat still_step
   refine Y5 ?_;refine It (C:=kI) rfl 61 3 Tryz.underlying61 (.tmp 32) (.tmp 33) (by kernel_rfl) (by simp[Xg]) (show Aa kI _ _ n _ from HK.o.holds) tx (by simp[Xg];rfl) d6.o ?_;intro w4 bY ab;have ab:Fr (fun k=>k=(loc' x).hb) wr w4:=(Fr.refl _ wr).drew.trans ab;have a1:=US HK.o bY ab;have u:=(ab.ah aO.o (fun e=>HK.o.holds.a6 aO.o e.symm))
   have aG:=a1.ah.cell 1;have bF:=u.cell 0;simp only[Ft,D0,N2] at aG bF;have ce:=u.lt;have cj:=a1.ah.lt;have az:=Qs base k.ws.length w.heap.size tx (loc' x).V k.ws w4 a1.row rfl (by have:k.ws.length<=50:=a1.len;omega) bF (fun e=>Be a1.row u (by decide) e);rw[HV.o] at az aG;have br:=LH az;clear az;have N:=LH a1;clear a1;have cM:=LH ab;clear ab bY;have db:=LH u;clear u;clear M a3 cb c4 d2 Z;go_wp2_with fail;refine br.o.mono ?_;rintro e w5 ⟨A5,c5,rfl,am,ay,ar⟩;rw[<- HV.o] at ay ar;have b8:∀ d,(loc' x).V.ownBlock=Bs d->d≠(loc' x).g:=fun d a e=>Be N.o.row N.o.ah (by decide) (e▸a)
   have aB:=ay.ah N.o.ah (fun e=>b8 _ e rfl);have bX:=N.o.holds.fr ay (fun e=>N.o.holds.aG N.o.row e);have ae:=aB.cell 1;have bE:=aB.frozen 1;have cY:=aB.lt;have aq:∀ y∈AC k.ws tx,CA y.1/\CA y.2:=fun y hy=>N.o.okw y (List.mem_filter.1 hy).1
   have bx:(AC k.ws tx).length<=50:=VO (UD _ _) N.o.len;have cq:=Ny N.o aB bX am aq bx;simp only[Ft,D0,N2] at ae;rw[HV.o] at ae;have ca:Fr (AQ (loc' x)) wr (w5.setCell ⟨(loc' x).g,1,B0⟩ (.slice A5 (AC k.ws tx).length c5)):=
    ((cM.o.mono (fun i _ (e:i=_)=>.inr (.inl e))).trans' ay (fun i _ e=>.inr (.inr e))).setCell (p:=⟨(loc' x).g,1,B0⟩) (.inl (.inl rfl)) _
   have ci:∀ d,(WI A5 (AC k.ws tx).length c5).ownBlock=Bs d->(loc' x).V.ownBlock=Bs d:=fun d a=>by rw[<- ar];exact a
   have ai:=LH cq;clear cq;have aM:=LH ca;clear ca ay bX aB am b8 ar;have aJ:=LH aq;clear aq;have ah:=LH bx;clear bx;have d5:=LH ci;clear ci;go_upto_region 8 with (fail)
   clear ae bE cY bF aG ce cj;generalize w5.setCell ⟨(loc' x).g,1,B0⟩ (.slice A5 (AC k.ws tx).length c5)=w6 at *;clear N cM db br;have bN:w.heap.size+1<=w6.heap.size:=by have:=aM.o.size;have:=aO.o.lt;omega
   have cw:=LH bN;clear bN;have a3:=ai.o.ah.cell 1;simp only[Ft,D0,N2] at a3;have cX:=ai.o.ah.lt;have bA:∀ d,AQ (loc' x) d->AE (Bs b) loc' (ET T tx ks j) d:=fun d a=>.inr ⟨x,by rw[cz.o];simp,a⟩
   have ao:=aM.o.own a8.o (fun d a e=>(bK.o.bA a8.o (fun e=>bP.2.1 e.symm) (by decide) (by decide) a).2 (bA d e));have bd:NW base n ⟨(loc' x).g,(loc' x).hb,.slice A5 (AC k.ws tx).length c5⟩ (AW k.h tx B0) (AC k.ws tx) (w.heap.size+1) gs x u5.ownBlock w6 u5 (.slice B0 0 0) (.int .i64 (0:Nat)) w6:=
    ⟨0,_,[],[],rfl,VK _,ai.o,VY _ _ _ _,by simpa using ao,by simp,Fr.refl _ _,(fun y hy=>by cases hy),L1 _,L1 _,fun d a=>.inl a⟩
   have bo:=LH bd;clear bd ao;have da:=LH bA;clear bA;go_wp2_with fail;clear a3 cX;generalize u5=U0 at *;go_loopw [5,9,48] (NW base n ⟨(loc' x).g,(loc' x).hb,.slice A5 (AC k.ws tx).length c5⟩ (AW k.h tx B0) (AC k.ws tx) (w.heap.size+1) gs x U0.ownBlock w6) (fun _ _ v _=>(AC k.ws tx).length-(intOf v).toNat)
   case atStart=>exact bo.o
   case round=>
    clear bo;obtain⟨i,h,lf,done,rfl,hi,D,f,B,O,W,a5,bZ,cc,bw⟩:=hrel;have aj:=W.size;have cm:=ah.o;by_cases dc:(i:Int)<(AC k.ws tx).length
    ·obtain⟨g',o',y,d4,dn,hy,cS,cQ⟩:=(Rd.au D.row).bE (l:=AC k.ws tx) rfl (j:=i) (by omega);subst d4;have S:(AC k.ws tx).drop i=y::(AC k.ws tx).drop (i+1):=by
      obtain⟨h1,h2⟩:=List.getElem?_eq_some_iff.1 hy;rw[List.drop_eq_getElem_cons h1,h2]
     rw[S] at O;have bu:=aJ.o y (O0 hy);have Z:VJ wr.heap.size wr (wr.alloc (.cells #[.int .i64 y.1,.int .i64 y.2] 166)):=(S2 _ _).alloc (L1 _) _;have aE:=D.a8 Z;have Q:=Lx f Z;have ap:=Lx B Z;have bO:Ab (wr.alloc (.cells #[.int .i64 y.1,.int .i64 y.2] 166)) wr.heap.size 166 #[.int .i64 y.1,.int .i64 y.2]:=Ab.new _ _ _;obtain⟨Al,cl,bD,_,_⟩:=AK f;subst bD;have ax:=qch (loc' x).g (loc' x).hb (n+i) lf.length cl _ h y.1 y.2 Al lf _ aE.ah aE.holds aE.cM bu.1 (Rd.au Q) rfl (by omega);have aK:=LH ax;clear ax;have cG:=LH aE;clear aE;have bn:=LH Q;clear Q;have bl:=LH ap;clear ap;have ag:=LH bO;clear bO;have cO:=LH Z;clear Z;have dp:=LH D;clear D;have bk:=LH O;clear O;have bp:=LH W;clear W;have bi:=LH a5;clear a5;have bH:=LH bw;clear bw;have HY:=LH hy;clear hy S;have aW:=LH bu;clear bu;have dh:=LH f;clear f;have dg:=LH B;clear B;have af:=LH aj;clear aj;have aX:=LH bZ;clear bZ;have b0:=LH cc;clear cc;clear cm;go_upto_region 12 with (fail)
     clear cS cQ;generalize cf:wr.alloc (.cells #[.int .i64 y.1,.int .i64 y.2] 166)=w1 at *;have b4:w1.heap.size=wr.heap.size+1:=by rw[<- cf];simp
     clear cf;have aH:=LH b4;clear b4;have ad:=ag.o.cell 0;have ac:=ag.o.cell 1;simp only[Ft,D0,N2] at ad ac;have bM:=ag.o.lt;go_wp2_with fail;clear ad ac bM;refine aK.o.mono ?_;rintro e wA ⟨rfl,a0⟩;have cp:=cG.o.a8 a0;have bb:=Lx bn.o a0;have b6:=Lx bl.o a0;have ak:=ag.o.below a0 ag.o.lt;have ad:=ak.cell 0;have ac:=ak.cell 1;have b1:=ak.lt;simp only[Ft,D0,N2] at ad ac;have b3:wr.heap.size+1<=wA.heap.size:=by have:=a0.size;have:=aH.o;omega
     have bg:VJ wr.heap.size wr wA:=cO.o.trans (a0.mono (by have:=aH.o;omega));have V:=LH cp;clear cp;have F:=LH bb;clear bb;have Y:=LH b6;clear b6;have bG:=LH ak;clear ak;have a7:=LH b3;clear b3;have aP:=LH bg;clear bg a0;clear aK cG bn bl ag cO aH;rcases c7:As h y.1 y.2 lf with _|_
     ·
      go_wp2_with (at_builtin;refine stop ?_)
      refine Cn ?_;refine Nf _ _ rfl (.tmp 60) (.tmp 62) 164 rfl w6.heap.size 166 (.agg #[.int .i64 0,.int .i64 0]) 2 16 Bp KU rfl (by decide) _ _ _ #[.int .i64 y.1,.int .i64 y.2] rfl F.o 1 rfl _ rfl rfl (by simp[Wy]) ?_ ?_ ?_ ?_
      ·have:=aX.o;have:=ah.o;unfold VZ;omega
      ·have:=aX.o;have:=ah.o;omega
      ·have:=a7.o;have:=af.o;omega
      intro v' w9 J L;have cZ:VJ w6.heap.size wA w9:=L.below (fun d a=>(F.o.lt d a).1) (by have:=a7.o;have:=af.o;omega);have aC:Ba w9 base (n+(i+1)) ⟨(loc' x).g,(loc' x).hb,.slice (Bs ⟨g',o',B0⟩) (AC k.ws tx).length c5⟩ ⟨h,AC k.ws tx⟩:=(V.o.fr L.1 (fun d a e=>by
       have h1:=(F.o.lt d e.symm).1;have h2:=(ai.o.av (b:=d) a).2;omega)).mono (by omega)
      have an:=L.1.own Y.o (fun d a e=>q5h Y.o F.o (by decide) a e.symm);have r:=bk.o;rw[q7n c7] at r;have I:NW base n ⟨(loc' x).g,(loc' x).hb,.slice (Bs ⟨g',o',B0⟩) (AC k.ws tx).length c5⟩ (AW k.h tx B0) (AC k.ws tx) (w.heap.size+1) gs x U0.ownBlock w6 u5 v' (.int .i64 ((i+1:Nat):Int)) w9:=by
       have bt:=(List.getElem?_eq_some_iff.1 HY.o).1;refine⟨i+1,h,lf++[y],done,rfl,bt,aC,by simpa [Cy] using J,an,r,(bp.o.trans' (q26 aP.o) (fun q hq (e:_<=q)=>by have:=af.o;omega)).trans' L.1 (fun q hq e=>by have:=(F.o.lt q e.symm).1;omega),fun z hz=>?_,by have:=aX.o;simp;omega,by have:=b0.o;omega,bH.o⟩;rcases List.mem_append.1 hz with hz|hz
       ·exact bi.o z hz
       ·rw[List.mem_singleton.1 hz];exact O0 HY.o
      have a4:=LH I;clear I aC an r J L cZ ad ac b1;have cW:i<50:=by have:=ah.o;omega
      go_wp2_with fail;go_roundw
      ·exact a4.o
      ·simp[intOf];omega
     ·
      have cW:i<50:=by have:=ah.o;omega
      go_upto_region 14 with (fail)
      refine XM 16 (by kernel_rfl) (by kernel_rfl) ?_;change wpStill _ _ (Ym _) _ _ _;simp only[WU,XN,Xd,Yt];have M:=V.o.ah.cell 0;have aT:=V.o.ah.lt;simp only[Ft,D0] at M;have aS:=qcg (w:=wA.drew) V.o.holds aW.o.1
      repeat still_step
      refine Y5 ?_;refine TF (C:=kI) rfl 61 3 Tryz.underlying61 (.tmp 67) (.tmp 69) (.tmp 79) (by kernel_rfl) (by simp[Xg]) (show Aa kI _ _ (n+i) _ from V.o.holds) (by have:=ah.o;unfold VZ;omega) y.1 (.int .i64 (max (Ax h y.1) y.2)) (by simp[Xg];rfl) (by simp[Xg]) aW.o.1 ?_;intro wB bV R;have R:Fr (fun d=>d=(loc' x).hb) wA wB:=(Fr.refl _ wA).drew.trans R;have co:Ba wB base (n+i+1) ⟨(loc' x).g,(loc' x).hb,.slice (Bs ⟨g',o',B0⟩) (AC k.ws tx).length c5⟩ ⟨Aj h y.1 y.2,AC k.ws tx⟩:=Pg V.o bV R aW.o.1 aW.o.2;have ba:=R.own F.o (fun d a e=>by have h1:=(F.o.lt d a).1;have h2:=(ai.o.av (b:=d) (.inr (.inl e))).2;omega);have b5:=R.own Y.o (fun d a e=>by subst e;exact V.o.holds.aG Y.o a);have aQ:=R.ah bG.o (fun e=>V.o.holds.a6 bG.o e.symm);have cv:=aQ.cell 0;have cu:=aQ.cell 1;have bL:=aQ.lt;simp only[Ft,D0,N2] at cv cu;have b2:wr.heap.size+1<=wB.heap.size:=by have:=R.size;have:=a7.o;omega
      have be:Fr (fun d=>d=(loc' x).hb\/U0.ownBlock=Bs d) w6 wB:=(bp.o.trans' (q26 aP.o) (fun q hq (e:_<=q)=>by have:=af.o;omega)).trans' R (fun q _ e=>.inl e);have cF:=LH co;clear co;have bm:=LH ba;clear ba;have aI:=LH b5;clear b5 aQ;have bh:=LH b2;clear b2;have cJ:=LH be;clear be bV R;clear aS M aT ad ac b1 V F Y bG a7 aP;go_upto_region 15 with (fail)
      go_wp2_with (at_builtin;refine stop ?_)
      refine Cn ?_;refine Nf _ _ rfl (.tmp 80) (.tmp 87) 138 rfl (w.heap.size+1) 179 (.agg #[.int .i64 0,.string ⟨#[]⟩,.int .i64 0]) 3 32 Tryz.underlying138 g_info rfl (by decide) _ _ _ #[.int .i64 y.1,.string ⟨x.toArray⟩,.int .i64 y.2] rfl aI.o 1 rfl _ rfl rfl (by simp[Wy]) ?_ ?_ ?_ ?_
      ·have:=aZ.o;have:=b0.o;have:=bI.o;unfold VZ;omega
      ·have:=aZ.o;have:=b0.o;have:=bI.o;omega
      ·have:=bh.o;have:=af.o;have:=cw.o;omega
      intro v' w9 J L;have aC:Ba w9 base (n+(i+1)) ⟨(loc' x).g,(loc' x).hb,.slice (Bs ⟨g',o',B0⟩) (AC k.ws tx).length c5⟩ ⟨Aj h y.1 y.2,AC k.ws tx⟩:=cF.o.fr L.1 (fun d a e=>cF.o.bA aI.o (by decide) (by decide) e.symm a);have bc:=L.1.own bm.o (fun d a e=>q5h bm.o aI.o (by decide) a e.symm);have r:=bk.o;rw[q63 c7] at r;have I:NW base n ⟨(loc' x).g,(loc' x).hb,.slice (Bs ⟨g',o',B0⟩) (AC k.ws tx).length c5⟩ (AW k.h tx B0) (AC k.ws tx) (w.heap.size+1) gs x U0.ownBlock w6 v' (.slice Al lf.length cl) (.int .i64 ((i+1:Nat):Int)) w9:=by
       have bt:=(List.getElem?_eq_some_iff.1 HY.o).1;refine⟨i+1,Aj h y.1 y.2,lf,done++[y],rfl,bt,aC,bc,?_,by rw[X4];exact r,cJ.o.trans' L.1 (fun q hq e=>?_),bi.o,by have:=aX.o;omega,by have:=b0.o;simp;omega,fun d a=>?_⟩
       ·have:=J;simp only[List.map_append,List.map_cons,List.map_nil,VP,WH,List.length_nil,Wx,VI,List.flatMap_nil,PZ,X4,WM] at this ⊢;exact this
       ·rcases bH.o q e.symm with h1|h1
        ·exact .inr h1
        ·omega
       ·rcases L.2 with e|⟨g9,e,dm⟩
        ·exact bH.o d (e.symm.trans a)
        ·rw[a] at e;injection e with e;exact .inr (by have:=bh.o;have:=af.o;omega)
      have a4:=LH I;clear I aC bc r J L cv cu bL;go_wp2_with fail
      all_goals
       go_roundw
       ·exact a4.o
       ·simp[intOf];omega
    ·
     obtain rfl:i=(AC k.ws tx).length:=by omega
     rw[List.drop_length,q2h] at O;have hrel:BV k tx=(⟨h,lf⟩,done):=by unfold BV;rw[O];simp
     obtain⟨Al,cl,bD,_,_⟩:=AK f;subst bD;have ae:=D.ah.cell 1;have bE:=D.ah.frozen 1;have c6:=D.ah.lt;have M:=D.ah.cell 0;simp only[Ft,D0,N2] at ae M;have b9:wr.ownsRow base 166 2 (.slice Al lf.length cl) lf.length (lf.flatMap Cy):=q8c f (by have:=HI.o.bg;have:=cw.o;omega);have aD:=(Ny D D.ah D.holds b9 (fun z hz=>aJ.o z (a5 z hz)) (by omega)).mono (n':=n+50) (by omega);have bT:∀ d,(WI Al lf.length cl).ownBlock=Bs d->wr.heap.size<=d\/w6.heap.size<=d:=fun d a=>.inr (f.lt d a).1
     have b7:=(Fr.ax (loc' x).g wr 1 (.slice Al lf.length cl)).own B (fun d a e=>by subst e;exact Be B D.ah (by decide) a);have ch:=fun d (a:(WI Al lf.length cl).ownBlock=Bs d)=>VO aM.o.size (f.lt d a).1
     have c9:=((aM.o.mono (T:=fun d=>AQ (loc' x) d\/U0.ownBlock=Bs d) (fun i _ h=>.inl h)).trans' W (fun i _ e=>e.elim (fun e=>.inl (.inr (.inl e))) .inr)).setCell (p:=⟨(loc' x).g,1,B0⟩) (.inl (.inl (.inl rfl))) (.slice Al lf.length cl);have al:=Ui bP bK.o cx.o cI.o cK.o a8.o cH.o aZ.o bj.o aO.o HX.o bq.o cy.o hrel aD ch c9 b7 (by omega);have U:=LH al;clear al;obtain⟨kk,au,_,c3⟩:=aD.holds.len Tryz.underlying61;have bf:=Vb aD c3;have aN:=LH bf;clear bf c3;have cC:=LH au;clear au;have dk:j<1000000:=by have:=bI.o;omega
     have bJ:=LH aD;clear aD;clear b9 b7 c9 ch bT hrel O f B W a5 bw aj cm;clear cx cI cK a8 cH aZ bj aO HX bq cy bK ai aM aJ d5 da cz HK HV;go_upto_region 18 with (fail)
     clear ae bE M c6 D;generalize wr.setCell ⟨(loc' x).g,1,B0⟩ (.slice Al lf.length cl)=w7 at *;have M:=bJ.o.ah.cell 0;have a3:=bJ.o.ah.cell 1;have de:=bJ.o.ah.lt;simp only[Ft,D0,N2] at M a3;have au:=cC.o 3;by_cases bz:kk=0
     ·subst bz;by_cases av:lf.length=0
      ·have d1:((lf.length:Int) == 0)=T2:=by simp[av]
       have he:=aN.o.2 ⟨rfl,av⟩;have hS:=U.o.2.2 he;have aF:=U.o.1;have cg:=(aF.ah.cell off).trans aF.c0;have dd:=aF.ah.lt;have d8:=LH aF.map;clear aF;have HS:=LH hS;clear hS;clear av;go_upto_region 19 with (fail)
       clear d1;obtain⟨w8,S,bW,c8⟩:=Aa.drop (C:=kS) (show Aa kS w7 b (n+50) _ from d8.o) Tryz.underlying98 (x:=⟨x.toArray⟩) (by show(ByteArray.mk x.toArray).size<=VZ;rw[I9];show x.toArray.toList.length<=_;unfold VZ;simp;omega) 0;rw[show kS.val ⟨x.toArray⟩=encStr x from rfl] at S;have X:=HS.o w8 bW c8;have aL:=LH X;clear X bW c8;go_wp2_with fail;go_roundw
       ·exact aL.o
       ·simp[intOf];omega
      ·have d1:((lf.length:Int) == 0)=Jx:=by rw[beq_eq_false_iff_ne];omega
       have hS:=U.o.2.1 (fun he=>av (aN.o.1 he).2);have HS:=LH hS;clear hS av;go_wp2_with fail;go_roundw
       ·exact HS.o
       ·simp[intOf];omega
     ·have d0:((kk:Int) == 0)=Jx:=by rw[beq_eq_false_iff_ne];omega
      have hS:=U.o.2.1 (fun he=>bz (aN.o.1 he).1);have HS:=LH hS;clear hS bz;go_wp2_with fail;go_roundw
      ·exact HS.o
      ·simp[intOf];omega
  ·have cV:j=ks.length:=by omega
   have X:NQ base n g off ty cs mb loc T tx w (.returned u5) wr:=by
    rw[cV] at hI aa a9;rw[T7 aY.o] at hI aa;rw[WR] at a9;exact⟨u5,ks,loc',rfl,aY.o,by rw[<- a9];exact a6,hI,aa,aU⟩
   have aL:=LH X;clear X hI aR aa aU a6 a9 aw E aA;go_wp2_with fail;go_ret;exact aL.o
end
def Ae {α:Type} (f:Nat->α) (i:Nat) (v:α):Nat->α:=fun j=>if j=i then v else f j
theorem Ay {α:Type} (f:Nat->α) (i:Nat) (v:α):Ae f i v i=v:=by unfold Ae;rw[if_pos rfl]
theorem AF {α:Type} {f:Nat->α} {i j:Nat} (h:j≠i) (v:α):Ae f i v j=f j:=by unfold Ae;rw[if_neg h]
theorem qbr {α:Type} (f:Nat->α) (i:Nat) (u v:α):Ae (Ae f i u) i v=Ae f i v:=by
 funext j;unfold Ae;split <;> rfl
theorem qbs {α:Type} (f:Nat->α) (i:Nat):Ae f i (f i)=f:=by
 funext j;unfold Ae;split
 ·rename_i h;rw[h]
 ·rfl
structure Bg where
 nd:Nat->Nd
 ak:Int->Bool
 ab:Int
 size:Int
 tab:Tb
 sto:Kp
 done:Nat
structure Bi where
 state:Int
 aa:List Pr
 ad:Int->Option Int
 places:Int->Option Int
 ae:Int
 af:List (Sx×Int)
structure Hs where
 n:Nat
 c:Nat
 net:Bk
 sh:Nat->Bg
 m:Nat
 tx:Nat->Bi
 ae:Int
def AG (f:Int->Option Int) (k v:Int):Int->Option Int:=fun j=>if j=k then Bs v else f j
def Bg.aj (n:Nat) (x:Bg):List Nat:=(Wu n).filter fun j=>!x.ak (x.nd j).id
def Bg.bu (n:Nat) (x:Bg):Option Nat:=(x.aj n).find? fun j=>(x.nd j).head
def Hs.al (H:Hs) (s:Nat) (x:Bg):Hs:={ H with sh:=Ae H.sh s x }
def Hs.aw (H:Hs) (i:Nat) (t:Bi):Hs:={ H with tx:=Ae H.tx i t }
def Hs.an (H:Hs) (s j:Nat) (d:Nd):Hs:=H.al s { H.sh s with nd:=Ae (H.sh s).nd j d }
def Hs.send (H:Hs) (ms:List Ms):Hs:={ H with net:=Dh H.net ms }
def Hs.head (H:Hs) (s:Nat):Option Nat:=(H.sh s).bu H.n
def Ez (T:Tb) (tx:Int) (o:Int) (x:Sx):Prop:=∃ k a,T x=Bs k/\(o,a)∈(BV k tx).2
open Classical in
noncomputable def Hs.granted (H:Hs) (T:Tb) (tx:Int):Hs:=
 { H with tx:=fun i=>{ H.tx i with af:=(H.tx i).af.filter fun w=>!decide (Ez T tx i w.1) } }
noncomputable def Hs.rel (H:Hs) (s:Nat) (tx:Int):Hs:=
 (H.al s { H.sh s with tab:=Bh (H.sh s).tab tx }).granted (H.sh s).tab tx
noncomputable def An (T:Tb) (tx:Int) (x:Sx) (mode:Int):Tb:=
 if CC (Ac T x).ws tx then T
 else if As (Ac T x).h tx mode (Ac T x).ws then Ap T x (Bs ⟨Aj (Ac T x).h tx mode,(Ac T x).ws⟩)
 else if (Ac T x).ws.length=50 then T
 else Ap T x (Bs ⟨(Ac T x).h,BY (Ac T x).ws (tx,mode)⟩)
noncomputable def Cd (T:Tb) (tx:Int) (ps:List Pr):Tb:=ps.foldl (fun T p=>An T tx (sx p.key) 2) T
def CV (K:Kp) (t:Int) (ps:List Pr):Kp:=ps.foldl (fun K p=>(Ct K 0 ⟨sx p.key,sx p.val,p.gone,t⟩).2) K
def Bc (K:Kp) (l:List Cm) (c:Cm):Kp:=l.foldl (fun K w=>if w.ag=2/\w.tx=c.tx then CV K c.ae w.aa else K) K
noncomputable def Hs.a9 (H:Hs) (s:Nat) (l:List Cm) (i:Nat) (c:Cm):Hs:=
 if c.ag=2 then H.al s { H.sh s with tab:=Cd (H.sh s).tab c.tx c.aa }
 else if c.ag=3 then(H.al s { H.sh s with sto:=Bc (H.sh s).sto (l.take i) c }).rel s c.tx
 else if c.ag=4 then H.rel s c.tx
 else H
noncomputable def Hs.aI (s:Nat) (l:List Cm):Nat->Hs->Hs
 | 0,H=>H
 | k+1,H=>match l[(H.sh s).done]? with
  | none=>H
  | some c=>Hs.aI s l k ((H.a9 s l (H.sh s).done c).al s { (H.a9 s l (H.sh s).done c).sh s with done:=(H.sh s).done+1 })
noncomputable def Hs.take (H:Hs) (s:Nat):Hs:=match H.head s with
 | none=>H
 | some j=>Hs.aI s ((H.sh s).nd j).log (((H.sh s).nd j).log.length-(H.sh s).done) H
noncomputable def Hs.add (H:Hs) (s j:Nat) (c:Cm) (b:Bool):Int×Hs:=
 if (((H.sh s).nd j).add c b).2.2≠0 then(-1,H)
 else((((H.sh s).nd j).add c b).2.1,(((H.an s j (((H.sh s).nd j).add c b).1.1).send (((H.sh s).nd j).add c b).1.2)).take s)
def Bi.ai (t:Bi):List Nat:=[0,1].filter fun k:Nat=>(t.ad k).isSome
def JN (kind id:Int) (c:Cm):Bool:=c.ag == kind && c.tx == id
def place (l:List Cm) (kind id:Int):Option Nat:=l.findIdx? (JN kind id)
def Ad (k:Sx):Nat:=(k.map fun b=>b.toNat).sum % 2
noncomputable def Hs.a7 (i:Nat) (kind:Int) (H:Hs) (k:Nat):Hs:=match H.head k with
 | none=>H
 | some j=>if place ((H.sh k).nd j).log kind i=B0/\place ((H.sh k).nd j).log 2 i≠B0
  then(H.add k j ⟨kind,i,if kind=3 then(H.tx i).ae else 0,[]⟩ Jx).2 else H
noncomputable def Hs.aM (H:Hs) (i:Nat) (kind:Int):Hs:=(H.tx i).ai.foldl (Hs.a7 i kind) H
noncomputable def Hs.abort (H:Hs) (i:Nat):Hs:=
 ((H.tx i).ai.foldl (fun(H:Hs) k=>H.rel k i) (H.aw i { H.tx i with state:=4,af:=[] })).aM i 4
def Bi.of (t:Bi) (k:Nat):List Pr:=t.aa.filter fun p=>Ad (sx p.key) == k
def Hs.ao (H:Hs) (s j:Nat):Int:=((H.sh s).nd j).ao
def Hs.aA (H:Hs) (i k:Nat) (at_:Int):Hs:=H.aw i { H.tx i with places:=AG (H.tx i).places k at_ }
noncomputable def Hs.aD (H:Hs) (i k:Nat) (b:Bool):Hs×Option Bool:=match H.head k with
 | none=>(H,Bs Jx)
 | some j=>match place ((H.sh k).nd j).log 2 i with
  | some p=>(H.aA i k p,Bs (decide (H.ao k j > p)))
  | none=>
   if (H.tx i).ae > 0\/((H.tx i).ad k).getD 0≠(H.sh k).ab\/((H.tx i).places k).getD 0>=0 then
    if (H.tx i).ae=0 then(H.abort i,B0) else(H,Bs Jx)
   else if (H.add k j ⟨2,i,0,(H.tx i).of k⟩ b).1<0 then((H.add k j ⟨2,i,0,(H.tx i).of k⟩ b).2.abort i,B0)
   else((H.add k j ⟨2,i,0,(H.tx i).of k⟩ b).2.aA i k (H.add k j ⟨2,i,0,(H.tx i).of k⟩ b).1,
    Bs (decide ((H.add k j ⟨2,i,0,(H.tx i).of k⟩ b).2.ao k j > (H.add k j ⟨2,i,0,(H.tx i).of k⟩ b).1)))
noncomputable def Hs.az (i:Nat) (b:Nat->Bool):List Nat->Hs->Bool->Hs×Option Bool
 | [],H,c=>(H,Bs c)
 | k::ks,H,c=>match (H.aD i k (b k)).2 with
  | none=>((H.aD i k (b k)).1,B0)
  | some a=>Hs.az i b ks (H.aD i k (b k)).1 (c && a)
noncomputable def Hs.commit (H:Hs) (i:Nat):Hs:=(H.aw i { H.tx i with state:=3 }).aM i 3
def Hs.timed (H:Hs) (i:Nat):Hs:=if (H.tx i).ae=0 then { H.aw i { H.tx i with ae:=wrap64 (H.ae+1) } with ae:=wrap64 (H.ae+1) } else H
noncomputable def Hs.aB (H:Hs) (i:Nat) (b:Bool):Hs×Bool:=match H.head 2 with
 | none=>(H,Jx)
 | some j=>match place ((H.sh 2).nd j).log 3 i with
  | some p=>if H.ao 2 j<=p then(H,Jx) else(H.commit i,T2)
  | none=>
   if ((H.timed i).add 2 j ⟨3,i,((H.timed i).tx i).ae,[]⟩ b).1<0 then(((H.timed i).add 2 j ⟨3,i,((H.timed i).tx i).ae,[]⟩ b).2,Jx)
   else if ((H.timed i).add 2 j ⟨3,i,((H.timed i).tx i).ae,[]⟩ b).2.ao 2 j<=((H.timed i).add 2 j ⟨3,i,((H.timed i).tx i).ae,[]⟩ b).1 then(((H.timed i).add 2 j ⟨3,i,((H.timed i).tx i).ae,[]⟩ b).2,Jx)
   else(((H.timed i).add 2 j ⟨3,i,((H.timed i).tx i).ae,[]⟩ b).2.commit i,T2)
noncomputable def Hs.ends (H:Hs) (i:Nat) (b:Nat->Bool):Hs×Bool:=match (Hs.az i b (H.tx i).ai H T2).2 with
 | none=>((Hs.az i b (H.tx i).ai H T2).1,T2)
 | some Jx=>((Hs.az i b (H.tx i).ai H T2).1,Jx)
 | some T2=>(Hs.az i b (H.tx i).ai H T2).1.aB i (b 2)
noncomputable def Hs.ar (H:Hs) (i:Nat) (b:Nat->Bool):Hs×Bool:=
 if (H.tx i).state=2 then H.ends i b else if (H.tx i).state=3 then(H.aM i 3,Jx) else if (H.tx i).state=4 then(H.aM i 4,Jx) else(H,Jx)
noncomputable def Hs.round (bs:Nat->Nat->Bool):Nat->Nat->Hs×Bool->Hs×Bool
 | 0,_,r=>r
 | k+1,i,r=>Hs.round bs k (i+1) ((r.1.ar i (bs i)).1,(r.1.ar i (bs i)).2 || r.2)
inductive EU:Hs->Hs->Prop where
 | stop {H:Hs} (bs:Nat->Nat->Bool) (h:(Hs.round bs H.m 1 (H,Jx)).2=Jx):EU H (Hs.round bs H.m 1 (H,Jx)).1
 | more {H H':Hs} (bs:Nat->Nat->Bool) (h:(Hs.round bs H.m 1 (H,Jx)).2=T2) (r:EU (Hs.round bs H.m 1 (H,Jx)).1 H'):EU H H'
open Classical in
noncomputable def EV (h:Int->Option Int) (tx mode:Int):List Int:=((Wu 61).map Int.ofNat).filter fun o=>decide (tx<o/\∃ m,h o=Bs m/\AN m mode=T2)
noncomputable def Hs.aL (H:Hs) (o:Int):Hs:=if 1<=o/\o<=H.m/\(H.tx o.toNat).state=1 then H.abort o.toNat else H
def CM (l:List (Sx×Int)) (x:Sx):Bool:=l.any fun w=>w.1 == x
noncomputable def Hs.aR (H:Hs) (i:Nat) (x:Sx) (mode:Int):Int×Hs:=
 let T:=(H.sh (Ad x)).tab
 let a:=H.al (Ad x) { H.sh (Ad x) with tab:=An T i x mode }
 if CC (Ac T x).ws i then(9,a)
 else if As (Ac T x).h i mode (Ac T x).ws then(0,a)
 else if (Ac T x).ws.length=50 then(4,a)
 else
  let H2:=(EV (Ac T x).h i mode).foldl Hs.aL (a.aw i { a.tx i with af:=(a.tx i).af++[(x,mode)] })
  (if CM (H2.tx i).af x then 11 else 0,H2)
noncomputable def Hs.lock (H:Hs) (id:Int) (x:Sx) (mode:Int):Int×Hs:=
 if id<1\/H.m<id then(7,H)
 else if (H.tx id.toNat).state≠1 then(6,H)
 else if 20<x.length then(4,H)
 else if H.head (Ad x)=B0 then(12,H)
 else if ∃ e,(H.tx id.toNat).ad (Ad x)=Bs e/\e≠(H.sh (Ad x)).ab then(6,H.abort id.toNat)
 else
  let a:=H.aw id.toNat { H.tx id.toNat with ad:=AG (H.tx id.toNat).ad (Ad x) (H.sh (Ad x)).ab }
  if CM (a.tx id.toNat).af x then(11,a) else a.aR id.toNat x mode
noncomputable def Hs.get (H:Hs) (id:Int) (x:Sx):(Int×Sx×Bool)×Hs:=
 let r:=H.lock id x 1
 if r.1≠0 then((r.1,[],Jx),r.2)
 else match (r.2.tx id.toNat).aa.reverse.find? (fun p=>sx p.key == x) with
  | some p=>((0,sx p.val,!p.gone),r.2)
  | none=>((0,BL (Cf ((r.2.sh (Ad x)).sto x) 1099511627776)),r.2)
def BS (l:List Pr) (p:Pr):Option (List Pr):=match l.findIdx? (fun o=>o.key == p.key) with
 | some k=>Bs (l.set k p)
 | none=>if l.length=20 then B0 else Bs (l++[p])
noncomputable def Hs.put (H:Hs) (id:Int) (p:Pr):Int×Hs:=
 if 40<p.val.size then(4,H)
 else
  let r:=H.lock id (sx p.key) 2
  if r.1≠0 then(r.1,r.2)
  else match BS (r.2.tx id.toNat).aa ⟨p.key,if p.gone then⟨#[]⟩ else p.val,p.gone⟩ with
   | some l=>(0,r.2.aw id.toNat { r.2.tx id.toNat with aa:=l })
   | none=>(4,r.2)
def Hs.ending (H:Hs) (i:Nat):Hs:=H.aw i { H.tx i with state:=2,places:=fun k=>if ((H.tx i).ad k).isSome then Bs (-1) else(H.tx i).places k }
inductive Ie (H:Hs) (id:Int):Int->Hs->Prop where
 | missing (h:id<1\/H.m<id):Ie H id 7 H
 | state (h:1<=id/\id<=H.m) (h1:(H.tx id.toNat).state≠1):Ie H id 6 H
 | waits (h:1<=id/\id<=H.m) (h1:(H.tx id.toNat).state=1) (h2:(H.tx id.toNat).af≠[]):Ie H id 11 H
 | ends (h:1<=id/\id<=H.m) (h1:(H.tx id.toNat).state=1) (h2:(H.tx id.toNat).af=[]) {H':Hs} (r:EU (H.ending id.toNat) H'):Ie H id 0 H'
noncomputable def Hs.drop (H:Hs) (id:Int):Int×Hs:=
 if id<1\/H.m<id then(7,H) else if (H.tx id.toNat).state≠1 then(6,H) else(0,H.abort id.toNat)
def Bm:Bi:=⟨1,[],fun _=>B0,fun _=>B0,0,[]⟩
def Hs.begin (H:Hs):Hs:={ H with m:=H.m+1,tx:=Ae H.tx (H.m+1) Bm }
def Hs.state (H:Hs) (id:Int):Int:=if id<1\/H.m<id then 0 else(H.tx id.toNat).state
def Hs.node (H:Hs) (id:Int):Option (Nat×Nat):=
 ([0,1,2].flatMap fun s=>((H.sh s).aj H.n).map fun j=>(s,j)).find? fun q=>((H.sh q.1).nd q.2).id == id
noncomputable def Hs.arrive (H:Hs) (m:Ms):Hs:=match H.node m.a4 with
 | none=>H
 | some (s,j)=>((H.an s j (((H.sh s).nd j).step m).1).send (((H.sh s).nd j).step m).2).take s
inductive P0 (H:Hs) (k:Nat):Hs->Prop where
 | none (h:H.net.l.length<=k):P0 H k H
 | some {m:Ms} (h:H.net.l[k]? = Bs m) {H':Hs} (r:EU (({ H with net:=takeS H.net k } : Hs).arrive m) H'):P0 H k H'
def Hs.lose (H:Hs) (k:Nat):Hs:={ H with net:=takeS H.net k }
def Hs.twice (H:Hs) (k:Nat):Hs:=match H.net.l[k]? with
 | none=>H
 | some m=>{ H with net:=BA H.net m }
def Hs.aO (s:Nat) (H:Hs) (j:Nat):Hs:=(H.an s j ((H.sh s).nd j).tick.1).send ((H.sh s).nd j).tick.2
def Hs.aZ (H:Hs) (s:Nat):Hs:=((H.sh s).aj H.n).foldl (Hs.aO s) H
def Hs.bn (H:Hs):Hs:=[0,1,2].foldl Hs.aZ H
def EG (H H':Hs):Prop:=EU H.bn H'
inductive Tp:Nat->Hs->Hs->Prop where
 | zero (H:Hs):Tp 0 H H
 | none {k:Nat} {H:Hs} (h:H.net.l=[]):Tp k H H
 | more {k:Nat} {H H1 H':Hs} (h:H.net.l≠[]) (d:P0 H 0 H1) (r:Tp k H1 H'):Tp (k+1) H H'
inductive C6:Nat->Hs->Hs->Prop where
 | zero (H:Hs):C6 0 H H
 | more {k:Nat} {H H1 H2 H':Hs} (t:EG H H1) (d:Tp 5000 H1 H2) (r:C6 k H2 H'):C6 (k+1) H H'
def Hs.fail (H:Hs) (id:Int):Hs:=match H.node id with
 | none=>H
 | some (s,_)=>{ H.al s { H.sh s with ak:=fun i=>decide (i=id) || (H.sh s).ak i } with net:=EA H.net id }
def Hs.ay (s:Nat) (ids:List Int) (H:Hs) (j:Nat):Hs:=
 (H.an s j (((H.sh s).nd j).join (H.sh s).ab ids).tick.1).send (((H.sh s).nd j).join (H.sh s).ab ids).tick.2
def Bg.ids (n:Nat) (x:Bg):List Int:=(x.aj n).map fun j=>(x.nd j).id
noncomputable def Hs.aW (H:Hs) (s:Nat):Hs:=
 let l:=(H.sh s).aj H.n
 let a:=H.al s { H.sh s with ab:=wrap64 ((H.sh s).ab+1),size:=l.length }
 let H2:=l.foldl (Hs.ay s ((H.sh s).ids H.n)) a
 (H2.al s { H2.sh s with tab:=fun _=>B0,sto:=fun _=>[],done:=0 }).take s
noncomputable def Hs.fix (H:Hs) (s:Nat):Hs:=if (H.sh s).aj H.n=[] then H else H.aW s
def Bg.bH (n:Nat) (x:Bg):Bool:=match (x.aj n).head?,(x.aj n).getLast? with
 | some a,Bs b=>(x.nd a).head && (x.nd b).tail && ((x.aj n).length:Int) == x.size
 | _,_=>T2
noncomputable def Hs.aE (H:Hs) (s:Nat):Hs:=if (H.sh s).bH H.n then H else H.fix s
noncomputable def Hs.a5 (H:Hs) (i:Nat):Hs:=
 if (H.tx i).state=1/\∃ k∈(H.tx i).ai,(H.tx i).ad k≠Bs (H.sh k).ab then H.abort i else H
noncomputable def Hs.ba (H:Hs):Hs:=(WG 1 H.m).foldl Hs.a5 H
def Kz (H H':Hs):Prop:=EU ([0,1,2].foldl Hs.aE H).ba H'
def nd0 (id:Int):Nd:=Nd.fresh id
def CL (s:Nat):Bg:=⟨fun j=>nd0 (10*s+j),fun _=>Jx,0,0,fun _=>B0,fun _=>[],0⟩
def hsE (n:Nat):Hs:=⟨n,0,⟨[],fun _=>Jx⟩,CL,0,fun _=>Bm,0⟩
noncomputable def Hs.more (H:Hs):Hs:=({ H with c:=H.c+1 } : Hs).fix H.c
noncomputable def BD (n:Nat):Hs:=(hsE n).more.more.more
section
open Go.RowKit Go.Maps Go.WideMaps
section
variable {P:WQ} {kt:VQ} {κ:Type} {C:CQ P kt κ} {w w':B1} {b n:Nat} {m:κ->Option Hi}
open Classical in
theorem Aa.tight (h:Aa C w b n m) (l:List κ) (B:∀ x,C.ok x->m x≠B0->x∈l):Aa C w b l.length m:=by
 obtain⟨D,A,u⟩:=h;obtain⟨r,a,G,F,hs,z⟩:=A;refine⟨D,⟨r,a,G,F,?_,z⟩,u⟩;have i:=Maps.fit_apart C.law F;have c:r.size=(((r.toList.map (Go.WideElems.rg P kt CW))).map (·.1)).length:=by simp
 rw[c,<- Wh C.kl];refine WZ ?_ (fun I E=>?_)
 ·rw[List.Nodup,XA];exact i
 ·obtain⟨p,y,rfl⟩:=List.mem_map.1 E;obtain⟨v,f⟩:=Maps.fit_keys F p y;obtain⟨x,d,_,s⟩:=C.inv v _ f;refine List.mem_map.2 ⟨x,B x d (fun e=>?_),s.symm⟩;have q:=(u x d).1;rw[e] at q;have:Maps.has D (C.kl x)=T2:=by
   rw[z,has_eq,XU];exact⟨p,mem_sorted.2 y,by rw[<- s];exact WideAt.sameKey_self (by rw[s];exact C.key d)⟩
  rw[this] at q;cases q
end
end
inductive Tg where
 | hs|net|shr|txr
 | sb (s:Nat)|ndr (s:Nat)|dd (s:Nat)|tab (s:Nat)|sto (s:Nat)
 | nd (s j:Nat)|tx (i:Nat)|sm (i:Nat)
deriving DecidableEq
abbrev Ai:=Nat->Option Tg
structure Aw where
 g:Nat
 gs:Nat->Nat
 gn:Nat->Nat->Nat
 gt:Nat->Nat
def Ext (own own':Ai) (n:Nat):Prop:=∀ b,b<n->own' b=own b
def Di (own:Ai) (n n':Nat) (t:Tg):Ai:=fun b=>if b<n then own b else if b<n' then Bs t else B0
theorem FJ (own:Ai) (n n':Nat) (t:Tg):Ext own (Di own n n' t) n:=fun b h=>by unfold Di;rw[if_pos h]
theorem OU {own:Ai} {n n' b:Nat} {t:Tg} (c:n<=b) (a:b<n'):Di own n n' t b=Bs t:=by unfold Di;rw[if_neg (by omega),if_pos a]
theorem Rz {own:Ai} {n n' b:Nat} {t:Tg} (a:n<=n') (h:Di own n n' t b≠B0):b<n':=by
 unfold Di at h;split at h
 ·omega
 ·split at h
  ·assumption
  ·exact absurd rfl h
theorem Ext.refl (own:Ai) (n:Nat):Ext own own n:=fun _ _=>rfl
theorem Ext.trans {a b c:Ai} {n m:Nat} (h:Ext a b n) (k:Ext b c m) (f:n<=m):Ext a c n:=fun i d=>(k i (VH d f)).trans (h i d)
def OS (own:Ai) (Z:Tg->Prop) (b:Nat):Prop:=∃ t,own b=Bs t/\Z t
theorem OS.tag {own:Ai} {Z:Tg->Prop} {b:Nat} {t:Tg} (h:OS own Z b) (e:own b=Bs t):Z t:=by
 obtain⟨u,a,c⟩:=h;rw[e] at a;injection a with a;rw[a];exact c
def pw (g:Nat):Hi:=.pointer (Bs ⟨g,0,B0⟩)
def S5 (w:B1) (own:Ai) (t:Tg) (g:Nat) (d:Nd):Prop:=∃ C V L,BI w 0 g C V L d/\∀ b,CJ g C V L b->own b=Bs t
theorem S5.aJ {w w':B1} {own own':Ai} {Z:Tg->Prop} {t:Tg} {g:Nat} {d:Nd} (h:S5 w own t g d) (p:Fr (OS own Z) w w') (q:Ext own own' w.heap.size) (i:¬Z t):S5 w' own' t g d:=by
 obtain⟨C,V,L,f,c⟩:=h;exact⟨C,V,L,f.fr p (fun b a hs=>i (hs.tag (c b a))),fun b a=>(q b (f.av a).2).trans (c b a)⟩
structure NO where
 Vn:Hi
 bd:Nat
 mt:Option Nat
 cX:Sx->Av
 ms:Option Nat
 cY:Sx->Hi
def FC (v:NO) (x:Bg):Array Hi:=#[v.Vn,.map (Bs v.bd),.int .i64 x.ab,.int .i64 x.size,.map v.mt,.map v.ms,.int .i64 0,.int .i64 x.done]
def TG (dead:Int->Bool):Int->Option Hi:=fun i=>if dead i then Bs (.bool T2) else B0
structure D3 (w:B1) (own:Ai) (n s g:Nat) (gn:Nat->Nat) (v:NO) (x:Bg):Prop where
 row:w.ownsRow 0 108 1 v.Vn n ((Wu n).map fun j=>pw (gn j))
 br:∀ b,v.Vn.ownBlock=Bs b->own b=Bs (.ndr s)
 dd:Aa BC w v.bd 100 (TG x.ak)
 c5:own v.bd=Bs (.dd s)
 tab:AD w 0 100 g 4 105 (FC v x) v.mt v.cX x.tab
 bq:∀ b,AE v.mt v.cX x.tab b->own b=Bs (.tab s)
 sto:B8 w 0 100 g 5 105 (FC v x) v.ms v.cY x.sto 0
 b6:∀ b,Dz v.ms v.cY x.sto b->own b=Bs (.sto s)
 gt:own g=Bs (.sb s)
def Qi (w:B1) (own:Ai) (n s g:Nat) (gn:Nat->Nat) (x:Bg):Prop:=∃ v,D3 w own n s g gn v x
def Df (s:Nat) (t:Tg):Prop:=t=.sb s\/t=.ndr s\/t=.dd s\/t=.tab s\/t=.sto s
theorem D3.aJ {w w':B1} {own own':Ai} {Z:Tg->Prop} {n s g:Nat} {gn:Nat->Nat} {v:NO} {x:Bg} (h:D3 w own n s g gn v x) (i:Fr (OS own Z) w w') (f:Ext own own' w.heap.size) (c:∀ t,Df s t->¬Z t):D3 w' own' n s g gn v x:=by
 have d:¬OS own Z g:=fun hs=>c _ (.inl rfl) (hs.tag h.gt)
 exact⟨i.own h.row (fun b a hs=>c _ (.inr (.inl rfl)) (hs.tag (h.br b a))),fun b a=>(f b (h.row.lt b a).2).trans (h.br b a),
  h.dd.fr i (fun hs=>c _ (.inr (.inr (.inl rfl))) (hs.tag h.c5)),(f _ h.dd.lt).trans h.c5,
  h.tab.fr i d (fun b a hs=>c _ (.inr (.inr (.inr (.inl rfl)))) (hs.tag (h.bq b a))),fun b a=>(f b (h.tab.av a).2).trans (h.bq b a),
  h.sto.fr i (fun b a hs=>a.elim (fun e=>d (e▸hs)) (fun a=>c _ (.inr (.inr (.inr (.inr rfl)))) (hs.tag (h.b6 b a)))),fun b a=>(f b (h.sto.av (.inr a)).2).trans (h.b6 b a),
  (f g h.tab.ah.lt).trans h.gt⟩
theorem Qi.aJ {w w':B1} {own own':Ai} {Z:Tg->Prop} {n s g:Nat} {gn:Nat->Nat} {x:Bg} (h:Qi w own n s g gn x) (c:Fr (OS own Z) w w') (d:Ext own own' w.heap.size) (a:∀ t,Df s t->¬Z t):Qi w' own' n s g gn x:=by
 obtain⟨v,h⟩:=h;exact⟨v,h.aJ c d a⟩
def Ei (a:Sx×Int):List Hi:=[.string ⟨a.1.toArray⟩,.int .i64 a.2]
def Db (f:Int->Option Int):Int->Option Hi:=fun i=>(f i).map (Wi .i64)
structure KN where
 Vw:Hi
 bs:Nat
 bp:Nat
 bt:Hi
 dc:Hi
 Vx:Hi
def OE (v:KN) (i:Nat) (t:Bi):Array Hi:=#[.int .i64 i,.int .i64 t.state,v.Vw,.map (Bs v.bs),.map (Bs v.bp),.int .i64 t.ae,v.dc,v.bt,v.Vx]
structure Cx (w:B1) (own:Ai) (i g:Nat) (v:KN) (t:Bi):Prop where
 ah:Ab w g 78 (OE v i t)
 aa:w.ownsRow 0 45 3 v.Vw t.aa.length (t.aa.flatMap C9)
 ad:Aa BC w v.bs 100 (Db t.ad)
 places:Aa BC w v.bp 100 (Db t.places)
 af:w.ownsRow 0 129 2 v.Vx t.af.length (t.af.flatMap Ei)
 ne:v.bs≠v.bp
 gt:own g=Bs (.tx i)
 wt:∀ b,v.Vw.ownBlock=Bs b->own b=Bs (.tx i)
 st:own v.bs=Bs (.tx i)\/own v.bs=Bs (.sm i)
 pt:own v.bp=Bs (.tx i)
 xt:∀ b,v.Vx.ownBlock=Bs b->own b=Bs (.tx i)
def TH (w:B1) (own:Ai) (i g:Nat) (t:Bi):Prop:=∃ v,Cx w own i g v t
theorem Cx.aJ {w w':B1} {own own':Ai} {Z:Tg->Prop} {i g:Nat} {v:KN} {t:Bi} (h:Cx w own i g v t) (d:Fr (OS own Z) w w') (c:Ext own own' w.heap.size) (r:¬Z (.tx i)) (p:¬Z (.sm i)):Cx w' own' i g v t:=by
 have f:∀ b,own b=Bs (.tx i)->¬OS own Z b:=fun b a hs=>r (hs.tag a)
 have q:¬OS own Z v.bs:=fun hs=>h.st.elim (fun e=>r (hs.tag e)) (fun e=>p (hs.tag e))
 exact⟨d.ah h.ah (f _ h.gt),d.own h.aa (fun b a=>f b (h.wt b a)),h.ad.fr d q,h.places.fr d (f _ h.pt),d.own h.af (fun b a=>f b (h.xt b a)),h.ne,
  (c _ h.ah.lt).trans h.gt,fun b a=>(c b (h.aa.lt b a).2).trans (h.wt b a),h.st.imp (fun e=>(c _ h.ad.lt).trans e) (fun e=>(c _ h.ad.lt).trans e),(c _ h.places.lt).trans h.pt,fun b a=>(c b (h.af.lt b a).2).trans (h.xt b a)⟩
theorem TH.aJ {w w':B1} {own own':Ai} {Z:Tg->Prop} {i g:Nat} {t:Bi} (h:TH w own i g t) (d:Fr (OS own Z) w w') (f:Ext own own' w.heap.size) (c:¬Z (.tx i)) (a:¬Z (.sm i)):TH w' own' i g t:=by
 obtain⟨v,h⟩:=h;exact⟨v,h.aJ d f c a⟩
structure KO where
 Vn:Hi
 D:Option Nat
 L:List AT
 lost:Int
 Vr:Hi
 Vt:Hi
def OD (v:KO) (time:Int):Array Hi:=#[v.Vn,.map v.D,.int .i64 v.lost,v.Vr,v.Vt,.int .i64 time]
def Fb (v:KO) (b:Nat):Prop:=v.Vn.ownBlock=Bs b\/v.D=Bs b\/∃ x∈v.L,(WI x.A x.n x.k).ownBlock=Bs b
structure En (w:B1) (own:Ai) (P:Aw) (c m:Nat) (net:Bk) (time:Int) (v:KO):Prop where
 nt:AJ w 0 P.g 0 92 (OD v time) v.Vn v.D 100 v.L net.ak v.lost
 msgs:AH v.L=net.l
 aV:∀ b,Fb v b->own b=Bs .net
 bf:∀ x∈v.L,x.n<=100000
 shr:w.ownsRow 0 80 1 v.Vr c ((Wu c).map fun s=>pw (P.gs s))
 bm:∀ b,v.Vr.ownBlock=Bs b->own b=Bs .shr
 txr:w.ownsRow 0 74 1 v.Vt m ((WG 1 m).map fun i=>pw (P.gt i))
 bh:∀ b,v.Vt.ownBlock=Bs b->own b=Bs .txr
 gt:own P.g=Bs .hs
def HsC (w:B1) (own:Ai) (P:Aw) (c m:Nat) (net:Bk) (time:Int):Prop:=∃ v,En w own P c m net time v
def Nz (t:Tg):Prop:=t=.hs\/t=.net\/t=.shr\/t=.txr
theorem AJ.av {w:B1} {base g off nd:Nat} {T:VQ} {cs:Array Hi} {V:Hi} {D:Option Nat} {L:List AT} {dead:Int->Bool} {lost:Int} (h:AJ w base g off T cs V D nd L dead lost) {b:Nat} (a:V.ownBlock=Bs b\/D=Bs b\/∃ x∈L,(WI x.A x.n x.k).ownBlock=Bs b):b<w.heap.size:=by
 rcases a with a|a|⟨x,c,a⟩
 ·exact h.vlt a
 ·have:=h.down;rw[a] at this;exact this.lt
 ·exact((h.own x c).1.lt b a).2
theorem AJ.frF {w w':B1} {S:Nat->Prop} {base g off nd:Nat} {T:VQ} {cs:Array Hi} {V:Hi} {D:Option Nat} {L:List AT} {dead:Int->Bool} {lost:Int} (h:AJ w base g off T cs V D nd L dead lost) (a:Fr S w w') (i:¬S g) (f:∀ b,(V.ownBlock=Bs b\/D=Bs b\/∃ x∈L,(WI x.A x.n x.k).ownBlock=Bs b)->¬S b):AJ w' base g off T cs V D nd L dead lost:=
 ⟨a.ah h.ah i,h.c0,h.c1,h.c2,a.own h.row (fun b c=>f b (.inl c)),fun x d=>⟨a.own (h.own x d).1 (fun b c=>f b (.inr (.inr ⟨x,d,c⟩))),(h.own x d).2⟩,h.down.fr a (fun b c=>f b (.inr (.inl c))),h.len,h.ne,VO h.bg a.size⟩
theorem En.aJ {w w':B1} {own own':Ai} {Z:Tg->Prop} {P:Aw} {c m:Nat} {net:Bk} {time:Int} {v:KO} (h:En w own P c m net time v) (i:Fr (OS own Z) w w') (f:Ext own own' w.heap.size) (d:∀ t,Nz t->¬Z t):En w' own' P c m net time v:=
 ⟨h.nt.frF i (fun hs=>d _ (.inl rfl) (hs.tag h.gt)) (fun b a hs=>d _ (.inr (.inl rfl)) (hs.tag (h.aV b a))),h.msgs,fun b a=>(f b (h.nt.av a)).trans (h.aV b a),h.bf,
  i.own h.shr (fun b a hs=>d _ (.inr (.inr (.inl rfl))) (hs.tag (h.bm b a))),fun b a=>(f b (h.shr.lt b a).2).trans (h.bm b a),
  i.own h.txr (fun b a hs=>d _ (.inr (.inr (.inr rfl))) (hs.tag (h.bh b a))),fun b a=>(f b (h.txr.lt b a).2).trans (h.bh b a),(f _ h.nt.ah.lt).trans h.gt⟩
theorem HsC.aJ {w w':B1} {own own':Ai} {Z:Tg->Prop} {P:Aw} {c m:Nat} {net:Bk} {time:Int} (h:HsC w own P c m net time) (d:Fr (OS own Z) w w') (f:Ext own own' w.heap.size) (a:∀ t,Nz t->¬Z t):HsC w' own' P c m net time:=by
 obtain⟨v,h⟩:=h;exact⟨v,h.aJ d f a⟩
structure HI (w:B1) (own:Ai) (P:Aw) (H:Hs):Prop where
 lt:∀ b,own b≠B0->b<w.heap.size
 hs:HsC w own P H.c H.m H.net H.ae
 sh:∀ s,s<H.c->Qi w own H.n s (P.gs s) (P.gn s) (H.sh s)
 nd:∀ s j,s<H.c->j<H.n->S5 w own (.nd s j) (P.gn s j) ((H.sh s).nd j)
 tx:∀ i,1<=i->i<=H.m->TH w own i (P.gt i) (H.tx i)
structure HZ (Z:Tg->Prop) (w:B1) (own:Ai) (w':B1) (own':Ai):Prop where
 ext:Ext own own' w.heap.size
 fr:Fr (OS own Z) w w'
 sm:∀ b i,own' b=Bs (.sm i)->own b=Bs (.sm i)
def BN (t:Tg):Prop:=t≠.txr/\t≠.shr/\∀ i,t≠.sm i
def El (own:Ai):Prop:=∀ b i,own b≠Bs (.sm i)
abbrev AA:=HZ BN
theorem HZ.refl (Z:Tg->Prop) (w:B1) (own:Ai):HZ Z w own w own:=⟨Ext.refl _ _,Fr.refl _ _,fun _ _ h=>h⟩
theorem HZ.mono {Z Z':Tg->Prop} {w w':B1} {own own':Ai} (h:HZ Z w own w' own') (c:∀ t,Z t->Z' t):HZ Z' w own w' own':=⟨h.ext,h.fr.mono (fun _ _ ⟨t,a,b⟩=>⟨t,a,c t b⟩),h.sm⟩
theorem HZ.trans {Z:Tg->Prop} {w p f:B1} {own d c:Ai} (h:HZ Z w own p d) (k:HZ Z p d f c):HZ Z w own f c:=
 ⟨h.ext.trans k.ext h.fr.size,h.fr.trans' k.fr (fun i q ⟨t,a,b⟩=>⟨t,by rw[<- h.ext i q];exact a,b⟩),fun b i e=>h.sm b i (k.sm b i e)⟩
theorem HZ.cT {Z:Tg->Prop} {w w':B1} {own own':Ai} (h:HZ Z w own w' own') (a:El own):El own':=fun b i e=>a b i (h.sm b i e)
theorem OS.owned {own:Ai} {Z:Tg->Prop} {b:Nat} (h:OS own Z b):own b≠B0:=by obtain⟨t,h,_⟩:=h;rw[h];simp
theorem q5t {w w':B1} (own:Ai) (a:VJ w.heap.size w w'):Fr (OS own (fun _=>False)) w w':=⟨a.os,a.tape,a.output,a.size,fun k c _=>a.block k c⟩
section
variable {w w':B1} {own own':Ai} {P:Aw} {H:Hs}
theorem HI.below (h:HI w own P H) (d:VJ w.heap.size w w'):HI w' own P H:=
 have a:=q5t own d;have c:=Ext.refl own w.heap.size
 ⟨fun b f=>VH (h.lt b f) d.size,h.hs.aJ a c (fun _ _ h=>h),fun s hs=>(h.sh s hs).aJ a c (fun _ _ h=>h),fun s j hs p=>(h.nd s j hs p).aJ a c (fun h=>h),fun i r q=>(h.tx i r q).aJ a c (fun h=>h) (fun h=>h)⟩
theorem HZ.below {Z:Tg->Prop} (own:Ai) (c:VJ w.heap.size w w'):HZ Z w own w' own:=⟨Ext.refl _ _,(q5t own c).mono (fun _ _ ⟨t,a,b⟩=>⟨t,a,b.elim⟩),fun _ _ h=>h⟩
theorem En.cells {c m:Nat} {net:Bk} {time:Int} {v:KO} (h:En w own P c m net time v):w.cell? ⟨P.g,0,B0⟩=Bs v.Vn/\w.cell? ⟨P.g,3,B0⟩=Bs v.Vr/\w.cell? ⟨P.g,4,B0⟩=Bs v.Vt/\w.cell? ⟨P.g,5,B0⟩=Bs (.int .i64 time)/\P.g<w.heap.size:=by
 have i:=h.nt.ah.cell 0;have f:=h.nt.ah.cell 3;have d:=h.nt.ah.cell 4;have a:=h.nt.ah.cell 5;unfold OD at i f d a;simp only[Ft,D0,N2] at i f d a;exact⟨i,f,d,a,h.nt.ah.lt⟩
theorem Tw {base k n:Nat} {e:VQ} {V:Hi} {xs:List Hi} (h:w.ownsRow base e 1 V n xs) (i:k<n):∃ g c,V=.slice (Bs ⟨g,0,B0⟩) n c/\g<w.heap.size/\∃ u,xs[k]? = Bs u/\w.cell? ⟨g,k,B0⟩=Bs u:=by
 obtain⟨A,c,rfl,_,_⟩:=AK h;obtain⟨g,off,u,rfl,p,f,d⟩:=(Rd.au h).bQ i;rcases h.2 with ⟨a,_⟩|⟨r,cap,q,a,_⟩
 ·cases a
 ·injection a with a _ _;injection a with a;injection a with a h2 _;subst h2;exact⟨g,c,rfl,p,u,f,by rw[Wg] at d;exact d⟩
theorem En.txAt {c m:Nat} {net:Bk} {time:Int} {v:KO} (h:En w own P c m net time v) {i:Nat} (q:1<=i) (p:i<=m):∃ g k,v.Vt=.slice (Bs ⟨g,0,B0⟩) m k/\g<w.heap.size/\w.cell? ⟨g,i-1,B0⟩=Bs (pw (P.gt i)):=by
 obtain⟨g,k,e,d,u,a,f⟩:=Tw h.txr (k:=i-1) (by omega);refine⟨g,k,e,d,?_⟩;rw[VT,List.getElem?_range' (by omega)] at a;simp only[Wv,VN] at a;rw[f,<- a,show 1+1*(i-1)=i by omega]
theorem En.bR {c m:Nat} {net:Bk} {time:Int} {v:KO} (h:En w own P c m net time v) {s:Nat} (hs:s<c):∃ g k,v.Vr=.slice (Bs ⟨g,0,B0⟩) c k/\g<w.heap.size/\w.cell? ⟨g,s,B0⟩=Bs (pw (P.gs s)):=by
 obtain⟨g,k,e,d,u,a,f⟩:=Tw h.shr (k:=s) (by omega);refine⟨g,k,e,d,?_⟩;rw[VT,List.getElem?_range (by omega)] at a;simp only[Wv,VN] at a;rw[f,<- a]
def Ec (P:Aw) (m:Nat) (id:Int):Hi:=if id<1\/m<id then .pointer B0 else pw (P.gt id.toNat)
theorem q4s (h:HI w own P H) (q:H.m<=1000) (id:Int):VX Tryz.prog 34 #[pw P.g,.int .i64 id] w fun e w'=>e=.returned (Ec P H.m id)/\w=w':=by
 obtain⟨v,h⟩:=h.hs;obtain⟨_,_,d,_,u⟩:=h.cells;unfold Ec pw;by_cases b1:id<1
 ·rw[if_pos (.inl b1)];have d1:decide (id<1)=T2:=decide_eq_true b1;clear d h;go_enter Tryz.func34,Tryz.ntmps34;go_wp2_with fail;go_ret;exact⟨rfl,rfl⟩
 ·have d1:decide (id<1)=Jx:=decide_eq_false b1;by_cases b2:(H.m:Int)<id
  ·rw[if_pos (.inr b2)];have d2:decide (id > (H.m:Int))=T2:=decide_eq_true b2;obtain⟨A,c,a,_,_⟩:=AK h.txr;rw[a] at d;clear h a;go_enter Tryz.func34,Tryz.ntmps34;go_wp2_with fail;go_ret;exact⟨rfl,rfl⟩
  ·rw[if_neg (by omega)];have d2:decide (id > (H.m:Int))=Jx:=decide_eq_false b2;obtain⟨i,rfl⟩:∃ i:Nat,id=i:=⟨id.toNat,by omega⟩
   obtain⟨g,k,a,s,f⟩:=h.txAt (i:=i) (by omega) (by omega);rw[a] at d;rw[show((i:Int)).toNat=i from rfl];obtain⟨j,rfl⟩:∃ j,i=j+1:=⟨i-1,by omega⟩
   have p:IntKind.i64.wrap (((j+1:Nat):Int)-1)=(j:Int):=by rw[V8 _ ⟨by omega,by omega⟩];omega
   rw[W1] at f;unfold pw at f;have r:j<H.m:=by omega
   clear h a;go_enter Tryz.func34,Tryz.ntmps34;go_wp2_with fail;go_ret;exact⟨rfl,rfl⟩
theorem HI.setTx' (h:HI w own P H) {i:Nat} {t':Bi} (d:Fr (OS own (fun t=>t=.tx i)) w w') (f:Ext own own' w.heap.size) (p:∀ b,own' b≠B0->b<w'.heap.size)
  (a:TH w' own' i (P.gt i) t'):HI w' own' P (H.aw i t'):=by
 refine⟨p,h.hs.aJ d f (fun t a=>by rintro rfl;rcases a with h|h|h|h <;> cases h),fun s hs=>(h.sh s hs).aJ d f (fun t a=>by rintro rfl;rcases a with h|h|h|h|h <;> cases h),fun s j hs q=>(h.nd s j hs q).aJ d f (by simp),fun k u r=>?_⟩;show TH w' own' k (P.gt k) (Ae H.tx i t' k);by_cases e:k=i
 ·subst e;rw[Ay];exact a
 ·rw[AF e];exact(h.tx k u r).aJ d f (fun c=>by injection c with c;exact e c) (fun c=>by cases c)
theorem HI.setSh' (h:HI w own P H) {s:Nat} {x':Bg} (i:x'.nd=(H.sh s).nd) (c:Fr (OS own (Df s)) w w') (d:Ext own own' w.heap.size) (p:∀ b,own' b≠B0->b<w'.heap.size)
  (r:Qi w' own' H.n s (P.gs s) (P.gn s) x'):HI w' own' P (H.al s x'):=by
 refine⟨p,h.hs.aJ c d (fun t f a=>by rcases f with h|h|h|h <;> subst h <;> rcases a with h|h|h|h|h <;> cases h),fun k q=>?_,fun k j q u=>?_,fun k y v=>(h.tx k y v).aJ c d (fun a=>by rcases a with h|h|h|h|h <;> cases h) (fun a=>by rcases a with h|h|h|h|h <;> cases h)⟩
 ·show Qi w' own' H.n k (P.gs k) (P.gn k) (Ae H.sh s x' k);by_cases e:k=s
  ·subst e;rw[Ay];exact r
  ·rw[AF e];exact(h.sh k q).aJ c d (fun t f a=>by rcases f with h|h|h|h|h <;> subst h <;> rcases a with h|h|h|h|h <;> first|(injection h with h;exact e h)|cases h)
 ·have:=(h.nd k j q u).aJ c d (fun a=>by rcases a with h|h|h|h|h <;> cases h);show S5 w' own' (.nd k j) (P.gn k j) ((Ae H.sh s x' k).nd j);by_cases e:k=s
  ·subst e;rw[Ay,i];exact this
  ·rw[AF e];exact this
theorem Qi.an {n s g:Nat} {gn:Nat->Nat} {x:Bg} (h:Qi w own n s g gn x) (f:Nat->Nd):Qi w own n s g gn { x with nd:=f }:=by
 obtain⟨v,h⟩:=h;exact⟨v,h.row,h.br,h.dd,h.c5,h.tab,h.bq,h.sto,h.b6,h.gt⟩
theorem HI.setNd' (h:HI w own P H) {s j:Nat} {f:Nd} (c:Fr (OS own (fun t=>t=.nd s j)) w w') (d:Ext own own' w.heap.size) (r:∀ b,own' b≠B0->b<w'.heap.size)
  (y:S5 w' own' (.nd s j) (P.gn s j) f):HI w' own' P (H.an s j f):=by
 refine⟨r,h.hs.aJ c d (fun t q=>by rintro rfl;rcases q with h|h|h|h <;> cases h),fun k p=>?_,fun k i p v=>?_,fun k A z=>(h.tx k A z).aJ c d (by simp) (by simp)⟩
 ·have:=(h.sh k p).aJ c d (fun t q=>by rintro rfl;rcases q with h|h|h|h|h <;> cases h);show Qi w' own' H.n k (P.gs k) (P.gn k) (Ae H.sh s { H.sh s with nd:=Ae (H.sh s).nd j f } k);by_cases e:k=s
  ·subst e;rw[Ay];exact this.an _
  ·rw[AF e];exact this
 ·show S5 w' own' (.nd k i) (P.gn k i) ((Ae H.sh s { H.sh s with nd:=Ae (H.sh s).nd j f } k).nd i);by_cases e:k=s
  ·subst e;rw[Ay];show S5 w' own' (.nd k i) (P.gn k i) (Ae (H.sh k).nd j f i);by_cases u:i=j
   ·subst u;rw[Ay];exact y
   ·rw[AF u];exact(h.nd k i p v).aJ c d (fun a=>by injection a with _ a;exact u a)
  ·rw[AF e];exact(h.nd k i p v).aJ c d (fun a=>by injection a with a;exact e a)
theorem HI.setHs' (h:HI w own P H) {net':Bk} {time':Int} (f:Fr (OS own Nz) w w') (i:Ext own own' w.heap.size) (c:∀ b,own' b≠B0->b<w'.heap.size)
  (p:HsC w' own' P H.c H.m net' time'):HI w' own' P { H with net:=net',ae:=time' }:=
 ⟨c,p,fun k d=>(h.sh k d).aJ f i (fun t q a=>by rcases q with h|h|h|h|h <;> subst h <;> rcases a with h|h|h|h <;> cases h),
  fun k j d r=>(h.nd k j d r).aJ f i (fun a=>by rcases a with h|h|h|h <;> cases h),fun k u s=>(h.tx k u s).aJ f i (fun a=>by rcases a with h|h|h|h <;> cases h) (fun a=>by rcases a with h|h|h|h <;> cases h)⟩
theorem HI.cC (h:HI w own P H) (f:Nat->Bi) (d:∀ i,1<=i->i<=H.m->f i=H.tx i):HI w own P { H with tx:=f }:=
 ⟨h.lt,h.hs,h.sh,h.nd,fun i c a=>by show TH w own i (P.gt i) (f i);rw[d i c a];exact h.tx i c a⟩
end
def names:List Sx:=[[97],[98],[99],[100]]
theorem KJ {x:Sx} (h:x∈names):x.length<=20:=by
 unfold names at h;simp only[XZ,XS,or_false] at h;rcases h with rfl|rfl|rfl|rfl <;> decide
structure EE (k:Kx):Prop where
 hold:∀ o m,k.h o=Bs m->1<=o/\o<=60
 wait:∀ w∈k.ws,1<=w.1/\w.1<=60
 sort:k.ws.Pairwise (·.1 < ·.1)
def Dn (T:Tb):Prop:=∀ x k,T x=Bs k->x∈names/\EE k
theorem Dn.none_:Dn (fun _=>B0):=fun _ _ h=>by cases h
theorem EE.zero:EE k0:=⟨fun _ _ h=>(nomatch h),fun _ h=>(nomatch h),Yj⟩
theorem Dn.at_ {T:Tb} (h:Dn T) (x:Sx):EE (Ac T x):=by
 unfold Ac;cases e:T x with
 | none=>exact EE.zero
 | some k=>exact(h x k e).2
theorem q7m (ok:Int->Prop):∀ (ws left:List (Int×Int)) (h:Int->Option Int),(∀ o m,h o=Bs m->ok o)->(∀ w∈left++ws,ok w.1)->(left++ws).Pairwise (·.1 < ·.1)->
  (∀ o m,(DU h left ws).1 o=Bs m->ok o)/\(∀ w∈(DU h left ws).2.1,w∈left++ws)/\(DU h left ws).2.1.Pairwise (·.1 < ·.1)
 | [],left,h,p,_,i=>by rw[q2h];exact⟨p,fun w r=>List.mem_append_left _ r,by simpa using i⟩
 | w::ws,left,h,p,h2,i=>by
  rcases q:As h w.1 w.2 left with _|_
  ·rw[q7n q];have e:left++w::ws=(left++[w])++ws:=by simp
   rw[e] at h2 i;obtain⟨a,b,c⟩:=q7m ok ws (left++[w]) h p h2 i;exact⟨a,fun v f=>by rw[e];exact b v f,c⟩
  ·rw[q63 q];have d:(left++ws).Sublist (left++w::ws):=List.Sublist.append_left (List.sublist_cons_self _ _) left;obtain⟨a,b,c⟩:=q7m ok ws left (Aj h w.1 w.2) (fun o m e=>by
    unfold Aj AW at e;split at e
    ·rename_i e1;rw[e1];exact h2 w (by simp)
    ·exact p o m e) (fun v f=>h2 v (d.subset f)) (i.sublist d)
   exact⟨a,fun v f=>d.subset (b v f),c⟩
theorem EE.rel {k:Kx} (h:EE k) (tx:Int):EE (BV k tx).1:=by
 have hs:(AC k.ws tx).Sublist k.ws:=List.filter_sublist;obtain⟨a,b,c⟩:=q7m (fun o=>1<=o/\o<=60) (AC k.ws tx) [] (AW k.h tx B0) (fun o m e=>by
  unfold AW at e;split at e
  ·cases e
  ·exact h.hold o m e) (fun w d=>h.wait w (hs.subset (by simpa using d))) (by simpa using h.sort.sublist hs)
 exact⟨a,fun w d=>h.wait w (hs.subset (by simpa using b w d)),c⟩
theorem Dn.rel {T:Tb} (h:Dn T) (tx:Int):Dn (Bh T tx):=fun x k c=>by
 unfold Bh at c;cases e:T x with
 | none=>rw[e] at c;cases c
 | some k0=>
  rw[e] at c;have a:Eh k0 tx=Bs k:=c;unfold Eh at a;split at a
  ·cases a
  ·injection a with a;rw[<- a];exact⟨(h x k0 e).1,(h x k0 e).2.rel tx⟩
theorem Dn.put {T:Tb} (h:Dn T) {x:Sx} {k:Kx} (a:x∈names) (c:EE k):Dn (Ap T x (Bs k)):=fun y k' e=>by
 unfold Ap at e;split at e
 ·rename_i e1;injection e with e;rw[e1,<- e];exact⟨a,c⟩
 ·exact h y k' e
theorem Dn.lock {T:Tb} (h:Dn T) {tx:Int} (i:1<=tx/\tx<=60) {x:Sx} (f:x∈names) (mode:Int):Dn (An T tx x mode):=by
 have c:=h.at_ x;unfold An;rcases d:CC (Ac T x).ws tx with _|_
 ·rw[if_neg (by simp)];rcases q:As (Ac T x).h tx mode (Ac T x).ws with _|_
  ·rw[if_neg (by simp)];split
   ·exact h
   ·refine h.put f ⟨c.hold,fun w a=>?_,q6a c.sort (fun v p=>?_)⟩
    ·rcases q4r.1 a with rfl|a
     ·exact i
     ·exact c.wait w a
    ·unfold CC at d;rw[List.any_eq_false] at d;have:=d v p;simpa using this
  ·rw[if_pos rfl];refine h.put f ⟨fun o m e=>?_,c.wait,c.sort⟩;have e:Aj (Ac T x).h tx mode o=Bs m:=e;unfold Aj AW at e;split at e
   ·rename_i e1;rw[e1];exact i
   ·exact c.hold o m e
 ·rw[if_pos rfl];exact h
def DC:List Int:=(Wu 61).map Int.ofNat
theorem Qa {o:Int} (c:0<=o) (a:o<=60):o∈DC:=List.mem_map.2 ⟨o.toNat,List.mem_range.2 (by omega),by show(o.toNat:Int)=o;omega⟩
theorem Uq:DC.length=61:=by unfold DC;simp
def bs4:List ByteArray:=names.map fun x=>⟨x.toArray⟩
theorem NH {s:ByteArray} (h:sx s∈names):s∈bs4:=List.mem_map.2 ⟨sx s,h,Ju s⟩
section
variable {w w':B1} {base n g off:Nat} {ty:VQ} {cs:Array Hi}
theorem AD.tight {mb:Option Nat} {loc:Sx->Av} {T:Tb} (h:AD w base n g off ty cs mb loc T) (f:Dn T):AD w base 100 g off ty cs mb loc T:=by
 refine⟨h.ah,h.c0,?_,fun x k i=>?_,h.apart,h.small,h.ne,h.cA,h.bT,h.bg⟩
 ·have d:=h.map;unfold Kr at d ⊢;rcases mb with _|b
  ·exact d
  ·refine(Aa.tight (C:=kS) d bs4 (fun s _ hs=>NH ?_)).mono (by decide);unfold Bb at hs;cases e:T (sx s) with
   | none=>rw[e] at hs;exact absurd rfl hs
   | some k=>exact(f _ _ e).1
 ·have a:=h.keys x k i;have c:=(f x k i).2;refine⟨a.ah,(a.holds.tight DC (fun o _ p=>?_)).mono (by rw[Uq];omega),a.row,a.log,a.loh,a.cM,a.okw,a.len⟩;cases e:k.h o with
  | none=>exact absurd (by unfold hM;rw[e];rfl) p
  | some m=>have:=c.hold o m e;exact Qa (by omega) this.2
def Do (K:Kp):Prop:=∀ x v,v∈K x->x∈names/\0<=v.t/\v.t<=60
theorem Do.none_:Do (fun _=>[]):=fun _ _ h=>by cases h
theorem Do.len {K:Kp} (h:Do K) (hs:∀ x,FB (K x)) (x:Sx):(K x).length<=61:=by
 have c:((K x).map (·.t)).length<=DC.length:=by
  refine WZ ?_ (fun t d=>?_)
  ·rw[List.Nodup,XA];exact(hs x).imp (fun h e=>by omega)
  ·obtain⟨v,a,rfl⟩:=List.mem_map.1 d;exact Qa (h x v a).2.1 (h x v a).2.2
 rw[Wh,Uq] at c;exact c
theorem B8.tight {mb:Option Nat} {loc:Sx->Hi} {K:Kp} {low:Int} (h:B8 w base n g off ty cs mb loc K low) (c:Do K):B8 w base 100 g off ty cs mb loc K low:=by
 refine⟨h.ah,h.c0,h.c1,h.ne,?_,h.rows,h.apart,h.small,h.times,h.sorted,fun x=>VO (c.len h.sorted x) (by omega),h.cH,h.cV,h.cA,h.lo⟩;have a:=h.map;unfold StM at a ⊢;rcases mb with _|b
 ·exact a
 ·refine(Aa.tight (C:=kV) a bs4 (fun s _ hs=>NH ?_)).mono (by decide);unfold Ef at hs;rcases e:K (sx s) with _|⟨v,l⟩
  ·rw[e] at hs;exact absurd rfl hs
  ·exact(c (sx s) v (by rw[e];exact VL ..)).1
theorem Do.put {K:Kp} (h:Do K) {r:Rx} (c:r.key∈names) (f:0<=r.t) (d:r.t<=60):Do (Ct K 0 r).2:=by
 unfold Ct;split
 ·exact h
 ·split
  ·exact h
  ·split
   ·exact h
   ·split
    ·exact h
    ·intro x v a;have a:v∈BX K r.key (Cu (K r.key) (Im r)) x:=a;unfold BX at a;split at a
     ·rename_i e;rw[e];rcases q6x.1 a with rfl|a
      ·exact⟨c,f,d⟩
      ·exact h _ v a
     ·exact h x v a
def SO (p:Pr):Prop:=sx p.key∈names/\p.val.size<=40
theorem Do.puts {t:Int} (c:0<=t) (a:t<=60):∀ (ps:List Pr) {K:Kp},Do K->(∀ p∈ps,SO p)->Do (CV K t ps)
 | [],_,h,_=>h
 | p::ps,K,h,hp=>Do.puts c a ps (h.put (r:=⟨sx p.key,sx p.val,p.gone,t⟩) (hp p (VL ..)).1 c a) (fun q d=>hp q (VM _ d))
structure D2 (c:Cm):Prop where
 tx:1<=c.tx/\c.tx<=60
 ae:0<=c.ae/\c.ae<=60
 bf:c.aa.length<=20
 ps:∀ p∈c.aa,SO p
theorem Do.comm {c:Cm} (d:D2 c):∀ (l:List Cm) {K:Kp},Do K->(∀ a∈l,D2 a)->Do (Bc K l c)
 | [],_,h,_=>h
 | a::l,K,h,hl=>by
  show Do (Bc (if a.ag=2/\a.tx=c.tx then CV K c.ae a.aa else K) l c);refine Do.comm d l ?_ (fun b f=>hl b (VM _ f));split
  ·exact Do.puts d.ae.1 d.ae.2 _ h (hl a (VL ..)).ps
  ·exact h
theorem Dn.prep {tx:Int} (a:1<=tx/\tx<=60):∀ (ps:List Pr) {T:Tb},Dn T->(∀ p∈ps,SO p)->Dn (Cd T tx ps)
 | [],_,h,_=>h
 | p::ps,T,h,hp=>Dn.prep a ps (h.lock a (hp p (VL ..)).1 2) (fun q c=>hp q (VM _ c))
theorem FD {i:Int} (d:-1000000<=i) (c:i<=1000000):E3 i:=by
 simp only[E3,Lit.wf,Bool.and_eq_true,decide_eq_true_eq];have e1:IntKind.i64.min = -9223372036854775808:=by decide
 have a:IntKind.i64.max=9223372036854775807:=by decide
 rw[e1,a];omega
end
end Go.Proofs.YtccahlhdifadfaaGreatDoor
