import Derived.Test.YtccahlhdifadfaaGreatDoorPk00
import Derived.Test.YtccahlhdifadfaaGreatDoorRows
import Derived.Deep.CutBlock
import Derived.Lib.Hide
import Derived.StillTailTactics
import Derived.Deep.QuietTactic
import Derived.BigQuiet
import Derived.Deep.DeepCutAuto
import Derived.Sort.OwnSortedInts
namespace Go.Proofs.YtccahlhdifadfaaGreatDoor
open Go.RowKit
open _root_.And renaming intro → Wm
open _root_.Array renaming length_toList → Ws, getElem?_eq_none → WW
open _root_.Bool renaming false → Jx, true → VJ, eq_iff_iff → XU, false_eq_true → X3
open _root_.Classical renaming byContradiction → V5
open _root_.Go renaming World → D0, Value → O0, TypeId → VV, Calls → VY, maxLen → Wo, Ending → WC, Program → Xc, size_zeroCells → Xs, wp_region_still_tail → XI, Addr → XL, callFunc → XP, zeroValue → Yd, wpList → Yt, info_parts → Y1, wpStill_nil → Y4
open _root_.Go.Act renaming eval → Xh, put → Xl
open _root_.Go.Addr renaming add_lit → WJ
open _root_.Go.Addr.mk renaming injEq → W1
open _root_.Go.Builtin renaming zeroCells → Wz, append_ → Xu, firstCells → X1
open _root_.Go.Instr renaming lookup → XQ, slice → Yv
open _root_.Go.IntWalk renaming i64_in → V4
open _root_.Go.Result renaming andThen → W9
open _root_.Go.RowKit renaming Below → VP, run_makeMap → Y5
open _root_.Go.RowKit.Below renaming refl → VK
open _root_.Go.Value renaming ownBlock → Wc, int → Wp, oneCell' → WB, slice → WM
open _root_.Go.World renaming ownsRow_nil → VZ, block_lt_of_cell? → Wa, setCell_alloc_past → Yn, drew → Yo
open _root_.Int renaming toNat_natCast → XO
open _root_.List renaming getElem?_cons_zero → Ft, getElem?_toArray → Hi, getElem?_eq_getElem → L1, getElem?_cons_succ → N2, mem_of_getElem? → S2, mem_cons_self → VH, mem_cons_of_mem → VI, flatMap_cons → VM, length_append → VS, findIdx?_eq_some_iff_getElem → VU, mem_singleton → VW, take_add_one → VX, take_of_length_le → V0, getElem?_map → V8, eq_nil_of_length_eq_zero → Wd, length_map → We, getElem?_append_left → Wg, range' → Wh, getElem?_append_right → Wk, length_cons → Wl, findIdx?_eq_none_iff → Wn, getElem_mem → Wv, mem_of_mem_take → Wy, length_take → WA, append_nil → WE, flatMap_append → WG, takeWhile_append_dropWhile → WN, range → WS, take_succ_cons → WU, length_drop → W5, pairwise_map → W8, drop_succ_cons → Xb, take_length → Xe, drop_drop → Xk, takeWhile_prefix → Xm, size_toArray → Xo, any_eq_false → Xp, append_assoc → XB, mem_append → XG, take_zero → XM, not_mem_nil → XX, any_eq_true → XZ, mem_cons → X4, mem_of_mem_drop → X5, drop_of_length_le → Yb, getElem?_drop → Yf, takeWhile_cons → Yr, drop_zero → Ys, Nodup → Yw, length_mergeSort → YC, getLast?_eq_none_iff → YP
open _root_.List.Nodup renaming length_le_of_subset → WI
open _root_.List.Pairwise renaming nil → Yk
open _root_.Nat renaming le_refl → K0, lt_of_lt_of_le → VL, zero_le → VN, le_trans → VO, zero_add → Wx, le_succ → WT, lt_or_ge → W7, add_mul → Xa, add_sub_cancel → Xi, sub_mul → YG
open _root_.Option renaming some → Bs, none → B0, map_some → WK
open _root_.Option.some renaming injEq → VR
variable {X:Array O0} {s:ByteArray} {tx:Int} {y:Int×Int} {h:Int->Option Int} {k k':Kx} {L lf:List (Int×Int)} {ks:List Sx} {d xs:List O0} {B b c i j n':Nat} {S:Nat->Prop} {A:Option XL} {D:Option Nat} {x:Sx} {T:Tb} {α:Type} {e kt:VV} {V' v:O0} {W w':D0}
set_option linter.all false
set_option maxRecDepth 100000
set_option maxHeartbeats 16000000
structure Vx where
 t:Int
 v:Sx
 g:Bool
deriving DecidableEq
structure Rx where
 key:Sx
 v:Sx
 g:Bool
 t:Int
deriving DecidableEq
abbrev Kp:=Sx->List Vx
def Az (l:List Vx) (t:Int):List Vx:=l.takeWhile (fun x=>decide (x.t<t))
def CU (l:List Vx) (t:Int):Bool:=l.any (fun x=>decide (x.t=t))
def Cn (l:List Vx) (v:Vx):List Vx:=Az l v.t++v::l.drop (Az l v.t).length
def Cf (l:List Vx) (t:Int):Option Vx:=(l.takeWhile (fun x=>decide (x.t<=t))).getLast?
def BP (o:Option Vx):Sx×Bool:=match o with
 | none=>([],Jx)
 | some x=>if x.g then([],Jx) else(x.v,VJ)
abbrev FF (l:List Vx):Prop:=l.Pairwise (·.t < ·.t)
def q35 {p:α->Bool} {l:List α} {a:α} (h:a∈l.takeWhile p):p a=VJ:=by
 induction l with
 | nil=>cases h
 | cons b l c=>
  rw[Yr] at h;split at h
  ·rcases List.mem_cons.1 h with rfl|h
   ·assumption
   ·exact c h
  ·cases h
def q34 {l:List Vx} (hs:FF l) (t:Int) (a:Vx):a∈l.takeWhile (fun x=>decide (x.t<=t))↔a∈l/\a.t<=t:=by
 constructor
 ·intro h;exact⟨(Xm _).subset h,by simpa using q35 h⟩
 ·rintro ⟨c,f⟩;induction l with
  | nil=>cases c
  | cons b l d=>
   have hs:=List.pairwise_cons.1 hs;rw[Yr];rcases List.mem_cons.1 c with rfl|c
   ·rw[if_pos (by simpa using f)];exact VH
   ·have:=hs.1 a c;rw[if_pos (by simp;omega)];exact VI _ (d hs.2 c)
def Jm {l:List Vx} (hs:FF l) (t:Int) (a:Vx):a∈Az l t↔a∈l/\a.t<t:=by
 unfold Az;constructor
 ·intro h;exact⟨(Xm _).subset h,by simpa using q35 h⟩
 ·rintro ⟨c,f⟩;induction l with
  | nil=>cases c
  | cons b l d=>
   have hs:=List.pairwise_cons.1 hs;rw[Yr];rcases List.mem_cons.1 c with rfl|c
   ·rw[if_pos (by simpa using f)];exact VH
   ·have:=hs.1 a c;rw[if_pos (by simp;omega)];exact VI _ (d hs.2 c)
def Ga {l:List Vx} (hs:FF l) {t:Int} {x:Vx} : Cf l t=Bs x↔x∈l/\x.t<=t/\∀ y∈l,y.t<=t->y.t<=x.t:=by
 have c:FF (l.takeWhile (fun x=>decide (x.t<=t))):=hs.sublist (Xm _).sublist;unfold Cf;constructor
 ·intro h;have f:=List.mem_of_getLast? h;have q:=(q34 hs t x).1 f;refine⟨q.1,q.2,fun y u s=>?_⟩;have d:=(q34 hs t y).2 ⟨u,s⟩;obtain⟨v,e⟩:=List.getLast?_eq_some_iff.1 h;rw[e] at d c;rcases List.mem_append.1 d with i|i
  ·have:=(List.pairwise_append.1 c).2.2 y i x (by simp);omega
  ·rw[VW] at i;rw[i];omega
 ·rintro ⟨z,q,i⟩;have f:=(q34 hs t x).2 ⟨z,q⟩;cases e:(l.takeWhile (fun x=>decide (x.t<=t))).getLast? with
  | none=>rw[YP] at e;rw[e] at f;cases f
  | some y=>
   have u:=List.mem_of_getLast? e;have d:=(q34 hs t y).1 u;have B:=i y d.1 d.2;obtain⟨v,A⟩:=List.getLast?_eq_some_iff.1 e;rw[A] at f c;rcases List.mem_append.1 f with p|p
   ·have:=(List.pairwise_append.1 c).2.2 x p y (by simp);omega
   ·rw[VW] at p;rw[p]
def O4 {l:List Vx} (hs:FF l) {t:Int} : Cf l t=B0↔∀ y∈l,¬y.t<=t:=by
 unfold Cf;rw[YP,List.eq_nil_iff_forall_not_mem];constructor
 ·intro h y c d;exact h y ((q34 hs t y).2 ⟨c,d⟩)
 ·intro h y c;have:=(q34 hs t y).1 c;exact h y this.1 this.2
def LW {l:List Vx} (hs:FF l) {t:Int} (h:CU l t=VJ):Cf l t=l[(Az l t).length]?/\(Az l t).length<l.length:=by
 unfold CU at h;obtain⟨x,s,q⟩:=List.any_eq_true.1 h;simp only[decide_eq_true_eq] at q;have c:=WN (p:=fun x=>decide (x.t<t)) (l:=l);have d:x∈l.dropWhile (fun x=>decide (x.t<t)):=by
  rw[<- c] at s;rcases List.mem_append.1 s with f|f
  ·have:=q35 f;simp at this;omega
  ·exact f
 cases e:l.dropWhile (fun x=>decide (x.t<t)) with
 | nil=>rw[e] at d;cases d
 | cons y r=>
  have A:¬y.t<t:=by
   have:=List.head_dropWhile_not (p:=fun x=>decide (x.t<t)) (l:=l) (by rw[e];simp);simp only[e,List.head_cons] at this;simpa using this
  have i:y=x:=by
   rw[e] at d;rcases List.mem_cons.1 d with f|f
   ·exact f.symm
   ·rw[e] at c;rw[<- c] at hs;have:=(List.pairwise_cons.1 (List.pairwise_append.1 hs).2.1).1 x f;omega
  subst i;rw[e] at c;have hl:l=Az l t++y::r:=c.symm;have u:l[(Az l t).length]? = Bs y:=by
   conv=>lhs;rw[hl]
   rw[Wk (by exact Nat.le_of_eq (by rw[<- hl]))];have B:(Az l t).length-(Az l t).length=0:=by omega
   simp[<- hl]
  refine⟨?_,?_⟩
  ·rw[u];exact(Ga hs).2 ⟨s,by omega,fun z _ v=>by omega⟩
  ·exact(List.getElem?_eq_some_iff.1 u).1
def LB {l:List Vx} {t:Int} (h:CU l t=Jx):l.takeWhile (fun x=>decide (x.t<=t))=Az l t:=by
 unfold Az;unfold CU at h;rw[Xp] at h;induction l with
 | nil=>rfl
 | cons a l c=>
  have f:=h a VH;simp only[decide_eq_true_eq] at f;rw[Yr,Yr,c (fun x d=>h x (VI _ d))];by_cases e:a.t<t
  ·rw[if_pos (by simp;omega),if_pos (by simpa using e)]
  ·rw[if_neg (by simp;omega),if_neg (by simpa using e)]
def LV {l:List Vx} {t:Int} (h:CU l t=Jx):((Az l t).length=0->Cf l t=B0)/\(0<(Az l t).length->Cf l t=l[(Az l t).length-1]?/\(Az l t).length-1<l.length):=by
 unfold Cf;rw[LB h];have d:Az l t <+: l:=Xm _;refine⟨fun f=>by rw[List.length_eq_zero_iff.1 f];rfl,fun f=>?_⟩;have hl:=d.length_le;refine⟨?_,by omega⟩;rw[List.getLast?_eq_getElem?];obtain⟨r,c⟩:=d
 conv=>rhs;rw[<- c]
 rw[Wg (by rw[c];omega),c]
def Gg (l:List Vx) (t:Int):l.drop (Az l t).length=l.dropWhile (fun x=>decide (x.t<t)):=by
 have h:=WN (p:=fun x:Vx=>decide (x.t<t)) (l:=l);unfold Az
 conv=>lhs;arg 2;rw[<- h]
 rw[h];have:=List.drop_left (l₁:=l.takeWhile (fun x=>decide (x.t<t))) (l₂:=l.dropWhile (fun x=>decide (x.t<t)));rw[h] at this;exact this
def q79 {l:List Vx} {v x:Vx} : x∈Cn l v↔x=v\/x∈l:=by
 unfold Cn;rw[Gg];have:x∈l↔x∈Az l v.t\/x∈l.dropWhile (fun x=>decide (x.t<v.t)):=by
  rw[<- XG];unfold Az;rw[WN]
 rw[this,XG,X4];constructor
 ·rintro (h|h|h)
  ·exact .inr (.inl h)
  ·exact .inl h
  ·exact .inr (.inr h)
 ·rintro (h|h|h)
  ·exact .inr (.inl h)
  ·exact .inl h
  ·exact .inr (.inr h)
def qa4 {l:List Vx} {v:Vx} (hs:FF l) (q:CU l v.t=Jx):FF (Cn l v):=by
 unfold CU at q;rw[Xp] at q;unfold Cn;rw[Gg];have h:=WN (p:=fun x:Vx=>decide (x.t<v.t)) (l:=l);have d:=hs;rw[<- h] at d;have c:=List.pairwise_append.1 d;have y:∀ x∈l.dropWhile (fun x=>decide (x.t<v.t)),v.t<x.t:=fun x f=>by
  have i:=q x ((List.dropWhile_sublist _).subset f);simp only[decide_eq_true_eq] at i;refine V5 (fun z=>?_);have B:x∈Az l v.t:=(Jm hs v.t x).2 ⟨(List.dropWhile_sublist _).subset f,by omega⟩;have:=c.2.2 x B x f;omega
 refine List.pairwise_append.2 ⟨c.1,List.pairwise_cons.2 ⟨y,c.2.1⟩,fun a A b s=>?_⟩;have u:=((Jm hs v.t a).1 A).2;rcases List.mem_cons.1 s with rfl|s
 ·exact u
 ·have:=y b s;omega
def qcp (l:List Vx) (v:Vx):(Cn l v).length=l.length+1:=by
 unfold Cn;have:(Az l v.t).length<=l.length:=(Xm _).length_le;simp;omega
def Ii (r:Rx):Vx:=⟨r.t,if r.g then [] else r.v,r.g⟩
def BS (K:Kp) (x:Sx) (l:List Vx):Kp:=fun y=>if y=x then l else K y
section
open Go.RowKit Go.Maps Go.WideMaps
section
variable {P:Xc} {kt:VV} {κ:Type} {C:CJ P kt κ} {w:D0} {ops:Array Oper} {rest:List Oper} {o:Oper} {a:Act} {Q:Exit->Act->D0->Prop} {b r n cnt:Nat} {m:κ->Option O0} {left:κ->Bool}
def DE.left_eq (h:DE C w b r n m left cnt):w.rangeLeft b r=cnt:=by obtain⟨D,l,c,_⟩:=h;exact c.left_eq
def q2u (z:o.guard=B0) (p:Operand) (t e:VV) (f:o.op=Op.range t p) (v:P.underlying t=Bs (.map kt e)) (y:a.eval p=.map (Bs b)) (d:Ab C w b n m)
  (A:∀ w' cnt,DE C w' b w.heap.size n m (fun x=>(m x).isSome) cnt->Fr (fun _=>False) w w'->w'.heap.size=w.heap.size+1->Yt P ops Q rest (a.put o.dst (.pointer (Bs ⟨w.heap.size,0,B0⟩))) w') :
  Yt P ops Q (o::rest) a w:=by
 refine wpList_plain z fun B i=>?_
 obtain⟨w',cnt,c,u,s,q⟩:=d.range v;unfold Oper.wp;simp[execOp,f,y,c,W9];exact i _ _ (A w' cnt u s q)
open Classical in
def q3c (I:o.guard=B0) (E:Operand) (p:o.op=Op.next E Jx) (q:a.eval E=.pointer (Bs ⟨r,0,B0⟩)) (h:DE C w b r n m left cnt)
  (i:(∀ x,C.ok x->left x=Jx)->Yt P ops Q rest (a.put o.dst (.tuple #[.bool Jx])) w)
  (f:∀ (x:κ) (v:O0) (w':D0) (c:Nat),C.ok x->left x=VJ->m x=Bs v->DE C w' b r n m (fun y=>left y && !decide (y=x)) c->c<cnt->
   Fr (fun k=>k=r) w w'->w'.heap.size=w.heap.size->(Instr.entry (.pointer (Bs ⟨r,0,B0⟩))).run P w'=.ok (.tuple #[C.val x,v]) w'->Yt P ops Q rest (a.put o.dst (.tuple #[.bool VJ,C.val x,v])) w') :
  Yt P ops Q (o::rest) a w:=by
 refine wpList_plain I fun M s=>?_
 unfold Oper.wp;rcases h.next o.type with ⟨L,hl,d⟩|⟨x,v,w',c,F,B,G,d,z,A,J,u,D⟩
 ·simp[execOp,p,q,d,W9];exact s _ _ (i hl)
 ·simp[execOp,p,q,d,W9];exact s _ _ (f x v w' c F B G z A J u D)
end
end
def AV:Tryz.prog.underlying 142=Bs (.slice 145):=Tryz.underlying142
def Km:Tryz.prog.elem 142=145:=by kernel_rfl
def I0 (w:D0):(sizeOf 145).run Tryz.prog w=.ok 3 w:=by kernel_rfl
def GE:(Tryz.prog.info? 145).map (fun i=>(i.zero,i.size,i.bytes))=Bs (Bs (.agg #[.int .i64 0,.string ⟨#[]⟩,.bool Jx]),3,32):=by kernel_rfl
def q7l:(Tryz.prog.info? 145).map (·.size)=Bs 3:=by kernel_rfl
def Pv (base n i:Nat) (V:O0) (c xs:List O0) (w:D0) (e:WC) (w':D0):Prop:=
 ∃ V',e=.returned V'/\w'.ownsRow base 145 3 V' (n+1) (B7 3 i c xs)/\Av w w' V.ownBlock V'.ownBlock
def MK {w:D0} {g:Nat} {t:VV} (h:w.heap[g]? = Bs (.cells X t (0,0))):w.shape? g=Bs (t,X.size):=by
 unfold World.shape?;rw[h]
def IB {w:D0} {g o:Nat} {t:VV} (h:w.heap[g]? = Bs (.cells X t (0,0))):w.frozen? ⟨g,o,B0⟩=Jx:=Ae.frozen (show Ae w g t X from h) o
def P8 (base n F J:Nat) (V:O0) (xs f:List O0) (w:D0) (d:w.ownsRow base 145 3 V n xs) (X:n<=100000) (s:f.length=3) (v:∀ u∈f,u.oneCell'=VJ)
  (q:Ae w F 145 f.toArray) (U:base<=w.heap.size) :
  VY Tryz.prog 108 #[V,.int .i64 n,.slice (Bs ⟨F,0,B0⟩) 1 J] w (Pv base n n V f xs w):=by
 obtain⟨A,c,rfl,S,_⟩:=AR d;obtain⟨O,L⟩:=U5 142 AV Km I0 w A n c n (K0 _);have y:DZ w w.heap.size 3 (Bs ⟨F,0,B0⟩) 1 f:=⟨by rw[s],fun _=>⟨_,rfl,q.lt,fun j u R=>by
  rw[WJ,Wx];exact(q.cell j).trans (by simpa using R)⟩⟩
 have i:B7 3 n f xs=xs++f:=by
  unfold B7;rw[V0 (by rw[d.1];omega),Yb (by rw[d.1];omega),WE]
 have D:=LH d;clear d;have I:=LH y;clear y;have E:=LH i;clear i;have G:=LH v;clear v;clear q s;go_enter Tryz.func108,Tryz.ntmps108;go_wp2_with (at_builtin;refine q2e w rfl _ _ 142 rfl base 145 _ 3 32 AV GE rfl (by decide) _ n xs rfl D.o _ _ 1 J f rfl I.o G.o (by unfold Wo;omega) (by omega) U ?_;intro M N z B)
 have p:Pv base n n (.slice A n c) f xs w (.returned M) N:=⟨M,rfl,by rw[E.o];exact z,B⟩
 have W:=LH p;clear p z B;go_wp2_with fail;go_ret;exact W.o
def KC (base g n c i F N:Nat) (xs L:List O0) (w:D0) (f:w.ownsRow base 145 3 (.slice (Bs ⟨g,0,B0⟩) n c) n xs) (hi:i<n) (z:n+1<=c) (hn:n<=100000) (M:∀ u∈xs,u.oneCell'=VJ) (O:L.length=3) (R:∀ u∈L,u.oneCell'=VJ)
  (q:Ae w F 145 L.toArray) (S:F≠g) (hb:base<=w.heap.size) :
  VY Tryz.prog 108 #[.slice (Bs ⟨g,0,B0⟩) n c,.int .i64 i,.slice (Bs ⟨F,0,B0⟩) 1 N] w (Pv base n i (.slice (Bs ⟨g,0,B0⟩) n c) L xs w):=by
 obtain⟨a8,a6⟩:=U5 142 AV Km I0 w (Bs ⟨g,0,B0⟩) n c i (by omega);obtain⟨ex,Z,B⟩:=FQ f z;obtain⟨a3,q1,hg,q2,q3,a0,q4⟩:=q3x f;clear q1 q2 q3 q4;have J:a3.size≠0:=by rw[a0];have:0<c*3:=Nat.mul_pos (by omega) (by decide);omega
 have a1:∀ lb cb,(XP 126 #[.slice (Bs ⟨F,0,B0⟩) 1 N,.slice (Bs ⟨g,(i+1)*3,B0⟩) lb cb]).run Tryz.prog w=.ok (.value (.bool Jx)) w:=fun lb cb=>by
  rw[run_callFunc_extern Tryz.func126 (by kernel_rfl) (by kernel_rfl) (by kernel_rfl) (e:=Extern.SlicesOverlaps.overlaps #[142,142] #[4]) (by kernel_rfl),
   Lib.run_overlaps_apart w 142 4 145 AV 3 I0 ⟨F,0,B0⟩ ⟨g,(i+1)*3,B0⟩ 1 N lb cb S _ _ _ _ (MK q) (MK hg) J (IB q) (IB q)]
  rfl
 have E:=f.1;obtain⟨w2,y,A,Y⟩:=SO (w:=w.drew) 142 142 145 AV q7l (show w.drew.ownsRow base 145 3 (.slice (Bs ⟨g,0,B0⟩) (n+1) c) (n+1) (xs++ex) from B) (i:=i+1) (m:=n-i) (by omega) (xs.drop (i*3))
  (by rw[W5,E,YG]) ⟨g,i*3,B0⟩ (fun j v U=>by
   rw[WJ];rw[Yf] at U;have a2:i*3+j<n*3:=by rw[<- E];exact(List.getElem?_eq_some_iff.1 U).1
   show w.cell? _=_;exact(f.cellAt _ a2).trans U) (fun u hu=>M u (X5 hu)) (n-i) (c-(i+1)) (n+1-i) (c-i) (by show min _ _=_;omega)
 have D:Fr (fun k=>k=g) w w2:=(Fr.refl _ w).drew.trans Y;have G:Ae w2 F 145 L.toArray:=D.ak q S;obtain⟨w3,s,p,X⟩:=SO (w:=w2) 142 142 145 AV q7l A (i:=i) (m:=1) (by omega) L (by rw[O]) ⟨F,0,B0⟩ (fun j v U=>by
   rw[WJ,Wx];exact(G.cell j).trans (by simpa using U)) R (n+1-i) (c-i) 1 N (by show min _ _=_;omega)
 have a7:=(Tv f).2;rw[q9n E hi Z] at p;have I:Pv base n i (.slice (Bs ⟨g,0,B0⟩) n c) L xs w (.returned (.slice (Bs ⟨g,0,B0⟩) (n+1) c)) w3:=
  ⟨_,rfl,p,(D.trans X).mono (fun k _ h=>by rw[h];rfl),.inl rfl⟩
 have s1:=q3v 142 AV Km I0 w g n c (n+1) ((n:Int)+1) (by omega) z;have s2:=fun W=>PC 142 AV Km I0 W g (n+1) c (i+1) ((i:Int)+1) (by omega) (by omega) (by omega)
 rw[show n+1-(i+1)=n-i by omega] at s2;have s3:=fun W=>PC 142 AV Km I0 W g (n+1) c i (i:Int) rfl (by omega) (by omega)
 have HF:=LH I;clear I B A p Y X D f q G hg a0 J Z;have aa:IntKind.i64.wrap ((i:Int)+1)=(i:Int)+1:=V4 _ (by omega);have a9:IntKind.i64.wrap ((n:Int)+1)=(n:Int)+1:=V4 _ (by omega);have a5:=LH y;clear y;have a4:=LH s;clear s;have ab:=LH M;clear M;clear R O E;have d1:((i:Int) == (n:Int))=Jx:=by rw[beq_eq_false_iff_ne];omega
 have d2:decide ((c:Int)<(n:Int)+1)=Jx:=by rw[decide_eq_false_iff_not];omega
 go_enter Tryz.func108,Tryz.ntmps108;go_wp2_with (simp only[a1])
 refine nW ?_;refine SJ (fun _=>True) 9 ?_;have d:True:=trivial;refine nE 0 d ?_;refine nE 1 d ?_;refine nE 2 d ?_;refine nE 3 d ?_;refine nE 4 d ?_;refine nE 5 d ?_;refine nE 6 d ?_;refine nE 7 d ?_;refine nG 8 (fun K hK=>?_);refine q2p (.tmp 73) (.tmp 76) 142 142 rfl (.slice (Bs ⟨g,(i+1)*3,B0⟩) (n-i) (c-(i+1))) (.slice (Bs ⟨g,i*3,B0⟩) (n+1-i) (c-i)) _ (by simp[Xh,Xl]) (by simp[Xh,Xl]) (a5.o _) ?_;go_simp;refine hK _ _ (fun _=>d) ?_;clear hK K;refine nX ?_;clear d;go_wp2_with (refine q1z rfl (.tmp 80) (.tmp 81) 142 142 rfl (.slice (Bs ⟨g,i*3,B0⟩) (n+1-i) (c-i)) (.slice (Bs ⟨F,0,B0⟩) 1 N) _ rfl rfl (a4.o _) ?_)
 go_ret;exact HF.o
def NR (base g n c i X vc:Nat) (xs O:List O0) (w:D0) (f:w.ownsRow base 145 3 (.slice (Bs ⟨g,0,B0⟩) n c) n xs) (hi:i<n) (a5:c<n+1) (hn:n<=100000) (E:∀ u∈xs,u.oneCell'=VJ) (R:O.length=3) (Z:∀ u∈O,u.oneCell'=VJ)
  (S:Ae w X 145 O.toArray) (hb:base<=w.heap.size) :
  VY Tryz.prog 108 #[.slice (Bs ⟨g,0,B0⟩) n c,.int .i64 i,.slice (Bs ⟨X,0,B0⟩) 1 vc] w (Pv base n i (.slice (Bs ⟨g,0,B0⟩) n c) O xs w):=by
 obtain⟨ac,ab⟩:=U5 142 AV Km I0 w (Bs ⟨g,0,B0⟩) n c i (by omega);have hc:=Tv f;have F:=f.1;obtain⟨i0,a1,Y,J,M⟩:=Y1 GE;have af:g<w.heap.size:=(f.lt g rfl).2;obtain⟨N,w1,p,q,G,a4⟩:=qbd (w:=w) 142 3 i0 _ .i64 .i64 AV Tryz.underlying3 a1 Y J rfl (by decide) (q4w f (i:=i) (by omega)) (k:=n+1-i) (by omega) (by omega) (by omega) (by rw[M];decide) (fun u hu=>E u (Wy hu)) hb;rw[show i+(n+1-i)=n+1 by omega] at p q;have ag:=(Tv q).1;have I:Ae w1 X 145 O.toArray:=G.ak S (fun h=>h);have B:=G.own f (fun _ _ h=>h);have aa:=S.lt;obtain⟨w2,z,D,U⟩:=SO (w:=w1) 142 142 145 AV q7l q (i:=i) (m:=1) (by omega) O (by rw[R]) ⟨X,0,B0⟩ (fun j v hj=>by
   rw[WJ,Wx];exact(I.cell j).trans (by simpa using hj)) Z (n+1-i) (N-i) 1 vc (by show min _ _=_;omega)
 have A:=U.own B (fun k hk e=>by
   have:g=k:=by simpa [Wc] using hk
   omega)
 obtain⟨w3,y,s,a3⟩:=SO (w:=w2.drew) 142 142 145 AV q7l (show w2.drew.ownsRow base 145 3 (.slice (Bs ⟨w.heap.size,0,B0⟩) (n+1) N) (n+1) _ from D) (i:=i+1) (m:=n-i) (by omega) (xs.drop (i*3))
  (by rw[W5,F,YG]) ⟨g,i*3,B0⟩ (fun j v hj=>by
   rw[WJ];rw[Yf] at hj;have a6:i*3+j<n*3:=by rw[<- F];exact(List.getElem?_eq_some_iff.1 hj).1
   show w2.cell? _=_;exact(A.cellAt _ a6).trans hj) (fun u hu=>E u (X5 hu)) (n-i) (N-(i+1)) (n-i) (c-i) (by show min _ _=_;omega)
 rw[q7w F (by omega) (by rw[Ws,Xs];rfl) R] at s;have a2:Fr (fun k=>Bs k=Wc (.slice (Bs ⟨g,0,B0⟩) n c)) w w3:=(((G.trans' U (fun k hk (e:k=w.heap.size)=>by omega)).drew).trans' a3 (fun k hk (e:k=w.heap.size)=>by omega)).mono (fun k _ h=>h.elim);have L:Pv base n i (.slice (Bs ⟨g,0,B0⟩) n c) O xs w (.returned (.slice (Bs ⟨w.heap.size,0,B0⟩) (n+1) N)) w3:=
  ⟨_,rfl,s,a2,.inr ⟨_,rfl,K0 _⟩⟩
 have a0:(n:Int)+1-i=((n+1-i:Nat):Int):=by omega
 have s1:=q3v 142 AV Km I0 w g n c i (i:Int) rfl (by omega);have s2:=fun W=>PC 142 AV Km I0 W w.heap.size (n+1) N i (i:Int) rfl (by omega) (by omega)
 have s3:=fun W=>PC 142 AV Km I0 W w.heap.size (n+1) N (i+1) ((i:Int)+1) (by omega) (by omega) (by omega)
 rw[show n+1-(i+1)=n-i by omega] at s3;have s4:=fun W=>PC 142 AV Km I0 W g n c i (i:Int) rfl (by omega) (by omega)
 have HF:=LH L;clear L q D s G U a3 f B A S I a1 Y J M a2 a4;have ae:IntKind.i64.wrap ((i:Int)+1)=(i:Int)+1:=V4 _ (by omega);have ad:IntKind.i64.wrap ((n:Int)+1)=(n:Int)+1:=V4 _ (by omega);rw[<- a0] at p;have a9:=LH p;clear p a0;have a8:=LH z;clear z;have a7:=LH y;clear y;have ah:=LH E;clear E;clear Z R F;have d1:((i:Int) == (n:Int))=Jx:=by rw[beq_eq_false_iff_ne];omega
 have d2:decide ((c:Int)<(n:Int)+1)=VJ:=by rw[decide_eq_true_eq];omega
 go_enter Tryz.func108,Tryz.ntmps108;go_wp2_with (first|(refine q26 rfl (.tmp 34) (.tmp 39) 142 3 rfl (.slice (Bs ⟨g,0,B0⟩) i c) (.int .i64 ((n:Int)+1-i)) _ rfl rfl (a9.o _) ?_)|(refine q1z rfl (.tmp 43) (.tmp 44) 142 142 rfl (.slice (Bs ⟨w.heap.size,i*3,B0⟩) (n+1-i) (N-i)) (.slice (Bs ⟨X,0,B0⟩) 1 vc) _ rfl rfl (a8.o _) ?_))
 refine nW ?_;refine SJ (fun _=>True) 9 ?_;have d:True:=trivial;refine nE 0 d ?_;refine nE 1 d ?_;refine nE 2 d ?_;refine nE 3 d ?_;refine nE 4 d ?_;refine nE 5 d ?_;refine nE 6 d ?_;refine nE 7 d ?_;refine nG 8 (fun K hK=>?_);refine q2p (.tmp 50) (.tmp 53) 142 142 rfl (.slice (Bs ⟨w.heap.size,(i+1)*3,B0⟩) (n-i) (N-(i+1))) (.slice (Bs ⟨g,i*3,B0⟩) (n-i) (c-i)) _ (by simp[Xh,Xl]) (by simp[Xh,Xl]) (a7.o _) ?_;go_simp;refine hK _ _ (fun _=>d) ?_;clear hK K;refine nX ?_;clear d;go_wp2_with fail;go_ret;exact HF.o
def Qa (base n i v z:Nat) (V:O0) (xs f:List O0) (w:D0) (d:w.ownsRow base 145 3 V n xs) (G:i<=n) (B:n<=100000) (y:∀ u∈xs,u.oneCell'=VJ) (p:f.length=3) (s:∀ u∈f,u.oneCell'=VJ)
  (q:Ae w v 145 f.toArray) (A:V.ownBlock≠Bs v) (D:base<=w.heap.size) :
  VY Tryz.prog 108 #[V,.int .i64 i,.slice (Bs ⟨v,0,B0⟩) 1 z] w (Pv base n i V f xs w):=by
 by_cases e:i=n
 ·subst e;exact P8 base i v z V xs f w d B p s q D
 ·rcases d.2 with ⟨rfl,I⟩|⟨g,c,F,rfl,_,_,E,_⟩
  ·omega
  ·by_cases h:n+1<=c
   ·exact KC base g n c i v z xs f w d (by omega) h B y p s q (fun e=>A (by rw[e];rfl)) D
   ·exact NR base g n c i v z xs f w d (by omega) (by omega) B y p s q D
abbrev Vu:=Vx
def CS (x:Vx):List O0:=[.int .i64 x.t,.string ⟨x.v.toArray⟩,.bool x.g]
def vxV (x:Vx):O0:=.agg #[.int .i64 x.t,.string ⟨x.v.toArray⟩,.bool x.g]
def Vh:∀ (l:List Vx) (j:Nat) (x:Vx),l[j]? = Bs x->∀ i,i<3->(l.flatMap CS)[j*3+i]? = (CS x)[i]?
 | [],j,p,h,i,c=>by simp at h
 | q::l,0,p,h,i,c=>by
  simp at h;subst h;rw[VM,Wg (by show _<3;omega)];simp
 | q::l,j+1,p,h,i,c=>by
  have f:l[j]? = Bs p:=by simpa using h
  have e:(j+1)*3+i=(j*3+i)+3:=by omega
  have d:(CS q).length=3:=rfl;rw[e,VM,Wk (by rw[d];omega),d,Xi];exact Vh l j p f i c
def qaa (l:List Vx):(l.flatMap CS).length=l.length*3:=by
 induction l with
 | nil=>rfl
 | cons x l c=>rw[VM,VS,c];show 3+_=_;simp only[Wl];omega
def qbr:∀ (l:List Vx) (k:Nat),(l.flatMap CS).drop (k*3)=(l.drop k).flatMap CS
 | l,0=>by simp
 | [],k+1=>by simp
 | x::l,k+1=>by
  rw[VM,show(k+1)*3=3+k*3 by omega,<- Xk,List.drop_left' (by rfl),Xb];exact qbr l k
def qbq:∀ (l:List Vx) (k:Nat),(l.flatMap CS).take (k*3)=(l.take k).flatMap CS
 | l,0=>by simp
 | [],k+1=>by simp
 | x::l,k+1=>by
  rw[VM,WU,VM,<- qbq l k,show(k+1)*3=(CS x).length+k*3 by show _=3+_;omega,List.take_length_add_append]
def qa9 (l:List Vx):∀ u∈l.flatMap CS,u.oneCell'=VJ:=fun u d=>by
 obtain⟨p,_,c⟩:=List.mem_flatMap.1 d;unfold CS at c;rcases List.mem_cons.1 c with rfl|c
 ·rfl
 ·rcases List.mem_cons.1 c with rfl|c
  ·rfl
  ·rw[List.mem_singleton.1 c];rfl
def Rd.cz {w:D0} {n:Nat} {l:List Vx} (h:Rd w B 3 A n (l.flatMap CS)) (hl:l.length=n) (p:j<n):∃ g off x,A=Bs ⟨g,off,B0⟩/\g<B/\l[j]? = Bs x/\
  w.cell? ⟨g,off+j*3,B0⟩=Bs (.int .i64 x.t)/\w.cell? ⟨g,off+j*3+1,B0⟩=Bs (.string ⟨x.v.toArray⟩)/\w.cell? ⟨g,off+j*3+2,B0⟩=Bs (.bool x.g):=by
 obtain⟨g,off,e,i,d⟩:=h.2 (by omega);have f:l[j]? = Bs l[j]:=L1 (by omega);have c:=Vh l j _ f;exact⟨g,off,l[j],e,i,f,d (j*3) _ (c 0 (by omega)),d (j*3+1) _ (c 1 (by omega)),d (j*3+2) _ (c 2 (by omega))⟩
def Dg (w:D0) (base:Nat) (V:O0) (l:List Vx):Prop:=
 w.ownsRow base 145 3 V l.length (l.flatMap CS)\/
  ∃ g o cs,V=.slice (Bs ⟨g,o,B0⟩) l.length l.length/\0<l.length/\base<=g/\l.length<=Wo/\Ae w g 145 cs/\∀ j u,(l.flatMap CS)[j]? = Bs u->cs[o+j]? = Bs u
section
variable {w w':D0} {base:Nat} {V:O0} {l:List Vx}
def Dg.form (h:Dg w base V l):∃ A c,V=.slice A l.length c/\l.length<=c:=by
 rcases h with h|⟨g,o,cs,rfl,_⟩
 ·obtain⟨A,c,f,d,_⟩:=AR h;exact⟨A,c,f,d⟩
 ·exact⟨_,_,rfl,K0 _⟩
def Dg.rd {n:Nat} (h:Dg w base (.slice A n c) l):Rd w w.heap.size 3 A l.length (l.flatMap CS):=by
 rcases h with h|⟨g,o,cs,d,s,q,_,f,p⟩
 ·obtain⟨y,v,d,_,_⟩:=AR h;injection d with h1 h2 h3;subst h1 h2 h3;exact Rd.ay h
 ·injection d with h1 h2 h3;subst h1 h2 h3;exact⟨qaa l,fun _=>⟨g,o,rfl,f.lt,fun j u i=>(f.cell (o+j)).trans (p j u i)⟩⟩
def Dg.block (h:Dg w base V l) (d:V.ownBlock=Bs b):base<=b/\b<w.heap.size/\∃ cs,Ae w b 145 cs:=by
 rcases h with h|⟨g,o,cs,rfl,v,f,_,p,u⟩
 ·refine⟨(h.lt b d).1,(h.lt b d).2,?_⟩;rcases h.2 with ⟨rfl,_⟩|⟨s,cap,i,rfl,_,q,_⟩
  ·cases d
  ·have c:s=b:=by injection d
   subst c;exact⟨i,q⟩
 ·have c:g=b:=by injection d
  subst c;exact⟨f,p.lt,cs,p⟩
def Dg.fr (h:Dg w base V l) (f:Fr S w w') (d:∀ b,V.ownBlock=Bs b->¬S b):Dg w' base V l:=by
 rcases h with h|⟨g,o,cs,rfl,s,c,i,p,q⟩
 ·exact .inl (f.own h d)
 ·exact .inr ⟨g,o,cs,rfl,s,c,i,f.ak p (d g rfl),q⟩
def Dg.aB (h:Dg w base V l) {g:Nat} {t:VV} (f:Ae w g t X) (c:t≠145):V.ownBlock≠Bs g:=fun e=>by
 obtain⟨_,_,i,d⟩:=h.block e;exact d.ne_ f (fun e=>c e.symm) rfl
end
section
variable {P:Xc} {e:VV} {size:Nat}
def IT (T:VV) (f:P.underlying T=Bs (.slice e)) (d:P.elem T=e) (hs:∀ w,(sizeOf e).run P w=.ok size w) (w:D0) (g o n c v:Nat) (h:Int) (i:h=v) (p:v<=n) :
  (Yv T (.slice (Bs ⟨g,o,B0⟩) n c) (Bs (.int .i64 h)) B0 B0).run P w=.ok (.slice (Bs ⟨g,if c=v then o else o+v*size,B0⟩) (n-v) (c-v)) w:=by
 subst i;subst d;rw[run_slice_l w T _ n c f .i64 (v:Int) (by omega) (by omega),hs];simp only[W9,sliced,XO];congr 2;split <;> simp[WJ]
def N8 (T:VV) (f:P.underlying T=Bs (.slice e)) (d:P.elem T=e) (hs:∀ w,(sizeOf e).run P w=.ok size w) (w:D0) (g o n c v:Nat) (h:Int) (i:h=v) (p:v<=c) :
  (Yv T (.slice (Bs ⟨g,o,B0⟩) n c) B0 (Bs (.int .i64 h)) B0).run P w=.ok (.slice (Bs ⟨g,o,B0⟩) v c) w:=by
 subst i;subst d;rw[run_slice_h w T _ n c f .i64 (v:Int) (by omega) (by omega),hs];simp only[W9,sliced,XO,Nat.zero_mul,Nat.sub_zero];congr 2;split <;> simp[WJ]
end
def VCmpW (F:Nat) (c:Vu->Int) (t:Int) (w:D0):Prop:=
 ∀ (W:D0) (x:Vu),VP w.heap.size w W->(True)->VY Tryz.prog F #[vxV x,.int .i64 t] W fun e w'=>e=.returned (.int .i64 (c x))/\VP W.heap.size W w'
def Mx (c:Vu->Int) (L:List Vu) (n:Nat) (w:D0) (u v:O0) (wr:D0):Prop:=
 ∃ i j:Nat,u=.int .i64 i/\v=.int .i64 j/\i<=j/\j<=n/\(∀ k (h:k<L.length),k<i->c L[k]<0)/\(∀ k (h:k<L.length),j<=k->0<=c L[k])/\VP w.heap.size w wr
def Hv (c:Vu->Int) (L:List Vu) (n:Nat) (w:D0) (e:WC) (w':D0):Prop:=
 ∃ (i:Nat) (f:Bool),e=.returned (.tuple #[.int .i64 i,.bool f])/\i<=n/\(∀ k (h:k<L.length),k<i->c L[k]<0)/\(∀ k (h:k<L.length),i<=k->0<=c L[k])/\(f=VJ↔∃ h:i<L.length,c L[i]=0)/\VP w.heap.size w w'
def Iy (F:Nat) (y:Vu->Int) (A:Option XL) (n k:Nat) (L:List Vu) (t:Int) (w:D0) (eg:∀ args w,(XP F args).run Tryz.prog w=.ok (.enter F args) w)
  (hp:VCmpW F y t w) (hr:Rd w w.heap.size 3 A n (L.flatMap CS)) (hl:L.length=n) (hn:n<=100000) (W:∀ x∈L,True)
  (B:∀ (i j:Nat) (hi:i<L.length) (hj:j<L.length),i<=j->y L[i]<=y L[j]) :
  VY Tryz.prog 72 #[.slice A n k,.int .i64 t,.func (.func F) #[] #[]] w (Hv y L n w):=by
 have HR:=LH hr;clear hr;have HP:=LH hp;clear hp;have HM:=LH B;clear B;have a0:=LH W;clear W;have HL:=LH hl;clear hl;go_enter Tryz.func72,Tryz.ntmps72;go_wp2_with fail;go_loopw [9,10] (Mx y L n w) (fun u v _=>(intOf v).toNat-(intOf u).toNat)
 case atStart=>exact⟨0,n,rfl,rfl,VN _,K0 _,fun k h J=>absurd J (by omega),fun k h J=>absurd J (by have:=HL.o;omega),VK _ _⟩
 case round=>
  obtain⟨i,j,rfl,rfl,a7,a1,X,Y,f⟩:=hrel;have E:=LH f;have R:=LH X;clear X;have S:=LH Y;clear Y;by_cases a5:(i:Int)<j
  ·have a4:i<=(i+j) / 2:=by omega
   have a3:(i+j) / 2<j:=by omega
   obtain⟨g',o',x,rfl,N,M,h0,h1,J⟩:=(HR.o.below f).cz HL.o (j:=(i+j) / 2) (by omega);have a2:g'<wr.heap.size:=VL N f.size;have U:=a0.o x (S2 M);have d:=HP.o wr x f U;have HC:=LH d;clear d;have HX:=LH M;clear M f;go_wp2_with fail;refine HC.o.mono ?_;rintro e w2 ⟨rfl,D⟩;have s:=E.o.trans (D.mono E.o.size);have I:=LH s;clear s D HC;obtain⟨G,z⟩:=List.getElem?_eq_some_iff.1 HX.o;have Z:=LH z;clear z;by_cases hc:y x<0
   ·have d1:decide (y x<0)=VJ:=decide_eq_true hc;have c:Mx y L n w (.int .i64 (((i+j) / 2+1:Nat):Int)) (.int .i64 j) w2:=by
     refine⟨(i+j) / 2+1,j,rfl,rfl,by omega,a1,fun q hq J=>?_,S.o,I.o⟩;have:=HM.o q ((i+j) / 2) hq G (by omega);rw[Z.o] at this;omega
    have O:=LH c;clear c hc;go_wp2_with fail;go_roundw
    ·exact O.o
    ·simp[intOf];omega
   ·have d1:decide (y x<0)=Jx:=decide_eq_false hc;have c:Mx y L n w (.int .i64 i) (.int .i64 (((i+j) / 2:Nat):Int)) w2:=by
     refine⟨i,(i+j) / 2,rfl,rfl,by omega,by omega,R.o,fun q hq J=>?_,I.o⟩;have:=HM.o ((i+j) / 2) q G hq J;rw[Z.o] at this;omega
    have O:=LH c;clear c hc;go_wp2_with fail;go_roundw
    ·exact O.o
    ·simp[intOf];omega
  ·obtain rfl:j=i:=by omega
   by_cases a6:(j:Int)<n
   ·obtain⟨g',o',x,rfl,N,M,h0,h1,J⟩:=(HR.o.below f).cz HL.o (j:=j) (by omega);have a2:g'<wr.heap.size:=VL N f.size;have d:=HP.o wr x f (a0.o x (S2 M));have HC:=LH d;clear d;have HX:=LH M;clear M f;go_wp2_with fail;refine HC.o.mono ?_;rintro e w2 ⟨rfl,D⟩;have s:=E.o.trans (D.mono E.o.size);have I:=LH s;clear s D HC;have p:Hv y L n w (.returned (.tuple #[.int .i64 j,.bool (y x == 0)])) w2:=by
     obtain⟨G,z⟩:=List.getElem?_eq_some_iff.1 HX.o;refine⟨j,_,rfl,by omega,R.o,S.o,?_,I.o⟩;rw[beq_iff_eq];exact⟨fun h=>⟨G,by rw[z];exact h⟩,fun⟨_,h⟩=>by rw[z] at h;exact h⟩
    have HF:=LH p;clear p;go_wp2_with fail;go_ret2;exact HF.o
   ·have p:Hv y L n w (.returned (.tuple #[.int .i64 j,.bool Jx])) wr:=
     ⟨j,Jx,rfl,by omega,R.o,S.o,⟨fun h=>(by cases h),fun⟨h,_⟩=>absurd h (by have:=HL.o;omega)⟩,E.o⟩
    have HF:=LH p;clear p f;go_wp2_with fail;go_ret2;exact HF.o
noncomputable abbrev kI:CJ Tryz.prog 3 Int:=keyI Tryz.underlying3
noncomputable abbrev kS:CJ Tryz.prog 9 ByteArray:=keyS Tryz.underlying9
abbrev Cq (i:Int):Prop:=(Lit.int .i64 i).wf=VJ
def Cp (x:Int×Int):List O0:=[.int .i64 x.1,.int .i64 x.2]
def hM (h:Int->Option Int):Int->Option O0:=fun i=>(h i).map (Wp .i64)
structure Ar where
 g:Nat
 hb:Nat
 V:O0
structure AX (w:D0) (base n:Nat) (L:Ar) (k:Kx):Prop where
 ak:Ae w L.g 168 #[.map (Bs L.hb),L.V]
 holds:Ab kI w L.hb n (hM k.h)
 row:w.ownsRow base 166 2 L.V k.ws.length (k.ws.flatMap Cp)
 log:base<=L.g
 loh:base<=L.hb
 cY:∀ o m,k.h o=Bs m->Cq o/\Cq m
 okw:∀ x∈k.ws,Cq x.1/\Cq x.2
 len:k.ws.length<=50
def AQ (L:Ar) (b:Nat):Prop:=b=L.g\/b=L.hb\/L.V.ownBlock=Bs b
def AX.fr {S:Nat->Prop} {w w':D0} {base n:Nat} {L:Ar} {k:Kx} (h:AX w base n L k) (d:Fr S w w') (c:∀ b,AQ L b->¬S b):AX w' base n L k:=
 ⟨d.ak h.ak (c _ (.inl rfl)),h.holds.fr d (c _ (.inr (.inl rfl))),d.own h.row (fun g f=>c g (.inr (.inr f))),h.log,h.loh,h.cY,h.okw,h.len⟩
def AX.aw {w:D0} {base n:Nat} {L:Ar} (h:AX w base n L k) (c:AQ L b):base<=b/\b<w.heap.size:=by
 rcases c with rfl|rfl|c
 ·exact⟨h.log,h.ak.lt⟩
 ·exact⟨h.loh,h.holds.lt⟩
 ·exact h.row.lt b c
def AX.aC {w:D0} {base n:Nat} {L:Ar} (h:AX w base n L k) (c:VP w.heap.size w w'):AX w' base n L k:=
 h.fr (S:=fun b=>w.heap.size<=b) ⟨c.os,c.tape,c.output,c.size,fun i _ f=>c.block i (by omega)⟩ (fun b d p=>by have:=(h.aw d).2;omega)
def AX.mono {w:D0} {base n n':Nat} {L:Ar} {k:Kx} (h:AX w base n L k) (c:n<=n'):AX w base n' L k:=
 ⟨h.ak,h.holds.mono c,h.row,h.log,h.loh,h.cY,h.okw,h.len⟩
def Qq {left:α->Bool} {p o:α} {_:Decidable (p=o)} (h:(left p && !decide (p=o))=Jx):left p=Jx\/p=o:=by
 by_cases e:p=o
 ·exact .inr e
 ·left;simpa [e] using h
def FtRel (g c n:Nat) (h:Int->Option Int) (tx mode:Int) (w:D0) (wr:D0):Prop:=
 ∃ (left:Int->Bool) (cnt:Nat),DE kI wr c w.heap.size n (hM h) left cnt/\(∀ o m,h o=Bs m->left o=Jx->o≠tx->AI m mode=Jx)/\VP w.heap.size w wr
def FtPost (h:Int->Option Int) (tx mode:Int) (w:D0) (e:WC) (w':D0):Prop:=∃ b:Bool,e=.returned (.bool b)/\(b=VJ↔NF h tx mode)/\VP w.heap.size w w'
def RP (g J n:Nat) (V:O0) (h:Int->Option Int) (tx mode:Int) (w:D0) (B:Ae w g 168 #[.map (Bs J),V]) (U:Ab kI w J n (hM h)) (O:∀ o m,h o=Bs m->Cq o/\Cq m) :
  VY Tryz.prog 112 #[.pointer (Bs ⟨g,0,B0⟩),.int .i64 tx,.int .i64 mode] w (FtPost h tx mode w):=by
 have c0:=B.cell 0;simp only[Hi,Ft] at c0;have ac:=B.lt;have aa:=LH O;clear O;have HM:=LH U;clear U;go_enter Tryz.func112,Tryz.ntmps112;go_wp2_with (at_range;refine q2u rfl _ 61 3 rfl Tryz.underlying61 rfl HM.o ?_;intro w0 a0 A X BD)
 go_frame
 go_loopw [7] (fun _ wr=>FtRel g J n h tx mode w wr) (fun _ wr=>wr.rangeLeft J w.heap.size)
 case atStart=>
  refine⟨_,a0,A,fun o m ho hl=>?_,X.bb⟩;simp[hM,ho] at hl
 case round=>
  obtain⟨left,cnt,N,R,Y⟩:=hrel;have a2:=LH N;have a3:=LH R;clear R;have I:=LH Y;clear Y;clear N;go_wp2_with (at_next;refine q3c rfl _ rfl rfl a2.o ?_ ?_)
  ·intro a7;go_wp2_with fail;go_ret;exact⟨VJ,rfl,by
    simp only[true_iff];exact fun o m ho d=>a3.o o m ho (a7 o (aa.o o m ho).1) d,I.o⟩
  ·intro o v w1 D ab a6 c z W a8 a5 a9;obtain⟨m,U,rfl⟩:∃ m,h o=Bs m/\v=.int .i64 m:=by
    unfold hM at c;cases e:h o with
    | none=>rw[e] at c;cases c
    | some m=>rw[e] at c;injection c with c;exact⟨m,rfl,c.symm⟩
   have Z:VP w.heap.size w w1:=I.o.trans (a8.below (fun i (hi:i=_)=>by omega) I.o.size);have y:=LH Z;clear Z;have F:=LH U;clear U;have q:=LH z;clear z c a6;rw[show kI.val o=Wp .i64 o from rfl] at a9 ⊢;have f:(o≠tx->AI m mode=Jx)->∀ p m,h p=Bs m->(left p=Jx\/p=o)->p≠tx->AI m mode=Jx:=fun hc p M s hl d=>by
    rcases hl with hl|e
    ·exact a3.o p M s hl d
    ·subst e;rw[F.o] at s;injection s with s;rw[<- s];exact hc d
   have a1:=LH f;clear f;have S:w1.rangeLeft J w.heap.size<wr.rangeLeft J w.heap.size:=by
    rw[q.o.left_eq,a2.o.left_eq];exact W
   have a4:=LH S;clear S W a5 BD X A;by_cases u:o=tx
   ·have d1:(o != tx)=Jx:=by simpa using u
    have G:=LH (a1.o (fun d=>absurd u d));clear u;go_wp2_with fail;go_roundw
    case rel=>exact⟨_,D,q.o,fun p M s hl=>G.o p M s (Qq hl),y.o⟩
    case measure=>exact a4.o
   ·have d1:(o != tx)=VJ:=by simpa using u
    by_cases E:m=2
    ·have d2:(m == 2)=VJ:=by simpa using E
     have G:=LH (show ¬NF h tx mode from fun hf=>by have:=hf o m F.o u;rw[E] at this;simp[AI] at this);clear u;clear E;go_wp2_with fail;go_ret;exact⟨Jx,rfl,by simp only[X3,false_iff];exact G.o,y.o⟩
    ·have d2:(m == 2)=Jx:=by simpa using E
     by_cases L:mode=2
     ·have d3:(mode == 2)=VJ:=by simpa using L
      have G:=LH (show ¬NF h tx mode from fun hf=>by have:=hf o m F.o u;rw[L] at this;simp[AI] at this);clear u E L;go_wp2_with fail;go_ret;exact⟨Jx,rfl,by simp only[X3,false_iff];exact G.o,y.o⟩
     ·have d3:(mode == 2)=Jx:=by simpa using L
      have G:=LH (a1.o (fun _=>by simp[AI,E,L]));clear u E L;go_wp2_with fail;go_roundw
      case rel=>exact⟨_,D,q.o,fun p M s hl=>G.o p M s (Qq hl),y.o⟩
      case measure=>exact a4.o
def Vl:∀ (l:List (Int×Int)) (j:Nat) (x:Int×Int),l[j]? = Bs x->∀ i,i<2->(l.flatMap Cp)[j*2+i]? = (Cp x)[i]?
 | [],j,p,h,i,c=>by simp at h
 | q::l,0,p,h,i,c=>by
  simp at h;subst h;rw[VM,Wg (by show _<2;omega)];simp
 | q::l,j+1,p,h,i,c=>by
  have f:l[j]? = Bs p:=by simpa using h
  have e:(j+1)*2+i=(j*2+i)+2:=by omega
  have d:(Cp q).length=2:=rfl;rw[e,VM,Wk (by rw[d];omega),d,Xi];exact Vl l j p f i c
def Rd.bP {w:D0} {n:Nat} {l:List (Int×Int)} (h:Rd w B 2 A n (l.flatMap Cp)) (hl:l.length=n) (p:j<n):∃ g off x,A=Bs ⟨g,off,B0⟩/\g<B/\l[j]? = Bs x/\
  w.cell? ⟨g,off+j*2,B0⟩=Bs (.int .i64 x.1)/\w.cell? ⟨g,off+j*2+1,B0⟩=Bs (.int .i64 x.2):=by
 obtain⟨g,off,e,i,f⟩:=h.2 (by omega);have c:l[j]? = Bs l[j]:=L1 (by omega);have d:=Vl l j _ c;exact⟨g,off,l[j],e,i,c,f (j*2) _ (d 0 (by omega)),f (j*2+1) _ (d 1 (by omega))⟩
def UF (x:Int×Int):O0:=.agg #[.int .i64 x.1,.int .i64 x.2]
def Kc (F:Nat) (lb:Array O0) (p:Int×Int->Bool) (w:D0):Prop:=
 ∀ (W:D0) (x:Int×Int),VP w.heap.size w W->VY Tryz.prog F (#[UF x]++lb) W fun e w'=>e=.returned (.bool (p x))/\VP W.heap.size W w'
def CE (p:Int×Int->Bool) (L:List (Int×Int)):Int:=match L.findIdx? p with|some i=>(i:Int)|none=>-1
def PZ (p:Int×Int->Bool) (L:List (Int×Int)):decide (0<=CE p L)=L.any p:=by
 unfold CE;rcases h:L.findIdx? p with _|i
 ·rw[Wn] at h;have:L.any p=Jx:=by rw[Xp];intro x c;simp[h x c]
  rw[this];rfl
 ·rw[VU] at h;obtain⟨hl,d,_⟩:=h;have:L.any p=VJ:=by rw[XZ];exact⟨L[i],Wv hl,d⟩
  rw[this];simp
def S6 (p:Int×Int->Bool) (L:List (Int×Int)):-1<=CE p L/\CE p L<=L.length:=by
 unfold CE;rcases h:L.findIdx? p with _|i
 ·simp only;omega
 ·rw[VU] at h;obtain⟨hl,c,_⟩:=h;simp only;omega
def WiRel (p:Int×Int->Bool) (L:List (Int×Int)) (n:Nat) (w:D0) (v:O0) (wr:D0):Prop:=∃ j:Nat,v=.int .i64 j/\j<=n/\(∀ x∈L.take j,p x=Jx)/\VP w.heap.size w wr
def q7k (F:Nat) (lb:Array O0) (p:Int×Int->Bool) (A:Option XL) (n k:Nat) (L:List (Int×Int)) (w:D0) (eg:∀ args w,(XP F args).run Tryz.prog w=.ok (.enter F args) w)
  (f:Kc F lb p w) (S:Rd w w.heap.size 2 A n (L.flatMap Cp)) (hl:L.length=n) (hn:n<=100000) :
  VY Tryz.prog 111 #[.slice A n k,.func (.func F) #[] lb] w fun e w'=>e=.returned (.int .i64 (CE p L))/\VP w.heap.size w w':=by
 have Z:=LH S;clear S;have HP:=LH f;clear f;go_enter Tryz.func111,Tryz.ntmps111;go_wp2_with fail;go_loopw [8] (WiRel p L n w) (fun v _=>n-(intOf v).toNat)
 case atStart=>exact⟨0,rfl,VN _,(fun x D=>by simp at D),VK _ _⟩
 case round=>
  obtain⟨j,rfl,hj,q,d⟩:=hrel;by_cases W:(j:Int)<n
  ·obtain⟨Y,o',x,rfl,R,D,h0,h1⟩:=(Z.o.below d).bP hl (j:=j) (by omega);have X:Y<wr.heap.size:=VL R d.size;have c:=HP.o wr x d;have M:j<L.length:=by omega
   have B:p x=VJ->CE p L=j:=fun f=>by
    have:L.findIdx? p=Bs j:=by
     rw[VU];refine⟨M,?_,fun i hi=>?_⟩
     ·rw[<- Option.some.inj ((L1 M).symm.trans D)] at f;exact f
     ·simp only[Bool.not_eq_true];exact q _ (by rw[List.mem_take_iff_getElem];exact⟨i,by omega,rfl⟩)
    unfold CE;rw[this]
   have s:p x=Jx->∀ y∈L.take (j+1),p y=Jx:=fun f y E=>by
    rw[VX,D] at E;rcases List.mem_append.1 E with E|E
    ·exact q y E
    ·simp at E;rw[E];exact f
   have N:=LH B;clear B;have G:=LH s;clear s;have a0:=LH q;clear q;have HX:=LH D;clear D;unfold UF at c;rcases f:p x with _|_
   ·rw[f] at c;have I:=LH f;clear f;have O:=LH c;clear c;go_wp2_with fail;refine O.o.mono ?_;rintro e U ⟨rfl,z⟩;clear O;have J:=LH (d.trans (z.mono d.size));clear z;go_wp2_with fail;go_roundw
    case rel=>exact⟨j+1,rfl,by omega,G.o I.o,J.o⟩
    case measure=>simp[intOf];omega
   ·rw[f] at c;have I:=LH f;clear f;have O:=LH c;clear c;go_wp2_with fail;refine O.o.mono ?_;rintro e U ⟨rfl,z⟩;clear O;have J:=LH (d.trans (z.mono d.size));clear z;go_wp2_with fail;go_ret;exact⟨by rw[N.o I.o];rfl,J.o⟩
  ·obtain rfl:j=n:=by omega
   have u:CE p L = -1:=by
    have:L.findIdx? p=B0:=by
     rw[Wn];intro x D;exact q x (by rw[V0 (by omega)];exact D)
    unfold CE;rw[this]
   have HN:=LH u;clear u q;go_wp2_with fail;go_ret;rw[HN.o];exact⟨rfl,d⟩
def q3l (F:Nat) (lb:Array O0) (p:Int×Int->Bool) (A:Option XL) (n k:Nat) (L:List (Int×Int)) (w:D0) (y:∀ args w,(XP F args).run Tryz.prog w=.ok (.enter F args) w)
  (q:Kc F lb p w) (i:Rd w w.heap.size 2 A n (L.flatMap Cp)) (hl:L.length=n) (u:n<=100000) :
  VY Tryz.prog 86 #[.slice A n k,.func (.func F) #[] lb] w fun e w'=>e=.returned (.bool (L.any p))/\VP w.heap.size w w':=by
 have c:=q7k F lb p A n k L w y q i hl u;have s:=PZ p L;have f:=LH c;clear c q i;have B:=LH s;clear s;have v:=S6 p L;generalize CE p L=z at *;go_enter Tryz.func86,Tryz.ntmps86;go_wp2_with fail;refine f.o.mono ?_;rintro e D ⟨rfl,d⟩;go_wp2_with fail;go_ret;rw[<- B.o];exact⟨rfl,d⟩
def Pd (tx mode:Int) (x:Int×Int):Bool:=decide (x.1<tx) && AI x.2 mode
def Pi (c:List (Int×Int)) (tx mode:Int):US c tx mode=c.any (Pd tx mode):=rfl
def q52 {w:D0} (h:VP w.heap.size w W) {p:XL} (c:w.cell? p=Bs v):W.cell? p=Bs v:=(h.cell (p:=p) (Wa w _ c)).trans c
def qa2 (b:Nat) (tx:Int) (w:D0) (d:w.cell? ⟨b,0,B0⟩=Bs (.int .i64 tx)):Kc 87 #[.pointer (Bs ⟨b,0,B0⟩)] (fun x=>decide (x.1=tx)) w:=by
 intro W x p;have d:=q52 p d;have i:=Wa W _ d;have c:∀ o,VP W.heap.size W (W.alloc o):=fun o=>(VK _ _).alloc (K0 _) _
 have f:=LH c;clear c;unfold UF;show VY _ _ #[_,_] _ _;go_enter Tryz.func87,Tryz.ntmps87;go_wp2_with fail;go_ret;exact⟨rfl,f.o _⟩
def q5d (b:Nat) (tx:Int) (w:D0) (d:w.cell? ⟨b,0,B0⟩=Bs (.int .i64 tx)):Kc 103 #[.pointer (Bs ⟨b,0,B0⟩)] (fun x=>decide (x.1=tx)) w:=by
 intro W x p;have d:=q52 p d;have i:=Wa W _ d;have c:∀ o,VP W.heap.size W (W.alloc o):=fun o=>(VK _ _).alloc (K0 _) _
 have f:=LH c;clear c;unfold UF;show VY _ _ #[_,_] _ _;go_enter Tryz.func103,Tryz.ntmps103;go_wp2_with fail;go_ret;exact⟨rfl,f.o _⟩
def O6 (b c:Nat) (tx mode:Int) (w:D0) (u:w.cell? ⟨b,0,B0⟩=Bs (.int .i64 tx)) (s:w.cell? ⟨c,0,B0⟩=Bs (.int .i64 mode)) :
  Kc 113 #[.pointer (Bs ⟨b,0,B0⟩),.pointer (Bs ⟨c,0,B0⟩)] (Pd tx mode) w:=by
 intro W x y;have u:=q52 y u;have s:=q52 y s;have z:=Wa W _ u;have v:=Wa W _ s;have p:∀ o,VP W.heap.size W (W.alloc o):=fun o=>(VK _ _).alloc (K0 _) _
 have f:=LH p;clear p;unfold UF;show VY _ _ #[_,_,_] _ _;by_cases d:x.1<tx
 ·have B:decide (x.1<tx)=VJ:=decide_eq_true d;by_cases i:x.2=2
  ·have A:(x.2 == 2)=VJ:=by simpa using i
   have q:=LH (show Pd tx mode x=VJ by simp[Pd,AI,d,i]);clear d i;go_enter Tryz.func113,Tryz.ntmps113;go_wp2_with fail;go_ret;rw[q.o];exact⟨rfl,f.o _⟩
  ·have A:(x.2 == 2)=Jx:=by simpa using i
   have q:=LH (show Pd tx mode x=(mode == 2) by rw[XU];simp[Pd,AI,d,i]);clear d i;go_enter Tryz.func113,Tryz.ntmps113;go_wp2_with fail;go_ret;rw[q.o];exact⟨rfl,f.o _⟩
 ·have B:decide (x.1<tx)=Jx:=decide_eq_false d;have q:=LH (show Pd tx mode x=Jx by simp[Pd,d]);clear d;go_enter Tryz.func113,Tryz.ntmps113;go_wp2_with fail;go_ret;rw[q.o];exact⟨rfl,f.o _⟩
def Pw {P:Xc} {f:FuncId} {i:Func} {c:Code} (p:P.funcs[f]? = Bs i) (d:(i.name == "runtime.NumGoroutine")=Jx) (q:i.body=Bs c):∀ (args:Array O0) (w:D0),(XP f args).run P w=.ok (.enter f args) w:=by
 intro args w;have s:i.name ≠ "runtime.NumGoroutine" := by simpa using d
 simp[XP,p,s,q,mark]
def qcu {w:D0} {n:Nat} (i:Ab kI w c n (hM h)) (f:Cq tx):(XQ 61 (.map (Bs c)) (.int .i64 tx) Jx).run Tryz.prog w=.ok (.int .i64 (AA h tx)) w:=by
 have d:(Yd 3).run Tryz.prog w=.ok (.int .i64 0) w:=by kernel_rfl
 have:=(i.look Tryz.underlying61 d (x:=tx) f).2;rw[show kI.val tx=Wp .i64 tx from rfl] at this;rw[this];unfold hM AA;cases h tx <;> rfl
def qcv (g M n Z kk:Nat) (V:O0) (h:Int->Option Int) (tx mode:Int) (A:Option XL) (B:List (Int×Int)) (w:D0) (s:Ae w g 168 #[.map (Bs M),V]) (Y:Ab kI w M n (hM h)) (a1:∀ o m,h o=Bs m->Cq o/\Cq m)
  (a0:Cq tx) (hr:Rd w w.heap.size 2 A Z (B.flatMap Cp)) (hl:B.length=Z) (hn:Z<=100000) :
  VY Tryz.prog 88 #[.pointer (Bs ⟨g,0,B0⟩),.int .i64 tx,.int .i64 mode,.slice A Z kk] w fun e w'=>e=.returned (.bool (Ai h tx mode B))/\VP w.heap.size w w':=by
 have E:VP w.heap.size w ((w.alloc (.cells #[.int .i64 tx] 3)).alloc (.cells #[.int .i64 mode] 3)):=((VK _ _).alloc (K0 _) _).alloc (by simp) _;have a8:Ae ((w.alloc (.cells #[.int .i64 tx] 3)).alloc (.cells #[.int .i64 mode] 3)) w.heap.size 3 #[.int .i64 tx]:=(Ae.new w _ _).alloc _;have D:Ae ((w.alloc (.cells #[.int .i64 tx] 3)).alloc (.cells #[.int .i64 mode] 3)) (w.heap.size+1) 3 #[.int .i64 mode]:=by
  have:=Ae.new (w.alloc (.cells #[.int .i64 tx] 3)) 3 #[.int .i64 mode];simpa using this
 have L:w.heap.size+2=((w.alloc (.cells #[.int .i64 tx] 3)).alloc (.cells #[.int .i64 mode] 3)).heap.size:=by simp
 have S:=s.lt;have p:∀ w',VP (w.heap.size+2) ((w.alloc (.cells #[.int .i64 tx] 3)).alloc (.cells #[.int .i64 mode] 3)) w'->
   w'.cell? ⟨g,0,B0⟩=Bs (.map (Bs M))/\w'.cell? ⟨w.heap.size,0,B0⟩=Bs (.int .i64 tx)/\w'.cell? ⟨w.heap.size+1,0,B0⟩=Bs (.int .i64 mode)/\Ab kI w' M n (hM h):=fun w' f=>by
  have c0:=(((s.below E S).below f (by omega)).cell 0)
  have c1:=((a8.below f (by omega)).cell 0)
  have c2:=((D.below f (by omega)).cell 0)
  exact⟨c0,c1,c2,(Y.below E Y.lt).below f (by have:=Y.lt;omega)⟩
 have a2:=fun w' (f:VP w.heap.size w w')=>RP g M n V h tx mode w' (s.below f S) (Y.below f Y.lt) a1
 have u:∀ w',VP (w.heap.size+2) ((w.alloc (.cells #[.int .i64 tx] 3)).alloc (.cells #[.int .i64 mode] 3)) w'->VP w.heap.size w w':=fun w' f=>E.trans (f.mono (by omega))
 have a4:=fun w' (f:VP (w.heap.size+2) ((w.alloc (.cells #[.int .i64 tx] 3)).alloc (.cells #[.int .i64 mode] 3)) w')=>q3l 113 #[.pointer (Bs ⟨w.heap.size,0,B0⟩),.pointer (Bs ⟨w.heap.size+1,0,B0⟩)] (Pd tx mode) A Z kk B w' (Pw Tryz.func113 (by kernel_rfl) rfl)
   (O6 w.heap.size (w.heap.size+1) tx mode w' (p w' f).2.1 (p w' f).2.2.1) ((hr.below (u w' f)).more (u w' f).size) hl hn
 have y:=LH p;clear p;have ae:=LH a2;clear a2;have ag:=LH a4;clear a4;have z:=LH u;clear u;have a9:=LH a0;clear a0;clear s Y a1 hr a8 D S;have J:=LH (VK (w.heap.size+2) ((w.alloc (.cells #[.int .i64 tx] 3)).alloc (.cells #[.int .i64 mode] 3)));by_cases i:mode<=AA h tx
 ·have d1:decide (mode<=AA h tx)=VJ:=decide_eq_true i;have HF:=LH (QR.2 (show Cc h tx mode B from .inl i));clear i;go_enter Tryz.func88,Tryz.ntmps88;go_upto_region 1 with (fail)
  have HZ:=LH L;clear E L;generalize (w.alloc (.cells #[.int .i64 tx] 3)).alloc (.cells #[.int .i64 mode] 3)=X at *;refine nW ?_;refine SJ (fun w'=>w'.cell? ⟨g,0,B0⟩=Bs (.map (Bs M))/\w'.cell? ⟨w.heap.size,0,B0⟩=Bs (.int .i64 tx)/\w'.cell? ⟨w.heap.size+1,0,B0⟩=Bs (.int .i64 mode)/\Ab kI w' M n (hM h)) 21 ?_;have c:=y.o X.drew J.o.drew;refine nE 0 c ?_;refine nE 1 c ?_;refine nE 2 c ?_;refine nC 3 rfl (fun _ _ _ h=>h) c (fun w' d=>by obtain⟨O,i,N,F⟩:=d;go_simp;rfl) ?_;refine nC 4 rfl (fun _ _ _ h=>h) c (fun w' d=>by obtain⟨O,i,N,F⟩:=d;go_simp;rfl) ?_;refine nC 5 rfl (fun _ _ _ h=>h) c (fun w' d=>by obtain⟨O,i,N,F⟩:=d;have ac:=qcu F a9.o;go_simp;rfl) ?_;refine nC 6 rfl (fun _ _ _ h=>h) c (fun w' d=>by obtain⟨O,i,N,F⟩:=d;go_simp;rfl) ?_;refine nE 7 c ?_;refine nE 8 c ?_;refine B8 9 rfl (by kernel_rfl) (by kernel_rfl) (by kernel_rfl) (by kernel_rfl) (fun _ _ _ h=>h) (by kernel_rfl) c ?_;refine B8 10 rfl (by kernel_rfl) (by kernel_rfl) (by kernel_rfl) (by kernel_rfl) (fun _ _ _ h=>h) (by kernel_rfl) c ?_;refine B8 11 rfl (by kernel_rfl) (by kernel_rfl) (by kernel_rfl) (by kernel_rfl) (fun _ _ _ h=>h) (by kernel_rfl) c ?_;refine B8 12 rfl (by kernel_rfl) (by kernel_rfl) (by kernel_rfl) (by kernel_rfl) (fun _ _ _ h=>h) (by kernel_rfl) c ?_;refine B8 13 rfl (by kernel_rfl) (by kernel_rfl) (by kernel_rfl) (by kernel_rfl) (fun _ _ _ h=>h) (by kernel_rfl) c ?_;refine B8 14 rfl (by kernel_rfl) (by kernel_rfl) (by kernel_rfl) (by kernel_rfl) (fun _ _ _ h=>h) (by kernel_rfl) c ?_;refine B8 15 rfl (by kernel_rfl) (by kernel_rfl) (by kernel_rfl) (by kernel_rfl) (fun _ _ _ h=>h) (by kernel_rfl) c ?_;refine B8 16 rfl (by kernel_rfl) (by kernel_rfl) (by kernel_rfl) (by kernel_rfl) (fun _ _ _ h=>h) (by kernel_rfl) c ?_;refine B8 17 rfl (by kernel_rfl) (by kernel_rfl) (by kernel_rfl) (by kernel_rfl) (fun _ _ _ h=>h) (by kernel_rfl) c ?_;refine B8 18 rfl (by kernel_rfl) (by kernel_rfl) (by kernel_rfl) (by kernel_rfl) (fun _ _ _ h=>h) (by kernel_rfl) c ?_;refine nE 19 c ?_;refine nG 20 (fun K v=>?_);go_simp;refine v _ _ (fun _=>c) ?_;clear v K;refine nX ?_;clear c;go_wp2_with fail;go_ret;rw[HF.o];exact⟨rfl,z.o _ J.o.drew⟩
 ·have d1:decide (mode<=AA h tx)=Jx:=decide_eq_false i;have HN:=LH i;clear i;go_enter Tryz.func88,Tryz.ntmps88;go_upto_region 1 with (fail)
  have HZ:=LH L;clear E L;generalize (w.alloc (.cells #[.int .i64 tx] 3)).alloc (.cells #[.int .i64 mode] 3)=X at *;refine nW ?_;refine SJ (fun w'=>w'.cell? ⟨g,0,B0⟩=Bs (.map (Bs M))/\w'.cell? ⟨w.heap.size,0,B0⟩=Bs (.int .i64 tx)/\w'.cell? ⟨w.heap.size+1,0,B0⟩=Bs (.int .i64 mode)/\Ab kI w' M n (hM h)) 21 ?_;have c:=y.o X.drew J.o.drew;refine nE 0 c ?_;refine nE 1 c ?_;refine nE 2 c ?_;refine nC 3 rfl (fun _ _ _ h=>h) c (fun w' d=>by obtain⟨O,i,N,F⟩:=d;go_simp;rfl) ?_;refine nC 4 rfl (fun _ _ _ h=>h) c (fun w' d=>by obtain⟨O,i,N,F⟩:=d;go_simp;rfl) ?_;refine nC 5 rfl (fun _ _ _ h=>h) c (fun w' d=>by obtain⟨O,i,N,F⟩:=d;have ac:=qcu F a9.o;go_simp;rfl) ?_;refine nC 6 rfl (fun _ _ _ h=>h) c (fun w' d=>by obtain⟨O,i,N,F⟩:=d;go_simp;rfl) ?_;refine nE 7 c ?_;refine nE 8 c ?_;refine nE 9 c ?_;refine nC 10 rfl (fun _ _ _ h=>h) c (fun w' d=>by obtain⟨O,i,N,F⟩:=d;go_simp;rfl) ?_;refine nC 11 rfl (fun _ _ _ h=>h) c (fun w' d=>by obtain⟨O,i,N,F⟩:=d;go_simp;rfl) ?_;refine nG 12 (fun K v=>?_);go_simp;refine(ae.o X.drew (z.o _ J.o.drew)).mono ?_;rintro e w2 ⟨b,rfl,a5,a7⟩;have D:VP (w.heap.size+2) X w2:=J.o.drew.trans (a7.mono (by have:=HZ.o;simp;omega));have I:=y.o w2 D;have R:=LH D;clear D a7;have aa:=LH a5;clear a5;go_simp;refine v _ _ (fun _=>I) ?_;clear v K c;have c:=I;clear I;rcases b with _|_
  ·have HF:Hid (Ai h tx mode B=Jx):=LH (qa7.2 (fun hf=>by
    rcases hf with hf|hf
    ·exact HN.o hf
    ·exact absurd (aa.o.2 hf.1) (by simp)))
   refine nE 13 c ?_;refine B8 14 rfl (by kernel_rfl) (by kernel_rfl) (by kernel_rfl) (by kernel_rfl) (fun _ _ _ h=>h) (by kernel_rfl) c ?_;refine B8 15 rfl (by kernel_rfl) (by kernel_rfl) (by kernel_rfl) (by kernel_rfl) (fun _ _ _ h=>h) (by kernel_rfl) c ?_;refine B8 16 rfl (by kernel_rfl) (by kernel_rfl) (by kernel_rfl) (by kernel_rfl) (fun _ _ _ h=>h) (by kernel_rfl) c ?_;refine B8 17 rfl (by kernel_rfl) (by kernel_rfl) (by kernel_rfl) (by kernel_rfl) (fun _ _ _ h=>h) (by kernel_rfl) c ?_;refine nE 18 c ?_;refine nE 19 c ?_;refine nG 20 (fun K v=>?_);go_simp;refine v _ _ (fun _=>c) ?_;clear v K;refine nX ?_;clear c;go_wp2_with fail;go_ret;rw[HF.o];exact⟨rfl,z.o _ R.o⟩
  ·have hF:Ai h tx mode B = !(B.any (Pd tx mode)):=by
    rw[XU,QR];have a3:=aa.o.1 rfl;have ab:=HN.o;have ad:=Pi B tx mode;unfold Cc;rw[ad];cases B.any (Pd tx mode) <;> simp[a3,ab]
   have HF:=LH hF;clear hF;refine nE 13 c ?_;refine nE 14 c ?_;refine nE 15 c ?_;refine nG 16 (fun K v=>?_);go_simp;refine(ag.o w2 R.o).mono ?_;rintro e w3 ⟨rfl,a6⟩;have W:VP (w.heap.size+2) X w3:=R.o.trans (a6.mono (by have:=R.o.size;have:=HZ.o;omega));have G:=y.o w3 W;have ah:=LH W;clear W a6;go_simp;refine v _ _ (fun _=>G) ?_;clear v K c;have c:=G;clear G;have U:Ai h tx mode B = !(B.any (Pd tx mode)):=HF.o;generalize B.any (Pd tx mode)=q at U ⊢;have af:=LH U;clear U;refine nE 17 c ?_;refine nE 18 c ?_;refine nE 19 c ?_;refine nG 20 (fun K v=>?_);go_simp;refine v _ _ (fun _=>c) ?_;clear v K;refine nX ?_;clear c;go_wp2_with fail;go_ret;rw[af.o];exact⟨rfl,z.o _ ah.o⟩
abbrev sx (s:ByteArray):Sx:=s.data.toList
def Bf (loc:Sx->Ar) (T:Tb):ByteArray->Option O0:=fun s=>(T (sx s)).map fun _=>.pointer (Bs ⟨(loc (sx s)).g,0,B0⟩)
def J9 (w:D0) (n:Nat) (mb:Option Nat) (loc:Sx->Ar) (T:Tb):Prop:=
 match mb with
 | none=>∀ x,T x=B0
 | some b=>Ab kS w b n (Bf loc T)
structure AB (w:D0) (base n g off:Nat) (ty:VV) (cs:Array O0) (mb:Option Nat) (loc:Sx->Ar) (T:Tb):Prop where
 ak:Ae w g ty cs
 c0:cs[off]? = Bs (.map mb)
 map:J9 w n mb loc T
 keys:∀ x k,T x=Bs k->AX w base n (loc x) k
 apart:∀ x y,x≠y->T x≠B0->T y≠B0->∀ b,AQ (loc x) b->¬AQ (loc y) b
 small:∀ x,T x≠B0->x.length<=20
 ne:ty≠168/\ty≠166
 cN:∀ b,mb=Bs b->base<=b
 cd:∀ x,T x≠B0->Bs (loc x).hb≠mb
 bg:base<=w.heap.size
def AE (mb:Option Nat) (loc:Sx->Ar) (T:Tb) (b:Nat):Prop:=Bs b=mb\/∃ x,T x≠B0/\AQ (loc x) b
section
variable {w w':D0} {base n g off:Nat} {ty:VV} {cs:Array O0} {mb:Option Nat} {loc:Sx->Ar} {T:Tb}
def J9.fr {S:Nat->Prop} (h:J9 w n mb loc T) (d:Fr S w w') (c:∀ b,Bs b=mb->¬S b):J9 w' n mb loc T:=by
 unfold J9 at h ⊢;rcases mb with _|b
 ·exact h
 ·exact h.fr d (c b rfl)
def AB.fr {S:Nat->Prop} (h:AB w base n g off ty cs mb loc T) (c:Fr S w w') (p:¬S g) (i:∀ b,AE mb loc T b->¬S b):AB w' base n g off ty cs mb loc T:=
 ⟨c.ak h.ak p,h.c0,h.map.fr c (fun b d=>i b (.inl d)),fun x k f=>(h.keys x k f).fr c (fun b d=>i b (.inr ⟨x,by rw[f];simp,d⟩)),h.apart,h.small,h.ne,h.cN,h.cd,VO h.bg c.size⟩
def AB.mono (h:AB w base n g off ty cs mb loc T) {n':Nat} (c:n<=n'):AB w base n' g off ty cs mb loc T:=
 ⟨h.ak,h.c0,by
  have:=h.map;unfold J9 at this ⊢;rcases mb with _|b
  ·exact this
  ·exact Ab.mono this c,fun x k d=>(h.keys x k d).mono c,h.apart,h.small,h.ne,h.cN,h.cd,h.bg⟩
def AB.aw (h:AB w base n g off ty cs mb loc T) (c:AE mb loc T b):base<=b/\b<w.heap.size:=by
 rcases c with c|⟨x,d,c⟩
 ·refine⟨h.cN b c.symm,?_⟩;have:=h.map;rw[<- c] at this;exact Ab.lt (C:=kS) this
 ·obtain⟨k,f⟩:=Option.ne_none_iff_exists'.1 d;exact(h.keys x k f).aw c
def AB.aC (h:AB w base n g off ty cs mb loc T) (c:VP w.heap.size w w'):AB w' base n g off ty cs mb loc T:=
 h.fr (S:=fun b=>w.heap.size<=b) ⟨c.os,c.tape,c.output,c.size,fun i _ p=>c.block i (by omega)⟩ (fun f=>by have:=h.ak.lt;omega) (fun b d f=>by have:=(h.aw d).2;omega)
def AB.dr (h:AB w base n g off ty cs mb loc T) (f:T x=Bs k) (d:AQ (loc x) b):b≠g:=by
 have c:=h.keys x k f;rcases d with rfl|rfl|d
 ·exact c.ak.ne_ h.ak (fun e=>h.ne.1 e.symm)
 ·exact c.holds.aB h.ak
 ·rintro rfl;exact Bh c.row h.ak (fun e=>h.ne.2 e.symm) d
def AB.bB (h:AB w base n g off ty cs mb loc T) (i:T x=Bs k) (q:mb=Bs c) (f:AQ (loc x) b):b≠c:=by
 have p:=h.keys x k i;have d:=h.map;rw[q] at d;rcases f with rfl|rfl|f
 ·exact fun e=>(Ab.aB (C:=kS) d p.ak) e.symm
 ·have:=h.cd x (by rw[i];simp);rw[q] at this;exact fun e=>this (by rw[e])
 ·rintro rfl;exact Ab.aL (C:=kS) d p.row f
end
def DT (h:X[i]? = Bs v):X.setIfInBounds i v=X:=by
 apply Array.ext
 ·simp
 ·intro j d c;rw[Array.getElem_setIfInBounds];split
  ·rename_i e;subst e;rw[Array.getElem?_eq_getElem c] at h;injection h with h;exact h.symm
  ·rfl
def Dz {P:Xc} (w:D0) (t k e:VV) (m:Option Nat) (h:P.underlying t=Bs (.map k e)):(binOp .eql t (.map m) (.map B0)).run P w=.ok (.bool m.isNone) w:=by
 simp only[binOp];simp[run_equal_map_nil w t k e m h]
def Qj {w:D0} {base n g:Nat} {loc:Sx->Ar} (h:AB w base n g j kt X B0 loc T) :
  AB ((w.alloc (.map #[] 0)).setCell ⟨g,j,B0⟩ (.map (Bs w.heap.size))) base n g j kt (X.setIfInBounds j (.map (Bs w.heap.size))) (Bs w.heap.size) loc T:=by
 have f:j<X.size:=by
  have:=h.c0;rcases W7 j X.size with h|h
  ·exact h
  ·rw[WW (by simpa using h)] at this;cases this
 have d:∀ x,T x=B0:=h.map;have p:Ab kS (w.alloc (.map #[] 0)) w.heap.size n (Bf loc T):=by
  have e:Bf loc T=fun _=>B0:=by funext s;unfold Bf;rw[d];rfl
  rw[e];exact(Ab.made kS w).mono (VN _)
 have q:=h.ak.lt;refine⟨(h.ak.alloc _).aH _ _,by simp[f],p.fr (Fr.a6 g (w.alloc (.map #[] 0)) j (.map (Bs w.heap.size))) (fun e=>by omega),fun x k c=>(by rw[d] at c;cases c),fun x y _ c=>absurd (d x) c,fun x c=>absurd (d x) c,h.ne,fun b i=>?_,fun x c=>absurd (d x) c,?_⟩
 ·injection i with i;rw[<- i];exact h.bg
 ·have:=h.bg;simp;omega
def Kl (w:D0):Ar:=⟨w.heap.size+1,w.heap.size,.slice B0 0 0⟩
def Ax (loc:Sx->Ar) (x:Sx) (L:Ar):Sx->Ar:=fun y=>if y=x then L else loc y
def qb3 {t:ByteArray} (h:sx s=sx t):s=t:=by
 have:s.data=t.data:=Array.ext' h;cases s;cases t;simp_all
def OH (loc:Sx->Ar) (T:Tb) (s:ByteArray) (L:Ar) (k:Kx):AU (Bf loc T) s (Bs (.pointer (Bs ⟨L.g,0,B0⟩)))=Bf (Ax loc (sx s) L) (Ao T (sx s) (Bs k)):=by
 funext t;unfold AU Bf Ax Ao;by_cases e:t=s
 ·subst e;simp
 ·have:¬sx t=sx s:=fun h=>e (qb3 h)
  simp[e,this]
def Th {w B:D0} {base n g:Nat} {cs:Array O0} {loc:Sx->Ar} (h:AB w base n g j kt cs (Bs b) loc T) (Z:T (sx s)=B0) (hs:(sx s).length<=20)
  (S:Ab kS B b (n+1) (AU (Bf loc T) s (Bs (.pointer (Bs ⟨w.heap.size+1,0,B0⟩)))))
  (M:Fr (fun k=>k=b) ((w.alloc (.map #[] 0)).alloc (.cells #[.map (Bs w.heap.size),.slice B0 0 0] 168)) B) :
  AB B base (n+1) g j kt cs (Bs b) (Ax loc (sx s) (Kl w)) (Ao T (sx s) (Bs k0)):=by
 have Y:=(h.aw (.inl rfl:AE (Bs b) loc T b))
 have v:Fr (fun k=>k=b) w B:=(((Fr.refl _ w).alloc _).alloc _).trans M;have W:=h.ak.lt;have L:g≠b:=by
  have J:=h.map;exact fun e=>(Ab.aB (C:=kS) J h.ak) e.symm
 have G:AX B base (n+1) (Kl w) k0:=by
  have A:Ae ((w.alloc (.map #[] 0)).alloc (.cells #[.map (Bs w.heap.size),.slice B0 0 0] 168)) (w.heap.size+1) 168 #[.map (Bs w.heap.size),.slice B0 0 0]:=by
   have:=Ae.new (w.alloc (.map #[] 0)) 168 #[.map (Bs w.heap.size),.slice B0 0 0];simpa using this
  have I:Ab kI ((w.alloc (.map #[] 0)).alloc (.cells #[.map (Bs w.heap.size),.slice B0 0 0] 168)) w.heap.size (n+1) (hM k0.h):=by
   have e:hM k0.h=fun _=>B0:=by funext i;rfl
   rw[e];exact((Ab.made kI w).mono (VN _)).alloc _
  exact⟨M.ak A (by show ¬w.heap.size+1=b;omega),I.fr M (by show ¬w.heap.size=b;omega),VZ _ _ _ _,by show base<=w.heap.size+1;have:=h.bg;omega,h.bg,fun o m e=>(nomatch e),fun x d=>(by cases d),VN _⟩
 have F:∀ x k,x≠sx s->T x=Bs k->AX B base (n+1) (loc x) k:=fun x k _ d=>((h.keys x k d).fr v (fun c z=>h.bB d rfl z)).mono (by omega)
 have u:∀ x,T x≠B0->∀ c,AQ (loc x) c->¬AQ (Kl w) c:=fun x d c z D=>by
  obtain⟨k,U⟩:=Option.ne_none_iff_exists'.1 d;have:=(h.keys x k U).aw z;rcases D with D|D|D
  ·simp only[Kl] at D;omega
  ·simp only[Kl] at D;omega
  ·simp[Kl,Wc] at D
 have q:∀ x,Ao T (sx s) (Bs k0) x≠B0->x=sx s\/(x≠sx s/\T x≠B0):=fun x d=>by
  unfold Ao at d;split at d
  ·rename_i e;exact .inl e
  ·rename_i e;exact .inr ⟨e,d⟩
 have f:∀ x,x≠sx s->Ax loc (sx s) (Kl w) x=loc x:=fun x e=>by unfold Ax;rw[if_neg e]
 have p:Ax loc (sx s) (Kl w) (sx s)=Kl w:=by unfold Ax;rw[if_pos rfl]
 refine⟨v.ak h.ak L,h.c0,?_,fun x k d=>?_,fun x y E d R c z=>?_,fun x d=>?_,h.ne,h.cN,fun x d=>?_,by have:=v.size;have:=h.bg;omega⟩
 ·show Ab kS B b (n+1) _;have e:=OH loc T s (Kl w) k0;rw[show(Kl w).g=w.heap.size+1 from rfl] at e;rw[e] at S;exact S
 ·unfold Ao at d;split at d
  ·rename_i e;subst e;injection d with d;rw[<- d,p];exact G
  ·rename_i e;rw[f x e];exact F x k e d
 ·rcases q x d with rfl|⟨O,A⟩
  ·rcases q y R with rfl|⟨N,I⟩
   ·exact absurd rfl E
   ·rw[f y N];rw[p] at z;exact fun X=>u y I c X z
  ·rw[f x O] at z;rcases q y R with rfl|⟨N,I⟩
   ·rw[p];exact u x A c z
   ·rw[f y N];exact h.apart x y E A I c z
 ·rcases q x d with rfl|⟨_,A⟩
  ·exact hs
  ·exact h.small x A
 ·rcases q x d with rfl|⟨O,A⟩
  ·rw[p];simp only[Kl,ne_eq,VR];omega
  ·rw[f x O];exact h.cd x A
def qc5 {w:D0} {n:Nat} {loc:Sx->Ar} (d:Ab kS w b n (Bf loc T)) (hs:s.size<=Wo) :
  (XQ 98 (.map (Bs b)) (.string s) Jx).run Tryz.prog w=.ok (match T (sx s) with|none=>.pointer B0|some _=>.pointer (Bs ⟨(loc (sx s)).g,0,B0⟩)) w:=by
 have c:(Yd 161).run Tryz.prog w=.ok (.pointer B0) w:=by kernel_rfl
 have:=(d.look Tryz.underlying98 c (x:=s) hs).2;rw[show kS.val s=Value.string s from rfl] at this;rw[this];unfold Bf;cases T (sx s) <;> rfl
def KY (s:ByteArray):s.size=(sx s).length:=by unfold sx;rw[Ws];rfl
def q9l (h:T x=Bs k):Ao T x (Bs (Ac T x))=T:=by
 funext y;unfold Ao Ac;by_cases e:y=x
 ·rw[if_pos e,e,h];rfl
 ·rw[if_neg e]
def FY (loc:Sx->Ar) (x:Sx):Ax loc x (loc x)=loc:=by
 funext y;unfold Ax;by_cases e:y=x
 ·rw[if_pos e,e]
 ·rw[if_neg e]
def UE (mb:Option Nat) (w:D0) (c:Nat):Prop:=mb=Bs c\/(mb=B0/\w.heap.size<=c)
def H7 (base n g off:Nat) (ty:VV) (cs:Array O0) (mb:Option Nat) (loc:Sx->Ar) (T:Tb) (x:Sx) (w:D0) (e:WC) (w':D0):Prop:=
 ∃ (c:Nat) (L:Ar),e=.returned (.pointer (Bs ⟨L.g,0,B0⟩))/\AB w' base (n+1) g off ty (cs.setIfInBounds off (.map (Bs c))) (Bs c) (Ax loc x L) (Ao T x (Bs (Ac T x)))/\Fr (fun k=>k=g\/Bs k=mb) w w'/\
  UE mb w c/\(T x≠B0->L=loc x)/\(T x=B0->∀ b,AQ L b->w.heap.size<=b)
def R6 (base n g off b:Nat) (ty:VV) (cs:Array O0) (loc:Sx->Ar) (T:Tb) (s:ByteArray) (k:Kx) (w:D0) (hI:AB w base n g off ty cs (Bs b) loc T) (d:T (sx s)=Bs k) (hs:(sx s).length<=20) :
  VY Tryz.prog 85 #[.pointer (Bs ⟨g,off,B0⟩),.string s] w (H7 base n g off ty cs (Bs b) loc T (sx s) w):=by
 have u:=(hI.ak.cell off).trans hI.c0;have f:=qc5 hI.map (s:=s) (by rw[KY];unfold Wo;omega);rw[d] at f;have c:H7 base n g off ty cs (Bs b) loc T (sx s) w (.returned (.pointer (Bs ⟨(loc (sx s)).g,0,B0⟩))) w:=
  ⟨b,loc (sx s),rfl,by rw[DT hI.c0,FY,q9l d];exact hI.mono (by omega),Fr.refl _ _,.inl rfl,fun _=>rfl,fun h=>by rw[d] at h;cases h⟩
 have q:=LH c;clear c;have p:=hI.ak.lt;have i:=fun W=>Dz W 98 _ _ (Bs b) Tryz.underlying98
 clear hI d;go_enter Tryz.func85,Tryz.ntmps85;go_wp2_with fail;go_ret;exact q.o
def at_new (base n g off:Nat) (ty:VV) (cs:Array O0) (mb:Option Nat) (loc:Sx->Ar) (T:Tb) (s:ByteArray) (w:D0) (hI:AB w base n g off ty cs mb loc T) (hT:T (sx s)=B0) (hs:(sx s).length<=20) (hn:n<1000000) :
  VY Tryz.prog 85 #[.pointer (Bs ⟨g,off,B0⟩),.string s] w (H7 base n g off ty cs mb loc T (sx s) w):=by
 have D:s.size<=Wo:=by rw[KY];unfold Wo;omega
 have X:=(hI.ak.cell off).trans hI.c0;have f0:=hI.ak.frozen off;have a3:=hI.ak.lt;have U:=fun W=>Dz W 98 _ _ mb Tryz.underlying98
 have HI:=LH hI;clear hI;have S:=LH hT;clear hT;rcases mb with _|b
 case' none=>
  have u:=@Y5 Tryz.prog;have v:=Qj HI.o;have f:(w.alloc (.map #[] 0)).setCell ⟨g,off,B0⟩ (.map (Bs w.heap.size))=(w.setCell ⟨g,off,B0⟩ (.map (Bs w.heap.size))).alloc (.map #[] 0):=by
   rw[Yn _ _ _ _ (by omega)]
  have y:Fr (fun k=>k=g\/Bs k=B0) w ((w.alloc (.map #[] 0)).setCell ⟨g,off,B0⟩ (.map (Bs w.heap.size))):=((Fr.refl _ _).alloc _).setCell (p:=⟨g,off,B0⟩) (.inl (.inl rfl)) _;rw[f] at v y;clear f;have d:=LH v;clear v;have B:=LH y;clear y;have A:=LH (show UE B0 w w.heap.size from .inr ⟨rfl,K0 _⟩);have c1:=(d.o.ak.cell off).trans d.o.c0;have J:w.heap.size<((w.setCell ⟨g,off,B0⟩ (.map (Bs w.heap.size))).alloc (.map #[] 0)).heap.size:=by simp
  go_enter Tryz.func85,Tryz.ntmps85;go_upto_region 3 with (fail)
  clear u X f0;have R:=LH J;clear J;generalize hb:w.heap.size=b at *;generalize (w.setCell ⟨g,off,B0⟩ (.map (Bs b))).alloc (.map #[] 0)=q at *;have G:w.heap.size<=q.heap.size:=by have:=B.o.size;omega
  have O:=LH G;clear G;have a4:=LH hb;clear hb
 case' some=>
  have d:Hid (AB w base n g off ty (cs.setIfInBounds off (.map (Bs b))) (Bs b) loc T):=LH (by rw[DT HI.o.c0];exact HI.o);have B:=LH (Fr.refl (fun k=>k=g\/Bs k=Bs b) w);have A:=LH (show UE (Bs b) w b from .inl rfl);have c1:=X;go_enter Tryz.func85,Tryz.ntmps85;go_upto_region 3 with (fail)
  clear X f0;have R:=LH ((d.o.aw (.inl rfl:AE (Bs b) loc T b)).2);have O:=LH (K0 w.heap.size);obtain⟨q,rfl⟩:∃ q:D0,q=w:=⟨w,rfl⟩
 all_goals
  clear HI U;have a1:=d.o.ak.lt;have F:=qc5 d.o.map (s:=s) D;rw[S.o] at F;have u:=@Y5 Tryz.prog;have a2:=R.o;go_wp2_with (at_mapUpdate;refine SR (C:=kS) rfl 98 161 Tryz.underlying98 _ _ _ rfl rfl (show Ab kS _ b n (Bf loc T) from(d.o.map.alloc _).alloc _) (by unfold Wo;omega) s (.pointer (Bs ⟨q.heap.size+1,0,B0⟩)) rfl rfl D ?_;intro w3 E z)
  have M:=Th d.o S.o hs E z;have N:Fr (fun k=>k=b) q w3:=(((Fr.refl _ q).alloc _).alloc _).trans z;have Y:=LH M;clear M;have L:Ac T (sx s)=k0:=by unfold Ac;rw[S.o];rfl
  have a0:=LH L;clear L;have I:=B.o.trans' N (fun i hi (e:i=b)=>by
   rcases A.o with h|⟨_,h⟩
   ·exact .inr (by rw[h,e])
   ·omega)
  have Z:=LH I;clear I N z E F u;go_ret;refine⟨b,Kl q,rfl,by rw[a0.o];exact Y.o,Z.o,A.o,fun h=>absurd S.o h,fun _ c hc=>?_⟩;have:=O.o;rcases hc with h|h|h
  ·simp only[Kl] at h;omega
  ·simp only[Kl] at h;omega
  ·simp[Kl,Wc] at h
def Bt:Tryz.prog.underlying 164=Bs (.slice 166):=Tryz.underlying164
def Of:Tryz.prog.elem 164=166:=by kernel_rfl
def Og (w:D0):(sizeOf 166).run Tryz.prog w=.ok 2 w:=by kernel_rfl
def Kz:(Tryz.prog.info? 166).map (fun i=>(i.zero,i.size,i.bytes))=Bs (Bs (.agg #[.int .i64 0,.int .i64 0]),2,16):=by kernel_rfl
def qc0:(Tryz.prog.info? 166).map (·.size)=Bs 2:=by kernel_rfl
def q55 (base n i:Nat) (V:O0) (c xs:List O0) (w:D0) (e:WC) (w':D0):Prop:=
 ∃ V',e=.returned V'/\w'.ownsRow base 166 2 V' (n+1) (B7 2 i c xs)/\Av w w' V.ownBlock V'.ownBlock
def MJ {w:D0} {g:Nat} {t:VV} (h:w.heap[g]? = Bs (.cells X t (0,0))):w.shape? g=Bs (t,X.size):=by
 unfold World.shape?;rw[h]
def Ix {w:D0} {g o:Nat} {t:VV} (h:w.heap[g]? = Bs (.cells X t (0,0))):w.frozen? ⟨g,o,B0⟩=Jx:=Ae.frozen (show Ae w g t X from h) o
def PO (base n F J:Nat) (V:O0) (xs f:List O0) (w:D0) (d:w.ownsRow base 166 2 V n xs) (X:n<=100000) (s:f.length=2) (v:∀ u∈f,u.oneCell'=VJ)
  (q:Ae w F 166 f.toArray) (U:base<=w.heap.size) :
  VY Tryz.prog 91 #[V,.int .i64 n,.slice (Bs ⟨F,0,B0⟩) 1 J] w (q55 base n n V f xs w):=by
 obtain⟨A,c,rfl,S,_⟩:=AR d;obtain⟨O,L⟩:=U5 164 Bt Of Og w A n c n (K0 _);have y:DZ w w.heap.size 2 (Bs ⟨F,0,B0⟩) 1 f:=⟨by rw[s],fun _=>⟨_,rfl,q.lt,fun j u R=>by
  rw[WJ,Wx];exact(q.cell j).trans (by simpa using R)⟩⟩
 have i:B7 2 n f xs=xs++f:=by
  unfold B7;rw[V0 (by rw[d.1];omega),Yb (by rw[d.1];omega),WE]
 have D:=LH d;clear d;have I:=LH y;clear y;have E:=LH i;clear i;have G:=LH v;clear v;clear q s;go_enter Tryz.func91,Tryz.ntmps91;go_wp2_with (at_builtin;refine q2e w rfl _ _ 164 rfl base 166 _ 2 16 Bt Kz rfl (by decide) _ n xs rfl D.o _ _ 1 J f rfl I.o G.o (by unfold Wo;omega) (by omega) U ?_;intro M N z B)
 have p:q55 base n n (.slice A n c) f xs w (.returned M) N:=⟨M,rfl,by rw[E.o];exact z,B⟩
 have W:=LH p;clear p z B;go_wp2_with fail;go_ret;exact W.o
def Kw (base g n c i F N:Nat) (xs L:List O0) (w:D0) (f:w.ownsRow base 166 2 (.slice (Bs ⟨g,0,B0⟩) n c) n xs) (hi:i<n) (z:n+1<=c) (hn:n<=100000) (M:∀ u∈xs,u.oneCell'=VJ) (O:L.length=2) (R:∀ u∈L,u.oneCell'=VJ)
  (q:Ae w F 166 L.toArray) (S:F≠g) (hb:base<=w.heap.size) :
  VY Tryz.prog 91 #[.slice (Bs ⟨g,0,B0⟩) n c,.int .i64 i,.slice (Bs ⟨F,0,B0⟩) 1 N] w (q55 base n i (.slice (Bs ⟨g,0,B0⟩) n c) L xs w):=by
 obtain⟨a8,a6⟩:=U5 164 Bt Of Og w (Bs ⟨g,0,B0⟩) n c i (by omega);obtain⟨ex,Z,B⟩:=FQ f z;obtain⟨a3,q1,hg,q2,q3,a0,q4⟩:=q3x f;clear q1 q2 q3 q4;have J:a3.size≠0:=by rw[a0];have:0<c*2:=Nat.mul_pos (by omega) (by decide);omega
 have a1:∀ lb cb,(XP 114 #[.slice (Bs ⟨F,0,B0⟩) 1 N,.slice (Bs ⟨g,(i+1)*2,B0⟩) lb cb]).run Tryz.prog w=.ok (.value (.bool Jx)) w:=fun lb cb=>by
  rw[run_callFunc_extern Tryz.func114 (by kernel_rfl) (by kernel_rfl) (by kernel_rfl) (e:=Extern.SlicesOverlaps.overlaps #[164,164] #[4]) (by kernel_rfl),
   Lib.run_overlaps_apart w 164 4 166 Bt 2 Og ⟨F,0,B0⟩ ⟨g,(i+1)*2,B0⟩ 1 N lb cb S _ _ _ _ (MJ q) (MJ hg) J (Ix q) (Ix q)]
  rfl
 have E:=f.1;obtain⟨w2,y,A,Y⟩:=SO (w:=w.drew) 164 164 166 Bt qc0 (show w.drew.ownsRow base 166 2 (.slice (Bs ⟨g,0,B0⟩) (n+1) c) (n+1) (xs++ex) from B) (i:=i+1) (m:=n-i) (by omega) (xs.drop (i*2))
  (by rw[W5,E,YG]) ⟨g,i*2,B0⟩ (fun j v U=>by
   rw[WJ];rw[Yf] at U;have a2:i*2+j<n*2:=by rw[<- E];exact(List.getElem?_eq_some_iff.1 U).1
   show w.cell? _=_;exact(f.cellAt _ a2).trans U) (fun u hu=>M u (X5 hu)) (n-i) (c-(i+1)) (n+1-i) (c-i) (by show min _ _=_;omega)
 have D:Fr (fun k=>k=g) w w2:=(Fr.refl _ w).drew.trans Y;have G:Ae w2 F 166 L.toArray:=D.ak q S;obtain⟨w3,s,p,X⟩:=SO (w:=w2) 164 164 166 Bt qc0 A (i:=i) (m:=1) (by omega) L (by rw[O]) ⟨F,0,B0⟩ (fun j v U=>by
   rw[WJ,Wx];exact(G.cell j).trans (by simpa using U)) R (n+1-i) (c-i) 1 N (by show min _ _=_;omega)
 have a7:=(Tv f).2;rw[q9n E hi Z] at p;have I:q55 base n i (.slice (Bs ⟨g,0,B0⟩) n c) L xs w (.returned (.slice (Bs ⟨g,0,B0⟩) (n+1) c)) w3:=
  ⟨_,rfl,p,(D.trans X).mono (fun k _ h=>by rw[h];rfl),.inl rfl⟩
 have s1:=q3v 164 Bt Of Og w g n c (n+1) ((n:Int)+1) (by omega) z;have s2:=fun W=>PC 164 Bt Of Og W g (n+1) c (i+1) ((i:Int)+1) (by omega) (by omega) (by omega)
 rw[show n+1-(i+1)=n-i by omega] at s2;have s3:=fun W=>PC 164 Bt Of Og W g (n+1) c i (i:Int) rfl (by omega) (by omega)
 have HF:=LH I;clear I B A p Y X D f q G hg a0 J Z;have aa:IntKind.i64.wrap ((i:Int)+1)=(i:Int)+1:=V4 _ (by omega);have a9:IntKind.i64.wrap ((n:Int)+1)=(n:Int)+1:=V4 _ (by omega);have a5:=LH y;clear y;have a4:=LH s;clear s;have ab:=LH M;clear M;clear R O E;have d1:((i:Int) == (n:Int))=Jx:=by rw[beq_eq_false_iff_ne];omega
 have d2:decide ((c:Int)<(n:Int)+1)=Jx:=by rw[decide_eq_false_iff_not];omega
 go_enter Tryz.func91,Tryz.ntmps91;go_wp2_with (simp only[a1])
 refine nW ?_;refine SJ (fun _=>True) 9 ?_;have d:True:=trivial;refine nE 0 d ?_;refine nE 1 d ?_;refine nE 2 d ?_;refine nE 3 d ?_;refine nE 4 d ?_;refine nE 5 d ?_;refine nE 6 d ?_;refine nE 7 d ?_;refine nG 8 (fun K hK=>?_);refine q2p (.tmp 73) (.tmp 76) 164 164 rfl (.slice (Bs ⟨g,(i+1)*2,B0⟩) (n-i) (c-(i+1))) (.slice (Bs ⟨g,i*2,B0⟩) (n+1-i) (c-i)) _ (by simp[Xh,Xl]) (by simp[Xh,Xl]) (a5.o _) ?_;go_simp;refine hK _ _ (fun _=>d) ?_;clear hK K;refine nX ?_;clear d;go_wp2_with (refine q1z rfl (.tmp 80) (.tmp 81) 164 164 rfl (.slice (Bs ⟨g,i*2,B0⟩) (n+1-i) (c-i)) (.slice (Bs ⟨F,0,B0⟩) 1 N) _ rfl rfl (a4.o _) ?_)
 go_ret;exact HF.o
def NL (base g n c i X vc:Nat) (xs O:List O0) (w:D0) (f:w.ownsRow base 166 2 (.slice (Bs ⟨g,0,B0⟩) n c) n xs) (hi:i<n) (a5:c<n+1) (hn:n<=100000) (E:∀ u∈xs,u.oneCell'=VJ) (R:O.length=2) (Z:∀ u∈O,u.oneCell'=VJ)
  (S:Ae w X 166 O.toArray) (hb:base<=w.heap.size) :
  VY Tryz.prog 91 #[.slice (Bs ⟨g,0,B0⟩) n c,.int .i64 i,.slice (Bs ⟨X,0,B0⟩) 1 vc] w (q55 base n i (.slice (Bs ⟨g,0,B0⟩) n c) O xs w):=by
 obtain⟨ac,ab⟩:=U5 164 Bt Of Og w (Bs ⟨g,0,B0⟩) n c i (by omega);have hc:=Tv f;have F:=f.1;obtain⟨i0,a1,Y,J,M⟩:=Y1 Kz;have af:g<w.heap.size:=(f.lt g rfl).2;obtain⟨N,w1,p,q,G,a4⟩:=qbd (w:=w) 164 3 i0 _ .i64 .i64 Bt Tryz.underlying3 a1 Y J rfl (by decide) (q4w f (i:=i) (by omega)) (k:=n+1-i) (by omega) (by omega) (by omega) (by rw[M];decide) (fun u hu=>E u (Wy hu)) hb;rw[show i+(n+1-i)=n+1 by omega] at p q;have ag:=(Tv q).1;have I:Ae w1 X 166 O.toArray:=G.ak S (fun h=>h);have B:=G.own f (fun _ _ h=>h);have aa:=S.lt;obtain⟨w2,z,D,U⟩:=SO (w:=w1) 164 164 166 Bt qc0 q (i:=i) (m:=1) (by omega) O (by rw[R]) ⟨X,0,B0⟩ (fun j v hj=>by
   rw[WJ,Wx];exact(I.cell j).trans (by simpa using hj)) Z (n+1-i) (N-i) 1 vc (by show min _ _=_;omega)
 have A:=U.own B (fun k hk e=>by
   have:g=k:=by simpa [Wc] using hk
   omega)
 obtain⟨w3,y,s,a3⟩:=SO (w:=w2.drew) 164 164 166 Bt qc0 (show w2.drew.ownsRow base 166 2 (.slice (Bs ⟨w.heap.size,0,B0⟩) (n+1) N) (n+1) _ from D) (i:=i+1) (m:=n-i) (by omega) (xs.drop (i*2))
  (by rw[W5,F,YG]) ⟨g,i*2,B0⟩ (fun j v hj=>by
   rw[WJ];rw[Yf] at hj;have a6:i*2+j<n*2:=by rw[<- F];exact(List.getElem?_eq_some_iff.1 hj).1
   show w2.cell? _=_;exact(A.cellAt _ a6).trans hj) (fun u hu=>E u (X5 hu)) (n-i) (N-(i+1)) (n-i) (c-i) (by show min _ _=_;omega)
 rw[q7w F (by omega) (by rw[Ws,Xs];rfl) R] at s;have a2:Fr (fun k=>Bs k=Wc (.slice (Bs ⟨g,0,B0⟩) n c)) w w3:=(((G.trans' U (fun k hk (e:k=w.heap.size)=>by omega)).drew).trans' a3 (fun k hk (e:k=w.heap.size)=>by omega)).mono (fun k _ h=>h.elim);have L:q55 base n i (.slice (Bs ⟨g,0,B0⟩) n c) O xs w (.returned (.slice (Bs ⟨w.heap.size,0,B0⟩) (n+1) N)) w3:=
  ⟨_,rfl,s,a2,.inr ⟨_,rfl,K0 _⟩⟩
 have a0:(n:Int)+1-i=((n+1-i:Nat):Int):=by omega
 have s1:=q3v 164 Bt Of Og w g n c i (i:Int) rfl (by omega);have s2:=fun W=>PC 164 Bt Of Og W w.heap.size (n+1) N i (i:Int) rfl (by omega) (by omega)
 have s3:=fun W=>PC 164 Bt Of Og W w.heap.size (n+1) N (i+1) ((i:Int)+1) (by omega) (by omega) (by omega)
 rw[show n+1-(i+1)=n-i by omega] at s3;have s4:=fun W=>PC 164 Bt Of Og W g n c i (i:Int) rfl (by omega) (by omega)
 have HF:=LH L;clear L q D s G U a3 f B A S I a1 Y J M a2 a4;have ae:IntKind.i64.wrap ((i:Int)+1)=(i:Int)+1:=V4 _ (by omega);have ad:IntKind.i64.wrap ((n:Int)+1)=(n:Int)+1:=V4 _ (by omega);rw[<- a0] at p;have a9:=LH p;clear p a0;have a8:=LH z;clear z;have a7:=LH y;clear y;have ah:=LH E;clear E;clear Z R F;have d1:((i:Int) == (n:Int))=Jx:=by rw[beq_eq_false_iff_ne];omega
 have d2:decide ((c:Int)<(n:Int)+1)=VJ:=by rw[decide_eq_true_eq];omega
 go_enter Tryz.func91,Tryz.ntmps91;go_wp2_with (first|(refine q26 rfl (.tmp 34) (.tmp 39) 164 3 rfl (.slice (Bs ⟨g,0,B0⟩) i c) (.int .i64 ((n:Int)+1-i)) _ rfl rfl (a9.o _) ?_)|(refine q1z rfl (.tmp 43) (.tmp 44) 164 164 rfl (.slice (Bs ⟨w.heap.size,i*2,B0⟩) (n+1-i) (N-i)) (.slice (Bs ⟨X,0,B0⟩) 1 vc) _ rfl rfl (a8.o _) ?_))
 refine nW ?_;refine SJ (fun _=>True) 9 ?_;have d:True:=trivial;refine nE 0 d ?_;refine nE 1 d ?_;refine nE 2 d ?_;refine nE 3 d ?_;refine nE 4 d ?_;refine nE 5 d ?_;refine nE 6 d ?_;refine nE 7 d ?_;refine nG 8 (fun K hK=>?_);refine q2p (.tmp 50) (.tmp 53) 164 164 rfl (.slice (Bs ⟨w.heap.size,(i+1)*2,B0⟩) (n-i) (N-(i+1))) (.slice (Bs ⟨g,i*2,B0⟩) (n-i) (c-i)) _ (by simp[Xh,Xl]) (by simp[Xh,Xl]) (a7.o _) ?_;go_simp;refine hK _ _ (fun _=>d) ?_;clear hK K;refine nX ?_;clear d;go_wp2_with fail;go_ret;exact HF.o
def PP (base n i v z:Nat) (V:O0) (xs f:List O0) (w:D0) (d:w.ownsRow base 166 2 V n xs) (G:i<=n) (B:n<=100000) (y:∀ u∈xs,u.oneCell'=VJ) (p:f.length=2) (s:∀ u∈f,u.oneCell'=VJ)
  (q:Ae w v 166 f.toArray) (A:V.ownBlock≠Bs v) (D:base<=w.heap.size) :
  VY Tryz.prog 91 #[V,.int .i64 i,.slice (Bs ⟨v,0,B0⟩) 1 z] w (q55 base n i V f xs w):=by
 by_cases e:i=n
 ·subst e;exact PO base i v z V xs f w d B p s q D
 ·rcases d.2 with ⟨rfl,I⟩|⟨g,c,F,rfl,_,_,E,_⟩
  ·omega
  ·by_cases h:n+1<=c
   ·exact Kw base g n c i v z xs f w d (by omega) h B y p s q (fun e=>A (by rw[e];rfl)) D
   ·exact NL base g n c i v z xs f w d (by omega) (by omega) B y p s q D
def Vs (F:Nat) (c:(Int×Int)->Int) (t:Int) (w:D0):Prop:=
 ∀ (W:D0) (x:(Int×Int)),VP w.heap.size w W->(True)->VY Tryz.prog F #[UF x,.int .i64 t] W fun e w'=>e=.returned (.int .i64 (c x))/\VP W.heap.size W w'
def Mw (c:(Int×Int)->Int) (L:List (Int×Int)) (n:Nat) (w:D0) (u v:O0) (wr:D0):Prop:=
 ∃ i j:Nat,u=.int .i64 i/\v=.int .i64 j/\i<=j/\j<=n/\(∀ k (h:k<L.length),k<i->c L[k]<0)/\(∀ k (h:k<L.length),j<=k->0<=c L[k])/\VP w.heap.size w wr
def Hu (c:(Int×Int)->Int) (L:List (Int×Int)) (n:Nat) (w:D0) (e:WC) (w':D0):Prop:=
 ∃ (i:Nat) (f:Bool),e=.returned (.tuple #[.int .i64 i,.bool f])/\i<=n/\(∀ k (h:k<L.length),k<i->c L[k]<0)/\(∀ k (h:k<L.length),i<=k->0<=c L[k])/\(f=VJ↔∃ h:i<L.length,c L[i]=0)/\VP w.heap.size w w'
def Ip (F:Nat) (y:(Int×Int)->Int) (A:Option XL) (n k:Nat) (L:List (Int×Int)) (t:Int) (w:D0) (eg:∀ args w,(XP F args).run Tryz.prog w=.ok (.enter F args) w)
  (hp:Vs F y t w) (hr:Rd w w.heap.size 2 A n (L.flatMap Cp)) (hl:L.length=n) (hn:n<=100000) (W:∀ x∈L,True)
  (B:∀ (i j:Nat) (hi:i<L.length) (hj:j<L.length),i<=j->y L[i]<=y L[j]) :
  VY Tryz.prog 89 #[.slice A n k,.int .i64 t,.func (.func F) #[] #[]] w (Hu y L n w):=by
 have HR:=LH hr;clear hr;have HP:=LH hp;clear hp;have HM:=LH B;clear B;have a0:=LH W;clear W;have HL:=LH hl;clear hl;go_enter Tryz.func89,Tryz.ntmps89;go_wp2_with fail;go_loopw [9,10] (Mw y L n w) (fun u v _=>(intOf v).toNat-(intOf u).toNat)
 case atStart=>exact⟨0,n,rfl,rfl,VN _,K0 _,fun k h S=>absurd S (by omega),fun k h S=>absurd S (by have:=HL.o;omega),VK _ _⟩
 case round=>
  obtain⟨i,j,rfl,rfl,a7,a1,X,Y,f⟩:=hrel;have E:=LH f;have O:=LH X;clear X;have R:=LH Y;clear Y;by_cases a5:(i:Int)<j
  ·have a4:i<=(i+j) / 2:=by omega
   have a3:(i+j) / 2<j:=by omega
   obtain⟨g',o',x,rfl,M,J,h0,h1⟩:=(HR.o.below f).bP HL.o (j:=(i+j) / 2) (by omega);have a2:g'<wr.heap.size:=VL M f.size;have U:=a0.o x (S2 J);have d:=HP.o wr x f U;have HC:=LH d;clear d;have HX:=LH J;clear J f;go_wp2_with fail;refine HC.o.mono ?_;rintro e w2 ⟨rfl,D⟩;have s:=E.o.trans (D.mono E.o.size);have I:=LH s;clear s D HC;obtain⟨G,z⟩:=List.getElem?_eq_some_iff.1 HX.o;have Z:=LH z;clear z;by_cases hc:y x<0
   ·have d1:decide (y x<0)=VJ:=decide_eq_true hc;have c:Mw y L n w (.int .i64 (((i+j) / 2+1:Nat):Int)) (.int .i64 j) w2:=by
     refine⟨(i+j) / 2+1,j,rfl,rfl,by omega,a1,fun q hq S=>?_,R.o,I.o⟩;have:=HM.o q ((i+j) / 2) hq G (by omega);rw[Z.o] at this;omega
    have N:=LH c;clear c hc;go_wp2_with fail;go_roundw
    ·exact N.o
    ·simp[intOf];omega
   ·have d1:decide (y x<0)=Jx:=decide_eq_false hc;have c:Mw y L n w (.int .i64 i) (.int .i64 (((i+j) / 2:Nat):Int)) w2:=by
     refine⟨i,(i+j) / 2,rfl,rfl,by omega,by omega,O.o,fun q hq S=>?_,I.o⟩;have:=HM.o ((i+j) / 2) q G hq S;rw[Z.o] at this;omega
    have N:=LH c;clear c hc;go_wp2_with fail;go_roundw
    ·exact N.o
    ·simp[intOf];omega
  ·obtain rfl:j=i:=by omega
   by_cases a6:(j:Int)<n
   ·obtain⟨g',o',x,rfl,M,J,h0,h1⟩:=(HR.o.below f).bP HL.o (j:=j) (by omega);have a2:g'<wr.heap.size:=VL M f.size;have d:=HP.o wr x f (a0.o x (S2 J));have HC:=LH d;clear d;have HX:=LH J;clear J f;go_wp2_with fail;refine HC.o.mono ?_;rintro e w2 ⟨rfl,D⟩;have s:=E.o.trans (D.mono E.o.size);have I:=LH s;clear s D HC;have p:Hu y L n w (.returned (.tuple #[.int .i64 j,.bool (y x == 0)])) w2:=by
     obtain⟨G,z⟩:=List.getElem?_eq_some_iff.1 HX.o;refine⟨j,_,rfl,by omega,O.o,R.o,?_,I.o⟩;rw[beq_iff_eq];exact⟨fun h=>⟨G,by rw[z];exact h⟩,fun⟨_,h⟩=>by rw[z] at h;exact h⟩
    have HF:=LH p;clear p;go_wp2_with fail;go_ret2;exact HF.o
   ·have p:Hu y L n w (.returned (.tuple #[.int .i64 j,.bool Jx])) wr:=
     ⟨j,Jx,rfl,by omega,O.o,R.o,⟨fun h=>(by cases h),fun⟨h,_⟩=>absurd h (by have:=HL.o;omega)⟩,E.o⟩
    have HF:=LH p;clear p f;go_wp2_with fail;go_ret2;exact HF.o
def q2d {w:D0} (h:VP B w w'):Fr (fun k=>B<=k) w w':=⟨h.os,h.tape,h.output,h.size,fun k _ c=>h.block k (by omega)⟩
def CD (k:Int):O0:=if k=0 then .nilIface else .iface 79 (.int .i64 k)
def Mj (base n g off:Nat) (ty:VV) (cs:Array O0) (mb:Option Nat) (loc:Sx->Ar) (T:Tb) (s:ByteArray) (w:D0) (hI:AB w base n g off ty cs mb loc T) (hs:(sx s).length<=20) (d:n<1000000) :
  VY Tryz.prog 85 #[.pointer (Bs ⟨g,off,B0⟩),.string s] w (H7 base n g off ty cs mb loc T (sx s) w):=by
 cases c:T (sx s) with
 | none=>exact at_new base n g off ty cs mb loc T s w hI c hs d
 | some k=>
  rcases mb with _|b
  ·have:=hI.map (sx s);rw[c] at this;cases this
  ·exact R6 base n g off b ty cs loc T s k w hI c hs
def VA (g:Nat) (mb:Option Nat) (loc:Sx->Ar) (T:Tb) (k:Nat):Prop:=k=g\/AE mb loc T k
def GI (s:ByteArray):((s.size:Nat):Int)=(sx s).length:=by rw[KY]
def AB.cB {w:D0} {base n g:Nat} {cs:Array O0} {mb:Option Nat} {loc:Sx->Ar} (h:AB w base n g j kt cs mb loc T) {L':Ar} (F:T x=Bs k) (W:n<=n')
  (I:Fr (fun b=>AQ (loc x) b) w w') (hk:AX w' base n' L' k') (Y:L'.g=(loc x).g) (X:L'.hb=(loc x).hb) (hV:∀ b,L'.V.ownBlock=Bs b->(loc x).V.ownBlock=Bs b\/w.heap.size<=b) :
  AB w' base n' g j kt cs mb (Ax loc x L') (Ao T x (Bs k')):=by
 have p:∀ b,AQ L' b->AQ (loc x) b\/w.heap.size<=b:=fun b d=>by
  rcases d with d|d|d
  ·exact .inl (.inl (by rw[d,Y]))
  ·exact .inl (.inr (.inl (by rw[d,X])))
  ·rcases hV b d with h|h
   ·exact .inl (.inr (.inr h))
   ·exact .inr h
 have i:∀ y,Ao T x (Bs k') y≠B0->y=x\/(y≠x/\T y≠B0):=fun y f=>by
  unfold Ao at f;split at f
  ·rename_i e;exact .inl e
  ·rename_i e;exact .inr ⟨e,f⟩
 have A:∀ y,y≠x->Ax loc x L' y=loc y:=fun y e=>by unfold Ax;rw[if_neg e]
 have D:Ax loc x L' x=L':=by unfold Ax;rw[if_pos rfl]
 have q:T x≠B0:=by rw[F];simp
 have u:∀ y,y≠x->T y≠B0->∀ b,AQ (loc y) b->¬AQ (loc x) b:=fun y e f b d=>h.apart y x e f q b d
 refine⟨I.ak h.ak (fun d=>h.dr F d rfl),h.c0,?_,fun y O f=>?_,fun y z B f U b d=>?_,fun y f=>?_,h.ne,h.cN,fun y f=>?_,VO h.bg I.size⟩
 ·have G:=h.map;rcases s:mb with _|c
  ·rw[s] at G;exact absurd (G x) q
  ·rw[s] at G;have e:Bf (Ax loc x L') (Ao T x (Bs k'))=Bf loc T:=by
    funext t;unfold Bf;by_cases e:sx t=x
    ·rw[e,D,Y];unfold Ao;rw[if_pos rfl,F];rfl
    ·rw[A _ e];unfold Ao;rw[if_neg e]
   show Ab kS w' c n' _;rw[e];exact(Ab.fr (C:=kS) G I (fun d=>h.bB F s d rfl)).mono W
 ·unfold Ao at f;split at f
  ·rename_i e;subst e;injection f with f;rw[<- f,D];exact hk
  ·rename_i e;rw[A y e];exact((h.keys y O f).fr I (fun b d=>u y e (by rw[f];simp) b d)).mono W
 ·rcases i y f with rfl|⟨N,v⟩
  ·rcases i z U with rfl|⟨M,L⟩
   ·exact absurd rfl B
   ·rw[A z M];rw[D] at d;intro J;rcases p b d with E|E
    ·exact u z M L b J E
    ·obtain⟨Z,R⟩:=Option.ne_none_iff_exists'.1 L;have:=((h.keys z Z R).aw J).2;omega
  ·rw[A y N] at d;rcases i z U with rfl|⟨M,L⟩
   ·rw[D];intro J;rcases p b J with E|E
    ·exact u y N v b d E
    ·obtain⟨O,S⟩:=Option.ne_none_iff_exists'.1 v;have:=((h.keys y O S).aw d).2;omega
   ·rw[A z M];exact h.apart y z B v L b d
 ·rcases i y f with rfl|⟨_,v⟩
  ·exact h.small y q
  ·exact h.small y v
 ·rcases i y f with rfl|⟨N,v⟩
  ·rw[D,X];exact h.cd y q
  ·rw[A y N];exact h.cd y v
def Pg (tx:Int) (x:Int×Int):Int:=if x.1<tx then -1 else 1
def OK (tx:Int) (w:D0):Vs 90 (Pg tx) tx w:=by
 intro W x q _;have d:∀ o,VP W.heap.size W (W.alloc o):=fun o=>(VK _ _).alloc (K0 _) _
 have f:=LH d;clear d;unfold UF;by_cases c:x.1<tx
 ·have p:decide (x.1<tx)=VJ:=decide_eq_true c;have i:=LH (show Pg tx x = -1 by unfold Pg;rw[if_pos c]);clear c;go_enter Tryz.func90,Tryz.ntmps90;go_wp2_with fail;go_ret;rw[i.o];exact⟨rfl,f.o _⟩
 ·have p:decide (x.1<tx)=Jx:=decide_eq_false c;have i:=LH (show Pg tx x=1 by unfold Pg;rw[if_neg c]);clear c;go_enter Tryz.func90,Tryz.ntmps90;go_wp2_with fail;go_ret;rw[i.o];exact⟨rfl,f.o _⟩
def I7 {tx:Int} : ∀ {L:List (Int×Int)} {i:Nat},i<=L.length->(∀ k (h:k<L.length),k<i->Pg tx L[k]<0)->(∀ k (h:k<L.length),i<=k->0<=Pg tx L[k])->(L.takeWhile (fun x=>decide (x.1<tx))).length=i
 | [],i,c,_,_=>by simp at c;simp[c]
 | x::L,0,_,_,h2=>by
  have:=h2 0 (by simp) (K0 _);simp only[List.getElem_cons_zero,Pg] at this;have d:¬x.1<tx:=fun h=>by rw[if_pos h] at this;omega
  simp[d]
 | x::L,i+1,c,h1,h2=>by
  have:=h1 0 (by simp) (by omega);simp only[List.getElem_cons_zero,Pg] at this;have d:x.1<tx:=by
   by_cases h:x.1<tx
   ·exact h
   ·rw[if_neg h] at this;omega
  have f:=I7 (tx:=tx) (L:=L) (i:=i) (by simpa using c) (fun k h p=>by have:=h1 (k+1) (by simpa using h) (by omega);rw[List.getElem_cons_succ] at this;exact this) (fun k h p=>by have:=h2 (k+1) (by simpa using h) (by omega);rw[List.getElem_cons_succ] at this;exact this);simp[d,f]
def LX (L:List (Int×Int)) (i:Nat):(L.flatMap Cp).take (i*2)=(L.take i).flatMap Cp:=by
 induction L generalizing i with
 | nil=>simp
 | cons x L c=>
  cases i with
  | zero=>simp
  | succ i=>rw[show(i+1)*2=i*2+2 by omega,VM,WU,VM,<- c];simp[Cp]
def LY (L:List (Int×Int)) (i:Nat):(L.flatMap Cp).drop (i*2)=(L.drop i).flatMap Cp:=by
 induction L generalizing i with
 | nil=>simp
 | cons x L c=>
  cases i with
  | zero=>simp
  | succ i=>rw[show(i+1)*2=i*2+2 by omega,VM,Xb,<- c];simp[Cp]
def Ot {mode:Int} (c:(L.takeWhile (fun x=>decide (x.1<tx))).length=i):B7 2 i (Cp (tx,mode)) (L.flatMap Cp)=(BT L (tx,mode)).flatMap Cp:=by
 unfold B7 BT;rw[LX,LY,WG,VM];have d:=WN (p:=fun x:Int×Int=>decide (x.1<tx)) (l:=L);have f:L.take i=L.takeWhile (fun x=>decide (x.1<tx)):=by
  conv=>lhs;rw[<- d]
  rw[<- c,List.take_left]
 have q:L.drop i=L.dropWhile (fun x=>decide (x.1<tx)):=by
  conv=>lhs;rw[<- d]
  rw[<- c,List.drop_left]
 rw[f,q,XB]
def R2 (hs:L.Pairwise (·.1 < ·.1)):∀ (i j:Nat) (d:i<L.length) (c:j<L.length),i<=j->Pg tx L[i]<=Pg tx L[j]:=fun i j d c f=>by
 have:L[i].1<=L[j].1:=by
  rcases W7 i j with h|h
  ·have:=List.pairwise_iff_getElem.1 hs i j d c h;omega
  ·obtain rfl:i=j:=by omega
   omega
 unfold Pg;split <;> split <;> omega
def Dh (x:Sx):sx ⟨x.toArray⟩=x:=by simp[sx]
def q59 (s:ByteArray):s.toList=sx s:=by
 obtain⟨⟨l⟩⟩:=s;show(ByteArray.mk (List.toArray l)).toList=l;simp
def JV {P:Xc} {f:FuncId} {i:Func} {c:Code} (p:P.funcs[f]? = Bs i) (d:(i.name == "runtime.NumGoroutine")=Jx) (q:i.body=Bs c):∀ (args:Array O0) (w:D0),(XP f args).run P w=.ok (.enter f args) w:=by
 intro args w;have s:i.name ≠ "runtime.NumGoroutine" := by simpa using d
 simp[XP,p,s,q,mark]
def Vp (t:Int) (x:Vx):Int:=wrap64 (x.t-t)
def Mb (t:Int) (x:Vx) (w:D0):VY Tryz.prog 107 #[vxV x,.int .i64 t] w fun e w'=>e=.returned (.int .i64 (Vp t x))/\VP w.heap.size w w':=by
 have c:VP w.heap.size w (w.alloc (.cells #[.int .i64 x.t,.string ⟨x.v.toArray⟩,.bool x.g] 145)):=(VK _ _).alloc (K0 _) _;have d:=LH c;clear c;unfold vxV Vp;go_enter Tryz.func107,Tryz.ntmps107;go_wp2_with fail;go_ret;exact⟨rfl,d.o⟩
def Mc (t:Int) (x:Vx) (w:D0):VY Tryz.prog 73 #[vxV x,.int .i64 t] w fun e w'=>e=.returned (.int .i64 (Vp t x))/\VP w.heap.size w w':=by
 have c:VP w.heap.size w (w.alloc (.cells #[.int .i64 x.t,.string ⟨x.v.toArray⟩,.bool x.g] 145)):=(VK _ _).alloc (K0 _) _;have d:=LH c;clear c;unfold vxV Vp;go_enter Tryz.func73,Tryz.ntmps73;go_wp2_with fail;go_ret;exact⟨rfl,d.o⟩
def Ju:∀ {L:List Vx} {t:Int} {i:Nat},i<=L.length->(∀ k (h:k<L.length),k<i->L[k].t<t)->(∀ k (h:k<L.length),i<=k->t<=L[k].t)->(Az L t).length=i
 | [],t,i,c,_,_=>by simp at c;subst c;rfl
 | x::L,t,0,c,h1,h2=>by
  have:=h2 0 (by simp) (K0 _);unfold Az;rw[List.takeWhile_cons_of_neg (by simpa using this)];rfl
 | x::L,t,i+1,c,h1,h2=>by
  have:=h1 0 (by simp) (by omega);have d:=Ju (L:=L) (t:=t) (i:=i) (by simpa using c) (fun k h f=>by have:=h1 (k+1) (by simpa using h) (by omega);simpa using this) (fun k h f=>by have:=h2 (k+1) (by simpa using h) (by omega);simpa using this);unfold Az at *;rw[List.takeWhile_cons_of_pos (by simpa using this),Wl,d]
def has_at {L:List Vx} {t:Int} (hs:FF L) (s:∀ k (h:k<L.length),k<i->L[k].t<t) (q:∀ k (h:k<L.length),i<=k->t<=L[k].t):CU L t=VJ↔∃ h:i<L.length,L[i].t=t:=by
 unfold CU;rw[XZ];constructor
 ·rintro ⟨x,p,c⟩;have c:x.t=t:=of_decide_eq_true c;obtain⟨k,f,rfl⟩:=List.getElem_of_mem p;have d:i<=k:=Nat.le_of_not_lt (fun h=>by have:=s k f h;omega);refine⟨by omega,?_⟩;have u:=q i (by omega) (K0 _);rcases Nat.lt_or_eq_of_le d with h|rfl
  ·have:=List.pairwise_iff_getElem.1 hs i k (by omega) f h;omega
  ·exact c
 ·rintro ⟨h,e⟩;exact⟨L[i],Wv h,by simpa using e⟩
def TmOk (l:List Vx):Prop:=∀ v∈l,0<=v.t/\v.t<=1099511627776
def cfV_eq {t:Int} {x:Vx} (i:0<=x.t) (f:x.t<=1099511627776) (d:0<=t) (c:t<9223372036854775808):Vp t x=x.t-t:=IntWalk.wrap64_in _ ⟨by omega,by omega⟩
def qbc (F:Nat) (base:Nat) (V:O0) (l:List Vx) (t:Int) (w:D0) (N:∀ args w,(XP F args).run Tryz.prog w=.ok (.enter F args) w) (J:∀ W x,VY Tryz.prog F #[vxV x,.int .i64 t] W fun e w'=>e=.returned (.int .i64 (Vp t x))/\VP W.heap.size W w')
  (D:Dg w base V l) (hs:FF l) (hl:l.length<=100000) (v:TmOk l) (E:0<=t) (u:t<9223372036854775808) :
  VY Tryz.prog 72 #[V,.int .i64 t,.func (.func F) #[] #[]] w fun e w'=>e=.returned (.tuple #[.int .i64 ((Az l t).length:Nat),.bool (CU l t)])/\VP w.heap.size w w':=by
 obtain⟨A,c,rfl,O⟩:=D.form;have d:∀ k (h:k<l.length),Vp t l[k]=l[k].t-t:=fun k h=>by
  have:=v _ (Wv h);exact cfV_eq this.1 this.2 E u
 refine(Iy F (Vp t) A l.length c l t w N (fun W x _ _=>J W x) D.rd rfl hl (fun _ _=>trivial) (fun i j s B z=>?_)).mono ?_
 ·rw[d i s,d j B];rcases Nat.lt_or_eq_of_le z with h|rfl
  ·have:=List.pairwise_iff_getElem.1 hs i j s B h;omega
  ·omega
 ·rintro e w' ⟨i,f,rfl,s,M,L,G,I⟩;have q:∀ k (h:k<l.length),k<i->l[k].t<t:=fun k h y=>by have:=M k h y;rw[d k h] at this;omega
  have p:∀ k (h:k<l.length),i<=k->t<=l[k].t:=fun k h y=>by have:=L k h y;rw[d k h] at this;omega
  refine⟨?_,I⟩;rw[Ju s q p];have:f=CU l t:=by
   rw[XU,G,has_at hs q p];exact⟨fun⟨h,e⟩=>⟨h,by rw[d i h] at e;omega⟩,fun⟨h,e⟩=>⟨h,by rw[d i h];omega⟩⟩
  rw[this]
noncomputable abbrev kV:CJ Tryz.prog 9 ByteArray:=keyS Tryz.underlying9
def D5 (loc:Sx->O0) (K:Kp):ByteArray->Option O0:=fun s=>if (K (sx s)).isEmpty then B0 else Bs (loc (sx s))
def VB (w:D0) (n:Nat) (mb:Option Nat) (loc:Sx->O0) (K:Kp):Prop:=match mb with
 | none=>∀ x,K x=[]
 | some b=>Ab kV w b n (D5 loc K)
structure BY (w:D0) (base n g off:Nat) (ty:VV) (cs:Array O0) (mb:Option Nat) (loc:Sx->O0) (K:Kp) (low:Int):Prop where
 ak:Ae w g ty cs
 c0:cs[off]? = Bs (.map mb)
 c1:cs[off+1]? = Bs (.int .i64 low)
 ne:ty≠145
 map:VB w n mb loc K
 rows:∀ x,K x≠[]->Dg w base (loc x) (K x)
 apart:∀ x y,x≠y->K x≠[]->K y≠[]->∀ b,(loc x).ownBlock=Bs b->(loc y).ownBlock≠Bs b
 small:∀ x,K x≠[]->x.length<=20
 times:∀ x,TmOk (K x)
 sorted:∀ x,FF (K x)
 len:∀ x,(K x).length<=n
 cU:0<=low
 dj:low<=1099511627776
 cN:∀ b,mb=Bs b->base<=b
 lo:base<=g
def Dl (mb:Option Nat) (loc:Sx->O0) (K:Kp) (b:Nat):Prop:=mb=Bs b\/∃ x,K x≠[]/\(loc x).ownBlock=Bs b
def EY (g:Nat) (mb:Option Nat) (loc:Sx->O0) (K:Kp) (b:Nat):Prop:=b=g\/Dl mb loc K b
section
variable {w w':D0} {base n g off:Nat} {ty:VV} {cs:Array O0} {mb:Option Nat} {loc:Sx->O0} {K:Kp} {low:Int}
def VB.fr {S:Nat->Prop} (h:VB w n mb loc K) (d:Fr S w w') (c:∀ b,mb=Bs b->¬S b):VB w' n mb loc K:=by
 unfold VB at h ⊢;rcases mb with _|b
 ·exact h
 ·exact Ab.fr h d (c b rfl)
def BY.fr {S:Nat->Prop} (h:BY w base n g off ty cs mb loc K low) (d:Fr S w w') (c:∀ b,EY g mb loc K b->¬S b):BY w' base n g off ty cs mb loc K low:=
 ⟨d.ak h.ak (c g (.inl rfl)),h.c0,h.c1,h.ne,h.map.fr d (fun b f=>c b (.inr (.inl f))),fun x i=>(h.rows x i).fr d (fun b f=>c b (.inr (.inr ⟨x,i,f⟩))),h.apart,h.small,h.times,h.sorted,h.len,h.cU,h.dj,h.cN,h.lo⟩
def BY.aw (h:BY w base n g off ty cs mb loc K low) (c:EY g mb loc K b):base<=b/\b<w.heap.size:=by
 rcases c with rfl|c|⟨x,d,c⟩
 ·exact⟨h.lo,h.ak.lt⟩
 ·refine⟨h.cN b c,?_⟩;have:=h.map;rw[c] at this;exact Ab.lt (C:=kV) this
 ·exact⟨((h.rows x d).block c).1,((h.rows x d).block c).2.1⟩
def BY.aC (h:BY w base n g off ty cs mb loc K low) (c:VP w.heap.size w w'):BY w' base n g off ty cs mb loc K low:=
 h.fr (S:=fun b=>w.heap.size<=b) ⟨c.os,c.tape,c.output,c.size,fun i _ f=>c.block i (by omega)⟩ (fun b d p=>by have:=(h.aw d).2;omega)
def BY.mono (h:BY w base n g off ty cs mb loc K low) {n':Nat} (c:n<=n'):BY w' base n' g off ty cs mb loc K low\/BY w base n' g off ty cs mb loc K low:=by
 refine .inr ⟨h.ak,h.c0,h.c1,h.ne,?_,h.rows,h.apart,h.small,h.times,h.sorted,fun x=>VO (h.len x) c,h.cU,h.dj,h.cN,h.lo⟩;have:=h.map;unfold VB at this ⊢;rcases mb with _|b
 ·exact this
 ·exact Ab.mono this c
def N5 (loc:Sx->O0) (K:Kp) (x:Sx):O0:=if (K x).isEmpty then .slice B0 0 0 else loc x
def BY.row (h:BY w base n g off ty cs mb loc K low) (x:Sx):Dg w base (N5 loc K x) (K x):=by
 unfold N5;rcases e:K x with _|⟨a,l⟩
 ·exact .inl (VZ _ _ _ _)
 ·rw[if_neg (by simp),<- e];exact h.rows x (by rw[e];simp)
def OI (w:D0) (s:ByteArray):(XQ 101 (.map B0) (.string s) Jx).run Tryz.prog w=.ok (.slice B0 0 0) w:=by kernel_rfl
def BY.look (h:BY w base n g off ty cs mb loc K low) {s:ByteArray} (hs:s.size<=Wo):(XQ 101 (.map mb) (.string s) Jx).run Tryz.prog w=.ok (N5 loc K (sx s)) w:=by
 have c:=h.map;unfold VB at c;rcases mb with _|b
 ·rw[OI];unfold N5;rw[c (sx s)];rfl
 ·have d:(Yd 142).run Tryz.prog w=.ok (.slice B0 0 0) w:=by kernel_rfl
  have:=(Ab.look (C:=kV) c Tryz.underlying101 d (x:=s) hs).2;rw[show kV.val s=Value.string s from rfl] at this;rw[this];unfold D5 N5;cases (K (sx s)).isEmpty <;> rfl
end
def qam (r:Sx×Bool) (w:D0) (e:WC) (w':D0):Prop:=e=.returned (.tuple #[.string ⟨r.1.toArray⟩,.bool r.2,.nilIface])/\VP w.heap.size w w'
def Ub (base n g off:Nat) (ty:VV) (cs:Array O0) (mb:Option Nat) (loc:Sx->O0) (K:Kp) (low:Int) (s:ByteArray) (t:Int) (w:D0) (hI:BY w base n g off ty cs mb loc K low) (Z:¬t<low) (R:t<9223372036854775808) (hs:s.size<=Wo) (hn:n<=100000) :
  VY Tryz.prog 42 #[.pointer (Bs ⟨g,off,B0⟩),.string s,.int .i64 t] w (qam (BP (Cf (K (sx s)) t)) w):=by
 have c0:=(hI.ak.cell off).trans hI.c0;have c1:=(hI.ak.cell (off+1)).trans hI.c1;have U:=hI.ak.lt;have F:=hI.look hs;have f:=hI.row (sx s);have y:=hI.sorted (sx s);have G:=VO (hI.len (sx s)) hn;have z:=qbc 73 base _ (K (sx s)) t w (JV Tryz.func73 (by kernel_rfl) rfl) (fun W x=>Mc t x W) f y G (hI.times _) (by have:=hI.cU;omega) R;have d1:decide (t<low)=Jx:=decide_eq_false Z;obtain⟨A,c,hV,hc⟩:=f.form;rw[hV] at F z f;generalize K (sx s)=l at *;have E:(Az l t).length<=l.length:=(Xm _).length_le;have L:=LH z;clear z;have M:=LH f.rd;clear f hI hV;have Y:=LH y;clear y;clear Z;go_enter Tryz.func42,Tryz.ntmps42;go_wp2_with fail;refine L.o.mono ?_;rintro e u ⟨rfl,I⟩;have d:=LH I;clear I L F c0 c1 U;rcases hh:CU l t with _|_
 ·obtain⟨N,q1⟩:=LV hh;rcases D:(Az l t).length with _|m
  ·have q:=LH (show qam (BP (Cf l t)) w (.returned (.tuple #[.string ⟨#[]⟩,.bool Jx,.nilIface])) u by rw[N D];exact⟨rfl,d.o⟩);clear N q1 D E;go_wp2_with fail;go_ret3;exact q.o
  ·obtain⟨i,O⟩:=q1 (by omega);rw[D] at i O E;simp only[Xi] at i O;obtain⟨X,o',a,rfl,B,v,h0,h1,J⟩:=(M.o.below d.o).cz rfl (j:=m) (by omega);have S:X<u.heap.size:=VL B d.o.size;rw[v] at i;have dk:decide (((m:Nat):Int)<0)=Jx:=decide_eq_false (by omega);rcases p:a.g with _|_
   ·have q:=LH (show qam (BP (Cf l t)) w (.returned (.tuple #[.string ⟨a.v.toArray⟩,.bool VJ,.nilIface])) u by rw[i];unfold BP;simp only[p];exact⟨rfl,d.o⟩);rw[p] at J;clear N q1 i D v p;go_wp2_with fail;go_ret3;exact q.o
   ·have q:=LH (show qam (BP (Cf l t)) w (.returned (.tuple #[.string ⟨#[]⟩,.bool Jx,.nilIface])) u by rw[i];unfold BP;simp only[p];exact⟨rfl,d.o⟩);rw[p] at J;clear N q1 i D v p;go_wp2_with fail;go_ret3;exact q.o
 ·obtain⟨i,O⟩:=LW Y.o hh;generalize (Az l t).length=m at *;obtain⟨X,o',a,rfl,B,v,h0,h1,J⟩:=(M.o.below d.o).cz rfl (j:=m) (by omega);have S:X<u.heap.size:=VL B d.o.size;rw[v] at i;have dk:decide (((m:Nat):Int)<0)=Jx:=decide_eq_false (by omega);rcases p:a.g with _|_
  ·have q:=LH (show qam (BP (Cf l t)) w (.returned (.tuple #[.string ⟨a.v.toArray⟩,.bool VJ,.nilIface])) u by rw[i];unfold BP;simp only[p];exact⟨rfl,d.o⟩);rw[p] at J;clear i v p;go_wp2_with fail;go_ret3;exact q.o
  ·have q:=LH (show qam (BP (Cf l t)) w (.returned (.tuple #[.string ⟨#[]⟩,.bool Jx,.nilIface])) u by rw[i];unfold BP;simp only[p];exact⟨rfl,d.o⟩);rw[p] at J;clear i v p;go_wp2_with fail;go_ret3;exact q.o
section
variable {P:Xc} {w:D0} {base size n cap g o:Nat} {e:VV} {xs:List O0}
def KT (t B:VV) (c:TypeInfo) (z:O0) (I J:IntKind) (O:P.underlying t=Bs (.slice e)) (E:P.underlying B=Bs (.int J)) (U:P.info? e=Bs c) (N:c.zero=Bs z) (i:c.size=size) (f:z.cells.size=size) (BD:0<size)
  (d:xs.length=n*size) (D:∀ j u,xs[j]? = Bs u->w.cell? ⟨g,o+j,B0⟩=Bs u) {k:Nat} (X:0<k) (L:cap<n+k) (s:n+k<=1000000) (G:c.bytes<=1000000) (W:base<=w.heap.size) :
  ∃ M w',(∀ ty,(Xu #[t,B] ty #[.slice (Bs ⟨g,o,B0⟩) n cap,.int I k]).run P w=.ok (.slice (Bs ⟨w.heap.size,0,B0⟩) (n+k) M) w')/\
   w'.ownsRow base e size (.slice (Bs ⟨w.heap.size,0,B0⟩) (n+k) M) (n+k) (xs++(Wz z.cells k).toList)/\Fr (fun _=>False) w w'/\w'.heap.size=w.heap.size+1:=by
 have q:(X1 c.size n (.slice (Bs ⟨g,o,B0⟩) n cap)).run P w.drew=.ok xs.toArray w.drew:=by
  have:=run_loadCells_list (P:=P) w.drew ⟨g,o,B0⟩ xs (fun j v S=>by
   rw[WJ];show w.cell? _=_;exact D j v S)
  rw[d] at this;unfold X1;rw[i];exact this
 have A:(n+k)*c.bytes<=140737488355328:=by
  have:(n+k)*c.bytes<=1000000*1000000:=Nat.mul_le_mul s G;omega
 have R:k*c.bytes<=(n+k)*c.bytes:=Nat.mul_le_mul_right _ (by omega);have p:=fun ty=>Lib.run_append_grow_zeros (P:=P) w t B ty e c z I J O E U N (Bs ⟨g,o,B0⟩) n cap xs q k X (by rw[i];exact BD) L (by omega) (by omega) (growslice_fits L A)
 have F:=grownCap_ge w (n+k) cap e;have y:grownCap w (n+k) cap e<=Wo:=grownCap_le_maxLen w (n+k) cap e (by unfold Wo;omega);refine⟨_,_,p,⟨?_,.inr ⟨w.heap.size,_,_,rfl,W,heap_alloc_new w.drew _,F,y,?_,?_⟩⟩,(Fr.refl _ w).drew.alloc _,by simp⟩
 ·rw[VS,d,Ws,Xs,f,Xa]
 ·simp only[Array.size_append,Xo,Xs,f,d,<- Xa];congr 1;omega
 ·have hl:(xs++(Wz z.cells k).toList).length=(n+k)*size:=by rw[VS,d,Ws,Xs,f,Xa]
  simp only[Array.toList_append];rw[<- hl];exact List.take_left
def Ob (t:VV) (f:TypeInfo) (z:O0) (R:P.underlying t=Bs (.slice e)) (S:P.info? e=Bs f) (O:f.zero=Bs z) (p:f.size=size) (D:z.cells.size=size)
  (c:xs.length=n*size) (E:∀ j u,xs[j]? = Bs u->w.cell? ⟨g,o+j,B0⟩=Bs u) (i:List O0) (d:i.length=size) (B L:Nat) (F:∀ j u,i[j]? = Bs u->w.cell? ⟨B,j,B0⟩=Bs u) (M:cap<n+1) (s:n+1<=1000000) (J:f.bytes<=1000000) (U:base<=w.heap.size) :
  ∃ N w',(∀ ty,(Xu #[t,t] ty #[.slice (Bs ⟨g,o,B0⟩) n cap,.slice (Bs ⟨B,0,B0⟩) 1 L]).run P w=.ok (.slice (Bs ⟨w.heap.size,0,B0⟩) (n+1) N) w')/\
   w'.ownsRow base e size (.slice (Bs ⟨w.heap.size,0,B0⟩) (n+1) N) (n+1) (xs++i)/\Fr (fun _=>False) w w':=by
 have A:(n+1)*f.bytes<=140737488355328:=by
  have:(n+1)*f.bytes<=1000000*1000000:=Nat.mul_le_mul s J;omega
 have q:=fun ty=>run_append_grow (P:=P) (w:=w) t ty e f z R S O ⟨g,o,B0⟩ n cap xs (by rw[p];exact c) (fun j v G=>by rw[WJ];exact E j v G) ⟨B,0,B0⟩ 1 L i (by rw[p,d];omega) (fun j v G=>by rw[WJ,Wx];exact F j v G) M (by omega) (growslice_fits M A)
 have I:=grownCap_ge w (n+1) cap e;have y:grownCap w (n+1) cap e<=Wo:=grownCap_le_maxLen w (n+1) cap e (by unfold Wo;omega);refine⟨_,_,q,⟨?_,.inr ⟨w.heap.size,_,_,rfl,U,heap_alloc_new w.drew _,I,y,?_,?_⟩⟩,(Fr.refl _ w).drew.alloc _⟩
 ·rw[VS,c,d,Xa];omega
 ·simp only[Array.size_append,Xo,Xs,D,c,d];have:n*size+size=(n+1)*size:=by rw[Xa];omega
  rw[this,<- Xa];congr 1;omega
 ·have hl:(xs++i).length=(n+1)*size:=by rw[VS,c,d,Xa];omega
  simp only[Array.toList_append];rw[<- hl];exact List.take_left
end
def P9 (base g o n i Y vc:Nat) (cs:Array O0) (xs N:List O0) (w:D0) (B:Ae w g 145 cs) (z:xs.length=n*3) (a1:∀ j u,xs[j]? = Bs u->cs[o+j]? = Bs u) (hi:i<n) (hn:n<=100000) (O:∀ u∈xs,u.oneCell'=VJ) (R:N.length=3) (a0:∀ u∈N,u.oneCell'=VJ)
  (S:Ae w Y 145 N.toArray) (hb:base<=w.heap.size) :
  VY Tryz.prog 108 #[.slice (Bs ⟨g,o,B0⟩) n n,.int .i64 i,.slice (Bs ⟨Y,0,B0⟩) 1 vc] w (Pv base n i (.slice (Bs ⟨g,o,B0⟩) n n) N xs w):=by
 obtain⟨ac,ab⟩:=U5 142 AV Km I0 w (Bs ⟨g,o,B0⟩) n n i (by omega);obtain⟨i0,a3,Z,F,L⟩:=Y1 GE;have af:g<w.heap.size:=B.lt;have X:∀ (w':D0),Ae w' g 145 cs->∀ j u,xs[j]? = Bs u->w'.cell? ⟨g,o+j,B0⟩=Bs u:=fun w' hk j u E=>(hk.cell (o+j)).trans (a1 j u E)
 obtain⟨M,w1,d,f,A,a6⟩:=KT (base:=base) (w:=w) (g:=g) (o:=o) (n:=i) (cap:=n) (xs:=xs.take (i*3)) 142 3 i0 _ .i64 .i64 AV Tryz.underlying3 a3 Z F rfl (by decide) (by rw[WA,z];omega) (fun j u E=>by
  rw[List.getElem?_take] at E;split at E
  ·exact X w B j u E
  ·cases E) (k:=n+1-i) (by omega) (by omega) (by omega) (by rw[L];decide) hb
 rw[show i+(n+1-i)=n+1 by omega] at d f;have ag:=(Tv f).1;have D:Ae w1 Y 145 N.toArray:=A.ak S (fun h=>h);have J:=A.ak B (fun h=>h);have aa:=S.lt;obtain⟨w2,s,y,U⟩:=SO (w:=w1) 142 142 145 AV q7l f (i:=i) (m:=1) (by omega) N (by rw[R]) ⟨Y,0,B0⟩ (fun j v hj=>by
   rw[WJ,Wx];exact(D.cell j).trans (by simpa using hj)) a0 (n+1-i) (M-i) 1 vc (by show min _ _=_;omega)
 have I:=U.ak J (fun e:g=w.heap.size=>by omega);obtain⟨w3,q,p,a5⟩:=SO (w:=w2.drew) 142 142 145 AV q7l (show w2.drew.ownsRow base 145 3 (.slice (Bs ⟨w.heap.size,0,B0⟩) (n+1) M) (n+1) _ from y) (i:=i+1) (m:=n-i) (by omega) (xs.drop (i*3))
  (by rw[W5,z,YG]) ⟨g,o+i*3,B0⟩ (fun j v hj=>by
   rw[WJ];rw[Yf] at hj;show w2.cell? _=_;rw[Nat.add_assoc];exact X w2 I _ _ hj) (fun u E=>O u (X5 E)) (n-i) (M-(i+1)) (n-i) (n-i) (by show min _ _=_;omega)
 rw[q7w z (by omega) (by rw[Ws,Xs];rfl) R] at p;have a4:Fr (fun k=>Bs k=Wc (.slice (Bs ⟨g,o,B0⟩) n n)) w w3:=(((A.trans' U (fun k hk (e:k=w.heap.size)=>by omega)).drew).trans' a5 (fun k hk (e:k=w.heap.size)=>by omega)).mono (fun k _ h=>h.elim);have G:Pv base n i (.slice (Bs ⟨g,o,B0⟩) n n) N xs w (.returned (.slice (Bs ⟨w.heap.size,0,B0⟩) (n+1) M)) w3:=
  ⟨_,rfl,p,a4,.inr ⟨_,rfl,K0 _⟩⟩
 have a2:(n:Int)+1-i=((n+1-i:Nat):Int):=by omega
 have s1:=N8 142 AV Km I0 w g o n n i (i:Int) rfl (by omega);have s2:=fun W=>PC 142 AV Km I0 W w.heap.size (n+1) M i (i:Int) rfl (by omega) (by omega)
 have s3:=fun W=>PC 142 AV Km I0 W w.heap.size (n+1) M (i+1) ((i:Int)+1) (by omega) (by omega) (by omega)
 rw[show n+1-(i+1)=n-i by omega] at s3;have s4:=fun W=>IT 142 AV Km I0 W g o n n i (i:Int) rfl (by omega)
 rw[if_neg (by omega)] at s4;have HF:=LH G;clear G f y p A U a5 B J I X a1 S D a3 Z F L a4 a6;have ae:IntKind.i64.wrap ((i:Int)+1)=(i:Int)+1:=V4 _ (by omega);have ad:IntKind.i64.wrap ((n:Int)+1)=(n:Int)+1:=V4 _ (by omega);rw[<- a2] at d;have a9:=LH d;clear d a2;have a8:=LH s;clear s;have a7:=LH q;clear q;have ah:=LH O;clear O;clear a0 R z;have d1:((i:Int) == (n:Int))=Jx:=by rw[beq_eq_false_iff_ne];omega
 have d2:decide ((n:Int)<(n:Int)+1)=VJ:=by rw[decide_eq_true_eq];omega
 go_enter Tryz.func108,Tryz.ntmps108;go_wp2_with (first|(refine q26 rfl (.tmp 34) (.tmp 39) 142 3 rfl (.slice (Bs ⟨g,o,B0⟩) i n) (.int .i64 ((n:Int)+1-i)) _ rfl rfl (a9.o _) ?_)|(refine q1z rfl (.tmp 43) (.tmp 44) 142 142 rfl (.slice (Bs ⟨w.heap.size,i*3,B0⟩) (n+1-i) (M-i)) (.slice (Bs ⟨Y,0,B0⟩) 1 vc) _ rfl rfl (a8.o _) ?_))
 refine nW ?_;refine SJ (fun _=>True) 9 ?_;have c:True:=trivial;refine nE 0 c ?_;refine nE 1 c ?_;refine nE 2 c ?_;refine nE 3 c ?_;refine nE 4 c ?_;refine nE 5 c ?_;refine nE 6 c ?_;refine nE 7 c ?_;refine nG 8 (fun K hK=>?_);refine q2p (.tmp 50) (.tmp 53) 142 142 rfl (.slice (Bs ⟨w.heap.size,(i+1)*3,B0⟩) (n-i) (M-(i+1))) (.slice (Bs ⟨g,o+i*3,B0⟩) (n-i) (n-i)) _ (by simp[Xh,Xl]) (by simp[Xh,Xl]) (a7.o _) ?_;go_simp;refine hK _ _ (fun _=>c) ?_;clear hK K;refine nX ?_;clear c;go_wp2_with fail;go_ret;exact HF.o
def Iz (base g o n G I:Nat) (cs:Array O0) (xs v:List O0) (w:D0) (F:Ae w g 145 cs) (f:xs.length=n*3) (B:∀ j u,xs[j]? = Bs u->cs[o+j]? = Bs u) (X:n<=100000) (z:v.length=3)
  (A:Ae w G 145 v.toArray) (S:base<=w.heap.size) :
  VY Tryz.prog 108 #[.slice (Bs ⟨g,o,B0⟩) n n,.int .i64 n,.slice (Bs ⟨G,0,B0⟩) 1 I] w (Pv base n n (.slice (Bs ⟨g,o,B0⟩) n n) v xs w):=by
 obtain⟨O,M⟩:=U5 142 AV Km I0 w (Bs ⟨g,o,B0⟩) n n n (K0 _);obtain⟨R,D,y,i,s⟩:=Y1 GE;obtain⟨U,N,c,d,E⟩:=Ob (base:=base) (w:=w) (g:=g) (o:=o) (n:=n) (cap:=n) (xs:=xs) 142 R _ AV D y i rfl f (fun j u J=>(F.cell (o+j)).trans (B j u J)) v z G I (fun j u J=>(A.cell j).trans (by simpa using J)) (by omega) (by omega) (by rw[s];decide) S;have p:B7 3 n v xs=xs++v:=by
  unfold B7;rw[V0 (by rw[f];omega),Yb (by rw[f];omega),WE]
 have q:Pv base n n (.slice (Bs ⟨g,o,B0⟩) n n) v xs w (.returned (.slice (Bs ⟨w.heap.size,0,B0⟩) (n+1) U)) N:=
  ⟨_,rfl,by rw[p];exact d,E.mono (fun k _ h=>h.elim),.inr ⟨_,rfl,K0 _⟩⟩
 have W:=LH q;clear q d E F B A p D y i s;have L:=LH c;clear c;clear f z;go_enter Tryz.func108,Tryz.ntmps108;go_wp2_with (refine q26 rfl _ _ 142 142 rfl (.slice (Bs ⟨g,o,B0⟩) n n) (.slice (Bs ⟨G,0,B0⟩) 1 I) _ rfl rfl (L.o _) ?_)
 go_ret;exact W.o
def LC (l:List Vx) (t:Int):Az l t=l.take (Az l t).length:=by
 unfold Az;exact List.prefix_iff_eq_take.1 (Xm _)
def Le (l:List Vx) (v:Vx):B7 3 (Az l v.t).length (CS v) (l.flatMap CS)=(Cn l v).flatMap CS:=by
 unfold B7 Cn;rw[qbq,qbr,WG,VM,<- XB,<- LC]
def P0 (base f p:Nat) (V:O0) (l:List Vx) (v:Vx) (w:D0) (F:Dg w base V l) (s:l.length<=100000) (d:Ae w f 145 (CS v).toArray) (q:V.ownBlock≠Bs f) (z:base<=w.heap.size) :
  VY Tryz.prog 108 #[V,.int .i64 ((Az l v.t).length:Nat),.slice (Bs ⟨f,0,B0⟩) 1 p] w fun e w'=>
   ∃ V',e=.returned V'/\w'.ownsRow base 145 3 V' (Cn l v).length ((Cn l v).flatMap CS)/\Av w w' V.ownBlock V'.ownBlock:=by
 have y:(Az l v.t).length<=l.length:=(Xm _).length_le;have i:∀ u∈CS v,u.oneCell'=VJ:=fun u D=>qa9 [v] u (by simpa using D)
 have c:∀ e w',Pv base l.length (Az l v.t).length V (CS v) (l.flatMap CS) w e w'->∃ V',e=.returned V'/\w'.ownsRow base 145 3 V' (Cn l v).length ((Cn l v).flatMap CS)/\Av w w' V.ownBlock V'.ownBlock:=by
  rintro e w' ⟨V',rfl,I,G⟩;exact⟨V',rfl,by rw[qcp,<- Le];exact I,G⟩
 rcases F with h|⟨g,o,cs,rfl,L,E,J,A,B⟩
 ·exact(Qa base l.length (Az l v.t).length f p V (l.flatMap CS) (CS v) w h y s (qa9 l) rfl i d q z).mono c
 ·by_cases e:(Az l v.t).length=l.length
  ·refine Calls.mono ?_ c;rw[e];exact Iz base g o l.length f p cs (l.flatMap CS) (CS v) w A (qaa l) B s rfl d z
  ·exact(P9 base g o l.length (Az l v.t).length f p cs (l.flatMap CS) (CS v) w A (qaa l) B (by omega) s (qa9 l) rfl i d z).mono c
def Cv (K:Kp) (low:Int) (r:Rx):Int×Kp:=
 if r.t<0\/1099511627776<r.t then(2,K) else if 20<r.key.length\/40<r.v.length then(4,K) else if r.t<low then(8,K) else if CU (K r.key) r.t then(9,K) else(0,BS K r.key (Cn (K r.key) (Ii r)))
def PI (base n g off:Nat) (ty:VV) (cs:Array O0) (mb:Option Nat) (loc:Sx->O0) (K f:Kp) (d:Int) (w w':D0):Prop:=
 ∃ c loc',BY w' base n g off ty (cs.setIfInBounds off (.map c)) c loc' f d/\Fr (EY g mb loc K) w w'/\∀ b,EY g c loc' f b->EY g mb loc K b\/w.heap.size<=b
section
variable {w w':D0} {base n g off:Nat} {ty:VV} {cs:Array O0} {mb:Option Nat} {loc:Sx->O0} {K:Kp} {low:Int}
def BY.more (h:BY w base n g off ty cs mb loc K low) {n':Nat} (c:n<=n'):BY w base n' g off ty cs mb loc K low:=(h.mono (w':=w) c).elim id id
def PI.below (h:BY w base n g off ty cs mb loc K low) (d:n<=n') (c:VP w.heap.size w w'):PI base n' g off ty cs mb loc K K low w w':=
 ⟨mb,loc,by rw[q5x h.c0];exact(h.aC c).more d,⟨c.os,c.tape,c.output,c.size,fun k f _=>c.block k f⟩,fun b h=>.inl h⟩
def PI.trans {v1:O0} {f:Option Nat} {d:Sx->O0} {D B:Kp} {c:Int} {z y:D0} (A:Fr (EY g mb loc K) w z) (s:∀ b,EY g f d D b->EY g mb loc K b\/w.heap.size<=b) (k:PI base n g off ty (cs.setIfInBounds off v1) f d D B c z y):PI base n g off ty cs mb loc K B c w y:=by
 obtain⟨u,p,hI,v,q⟩:=k;rw[q4s] at hI;refine⟨u,p,hI,A.trans' v (fun i E h=>?_),fun b h=>?_⟩
 ·rcases s i h with h|h
  ·exact h
  ·omega
 ·rcases q b h with h|h
  ·exact s b h
  ·exact .inr (VO A.size h)
def LA (loc:Sx->O0) (x:Sx) (V:O0):Sx->O0:=fun y=>if y=x then V else loc y
def P5 (s:ByteArray) (V:O0) {l:List Vx} (hl:l≠[]):AU (D5 loc K) s (Bs V)=D5 (LA loc (sx s) V) (BS K (sx s) l):=by
 funext t;unfold AU D5 LA BS;by_cases e:t=s
 ·subst e;rcases l with _|⟨a,l⟩
  ·exact absurd rfl hl
  ·simp
 ·have:¬sx t=sx s:=fun h=>e (qb3 h)
  simp[e,this]
def BY.made (h:BY w base n g off ty cs B0 loc K low):BY ((w.alloc (.map #[] 0)).setCell ⟨g,off,B0⟩ (.map (Bs w.heap.size))) base n g off ty (cs.setIfInBounds off (.map (Bs w.heap.size))) (Bs w.heap.size) loc K low:=by
 have i:∀ x,K x=[]:=h.map;have q:Ab kV (w.alloc (.map #[] 0)) w.heap.size n (D5 loc K):=by
  have e:D5 loc K=fun _=>B0:=by funext s;unfold D5;rw[i];rfl
  rw[e];exact(Ab.made kV w).mono (VN _)
 have u:=h.ak.lt;have d:off<cs.size:=by
  rcases W7 off cs.size with p|p
  ·exact p
  ·have:=h.c0;rw[WW p] at this;cases this
 refine⟨?_,by simp[d],by rw[Array.getElem?_setIfInBounds_ne (by omega)];exact h.c1,h.ne,q.fr (Fr.a6 g (w.alloc (.map #[] 0)) off (.map (Bs w.heap.size))) (fun e=>by omega),fun x c=>absurd (i x) c,fun x y _ c=>absurd (i x) c,h.small,h.times,h.sorted,h.len,h.cU,h.dj,fun b f=>?_,h.lo⟩
 ·exact(h.ak.alloc _).aH off (.map (Bs w.heap.size))
 ·injection f with f;rw[<- f];have:=h.lo;omega
def BY.bN (h:BY w base n g off ty cs (Bs b) loc K low) (c:K x≠[]):(loc x).ownBlock≠Bs b:=fun e=>by
 obtain⟨_,_,cs,d⟩:=(h.rows x c).block e;exact Ab.aB (C:=kV) h.map d rfl
def BY.cr (h:BY w base n g off ty cs mb loc K low) (c:K x≠[]):(loc x).ownBlock≠Bs g:=(h.rows x c).aB h.ak h.ne
def q6d (h:(N5 loc K x).ownBlock=Bs b):K x≠[]/\(loc x).ownBlock=Bs b:=by
 unfold N5 at h;rcases e:K x with _|⟨a,l⟩
 ·rw[e] at h;cases h
 ·rw[e] at h;exact⟨by simp,h⟩
def BY.setK {n2:Nat} {N F:D0} {l':List Vx} (O:n<=n2) (h:BY w base n g off ty cs (Bs b) loc K low) (hs:(sx s).length<=20) (X:l'≠[]) (S:TmOk l') (U:FF l') (W:l'.length<=n2)
  (J:Dg N base V' l') (R:Av w N (N5 loc K (sx s)).ownBlock V'.ownBlock) (L:Ab kV F b n2 (AU (D5 loc K) s (Bs V'))) (Y:Fr (fun k=>k=b) N F) :
  BY F base n2 g off ty cs (Bs b) (LA loc (sx s) V') (BS K (sx s) l') low/\Fr (EY g (Bs b) loc K) w F/\∀ q,EY g (Bs b) (LA loc (sx s) V') (BS K (sx s) l') q->EY g (Bs b) loc K q\/w.heap.size<=q:=by
 have A:∀ q,V'.ownBlock=Bs q->(K (sx s)≠[]/\(loc (sx s)).ownBlock=Bs q)\/w.heap.size<=q:=fun q c=>by
  rcases R.2 with e|⟨q',e,f⟩
  ·exact .inl (q6d (e.symm.trans c))
  ·rw[c] at e;injection e with e;exact .inr (by omega)
 have a0:b<w.heap.size:=(h.aw (.inr (.inl rfl))).2;have D:Fr (fun k=>k=b\/Bs k=(N5 loc K (sx s)).ownBlock) w F:=(R.1.mono (T:=fun k=>k=b\/Bs k=(N5 loc K (sx s)).ownBlock) (fun i _ e=>.inr e)).trans' Y (fun i _ e=>.inl e);have v:∀ y,y≠sx s->K y≠[]->∀ q,(loc y).ownBlock=Bs q->¬(q=b\/Bs q=(N5 loc K (sx s)).ownBlock):=fun y d M q c e=>by
  rcases e with e|e
  ·subst e;exact h.bN M c
  ·obtain⟨u,p⟩:=q6d e.symm;exact h.apart y (sx s) d M u q c p
 refine⟨⟨D.ak h.ak (fun e=>?_),h.c0,h.c1,h.ne,?_,fun y d=>?_,fun y z I d G q c f=>?_,fun y d=>?_,fun y=>?_,fun y=>?_,fun y=>?_,h.cU,h.dj,h.cN,h.lo⟩,?_,fun q c=>?_⟩
 ·rcases e with e|e
  ·exact Ab.aB (C:=kV) h.map h.ak e.symm
  ·obtain⟨u,p⟩:=q6d e.symm;exact h.cr u p
 ·show Ab kV F b n2 _;rw[<- P5 s V' X];exact L
 ·unfold BS LA at *;split
  ·rename_i e;exact J.fr Y (fun q c B=>by
    rcases A q c with ⟨u,p⟩|Z
    ·subst B;exact h.bN u p
    ·have:=R.1.size;omega)
  ·rename_i e;rw[if_neg e] at d;exact(h.rows y d).fr D (v y e d)
 ·unfold BS LA at *;by_cases E:y=sx s
  ·by_cases B:z=sx s
   ·exact I (E.trans B.symm)
   ·rw[if_pos E] at c;rw[if_neg B] at f G;rcases A q c with ⟨u,p⟩|Z
    ·exact h.apart z (sx s) B G u q f p
    ·have:=((h.rows z G).block f).2.1;omega
  ·rw[if_neg E] at c d;by_cases B:z=sx s
   ·rw[if_pos B] at f;rcases A q f with ⟨u,p⟩|Z
    ·exact h.apart y (sx s) E d u q c p
    ·have:=((h.rows y d).block c).2.1;omega
   ·rw[if_neg B] at f G;exact h.apart y z I d G q c f
 ·unfold BS at d;split at d
  ·rename_i e;rw[e];exact hs
  ·exact h.small y d
 ·unfold BS;split
  ·exact S
  ·exact h.times y
 ·unfold BS;split
  ·exact U
  ·exact h.sorted y
 ·unfold BS;split
  ·exact W
  ·exact VO (h.len y) O
 ·refine D.mono (fun i _ e=>?_);rcases e with e|e
  ·exact .inr (.inl (by rw[e]))
  ·obtain⟨u,p⟩:=q6d e.symm;exact .inr (.inr ⟨_,u,p⟩)
 ·rcases c with c|c|⟨y,d,c⟩
  ·exact .inl (.inl c)
  ·exact .inl (.inr (.inl c))
  ·unfold BS LA at *;by_cases E:y=sx s
   ·rw[if_pos E] at c;exact(A q c).imp (fun k=>.inr (.inr ⟨_,k.1,k.2⟩)) id
   ·rw[if_neg E] at c d;exact .inl (.inr (.inr ⟨y,d,c⟩))
end
def QJ (base n g off:Nat) (ty:VV) (cs:Array O0) (mb:Option Nat) (loc:Sx->O0) (K:Kp) (low:Int) (r:Rx) (w:D0) (e:WC) (w':D0):Prop:=
 e=.returned (CD (Cv K low r).1)/\PI base (n+1) g off ty cs mb loc K (Cv K low r).2 low w w'
def Hh {P:Xc} (w:D0) (t k e:VV) (m:Option Nat) (h:P.underlying t=Bs (.map k e)):(binOp .eql t (.map m) (.map B0)).run P w=.ok (.bool m.isNone) w:=by
 simp only[binOp];simp[run_equal_map_nil w t k e m h]
section
variable (base n g off:Nat) (ty:VV) (cs:Array O0) (mb:Option Nat) (loc:Sx->O0) (K:Kp) (low:Int) (key val:ByteArray) (gone:Bool) (t:Int) (w:D0) (hI:BY w base n g off ty cs mb loc K low)
include hI
def q9k (c:Int) (f:Cv K low ⟨sx key,sx val,gone,t⟩=(c,K)) (d:c≠0):QJ base n g off ty cs mb loc K low ⟨sx key,sx val,gone,t⟩ w (.returned (.iface 79 (.int .i64 c))) (w.alloc (.cells #[.string key,.string val,.bool gone] 45)):=by
 unfold QJ;rw[f];refine⟨by show _=Ending.returned (CD c);unfold CD;rw[if_neg d],PI.below hI (WT n) ((VK _ _).alloc (K0 _) _)⟩
def Oo (h:t<0\/1099511627776<t):VY Tryz.prog 82 #[.pointer (Bs ⟨g,off,B0⟩),.int .i64 t,.agg #[.string key,.string val,.bool gone]] w (QJ base n g off ty cs mb loc K low ⟨sx key,sx val,gone,t⟩ w):=by
 have c:=q9k base n g off ty cs mb loc K low key val gone t w hI 2 (by unfold Cv;rw[if_pos h]) (by decide);have f:=LH c;clear c hI;by_cases d:t<0
 ·have p:decide (t<0)=VJ:=decide_eq_true d;clear h;go_enter Tryz.func82,Tryz.ntmps82;go_wp2_with fail;go_ret;exact f.o
 ·have p:decide (t<0)=Jx:=decide_eq_false d;have i:t > 1099511627776:=by rcases h with h|h <;> omega
  have q:decide (t > 1099511627776)=VJ:=decide_eq_true i;clear h;go_enter Tryz.func82,Tryz.ntmps82;go_wp2_with fail;go_ret;exact f.o
def Oq (h:¬(t<0\/1099511627776<t)) (hl:20<(sx key).length\/40<(sx val).length):VY Tryz.prog 82 #[.pointer (Bs ⟨g,off,B0⟩),.int .i64 t,.agg #[.string key,.string val,.bool gone]] w (QJ base n g off ty cs mb loc K low ⟨sx key,sx val,gone,t⟩ w):=by
 have c:=q9k base n g off ty cs mb loc K low key val gone t w hI 4 (by unfold Cv;rw[if_neg h,if_pos hl]) (by decide);have d:=LH c;clear c hI;have s:decide (t<0)=Jx:=decide_eq_false (fun e=>h (.inl e));have q:decide (t > 1099511627776)=Jx:=decide_eq_false (fun e=>h (.inr e));clear h;rw[<- KY,<- KY] at hl;by_cases i:20<key.size
 ·have f:decide ((key.size:Int) > 20)=VJ:=decide_eq_true (by omega);clear hl;go_enter Tryz.func82,Tryz.ntmps82;go_wp2_with fail;go_ret;exact d.o
 ·have f:decide ((key.size:Int) > 20)=Jx:=decide_eq_false (by omega);have p:decide ((val.size:Int) > 40)=VJ:=decide_eq_true (by omega);clear hl;go_enter Tryz.func82,Tryz.ntmps82;go_wp2_with fail;go_ret;exact d.o
def QW (h:¬(t<0\/1099511627776<t)) (hl:¬(20<(sx key).length\/40<(sx val).length)) (d:t<low):VY Tryz.prog 82 #[.pointer (Bs ⟨g,off,B0⟩),.int .i64 t,.agg #[.string key,.string val,.bool gone]] w (QJ base n g off ty cs mb loc K low ⟨sx key,sx val,gone,t⟩ w):=by
 have c:=q9k base n g off ty cs mb loc K low key val gone t w hI 8 (by unfold Cv;rw[if_neg h,if_neg hl,if_pos d]) (by decide);have p:=LH c;clear c;have i:=hI.ak.alloc (.cells #[.string key,.string val,.bool gone] 45);have z:=(hI.ak.cell (off+1)).trans hI.c1;have f:=hI.ak.lt;clear hI i;have y:decide (t<0)=Jx:=decide_eq_false (fun e=>h (.inl e));have v:decide (t > 1099511627776)=Jx:=decide_eq_false (fun e=>h (.inr e));have q:decide (t<low)=VJ:=decide_eq_true d;rw[<- KY,<- KY] at hl;have u:decide ((key.size:Int) > 20)=Jx:=decide_eq_false (by omega);have s:decide ((val.size:Int) > 40)=Jx:=decide_eq_false (by omega);clear h hl;go_enter Tryz.func82,Tryz.ntmps82;go_wp2_with fail;go_ret;exact p.o
end
def Jl (s:ByteArray):(⟨(sx s).toArray⟩:ByteArray)=s:=qb3 (Dh (sx s))
section
variable (base n g off:Nat) (ty:VV) (cs:Array O0) (mb:Option Nat) (loc:Sx->O0) (K:Kp) (low:Int) (key val:ByteArray) (gone:Bool) (t:Int) (w:D0) (hI:BY w base n g off ty cs mb loc K low)
include hI
def QV (h:¬(t<0\/1099511627776<t)) (hl:¬(20<(sx key).length\/40<(sx val).length)) (aR:¬t<low) (hn:n+1<=100000):VY Tryz.prog 82 #[.pointer (Bs ⟨g,off,B0⟩),.int .i64 t,.agg #[.string key,.string val,.bool gone]] w (QJ base n g off ty cs mb loc K low ⟨sx key,sx val,gone,t⟩ w):=by
 have aL:Cv K low ⟨sx key,sx val,gone,t⟩=if CU (K (sx key)) t then(9,K) else(0,BS K (sx key) (Cn (K (sx key)) (Ii ⟨sx key,sx val,gone,t⟩))):=by
  unfold Cv;rw[if_neg h,if_neg hl,if_neg aR]
 have b1:=LH aL;clear aL;have an:VP w.heap.size w (w.alloc (.cells #[.string key,.string val,.bool gone] 45)):=(VK _ _).alloc (K0 _) _;have aO:Ae (w.alloc (.cells #[.string key,.string val,.bool gone] 45)) w.heap.size 45 #[.string key,.string val,.bool gone]:=Ae.new _ _ _;have aY:=hI.aC an;have c1:=(hI.ak.cell (off+1)).trans hI.c1;have bk:=hI.ak.lt;have d1:decide (t<0)=Jx:=decide_eq_false (fun e=>h (.inl e));have d2:decide (t > 1099511627776)=Jx:=decide_eq_false (fun e=>h (.inr e));have d5:decide (t<low)=Jx:=decide_eq_false aR;have ba:(sx key).length<=20:=by omega
 have aS:key.size<=Wo:=by rw[KY];unfold Wo;omega
 rw[<- KY,<- KY] at hl;have d3:decide ((key.size:Int) > 20)=Jx:=decide_eq_false (by omega);have d4:decide ((val.size:Int) > 40)=Jx:=decide_eq_false (by omega);have aI:0<=t:=by omega
 have b7:t<=1099511627776:=by omega
 have R:=LH hI;clear hI;have S:=LH aY;clear aY;have a4:=LH aO;clear aO;have b6:=LH an;clear an;clear h hl;go_enter Tryz.func82,Tryz.ntmps82;go_upto_region 7 with (fail)
 clear d1 d2 d3 d4 d5 c1;generalize aD:w.alloc (.cells #[.string key,.string val,.bool gone] 45)=w0 at *;have aC:w0.heap.size=w.heap.size+1:=by rw[<- aD];simp
 have bl:=LH aC;clear aC aD;go_cut [7] (fun s7 wx=>s7=N5 loc K (sx key)/\VP w0.heap.size w0 wx)
 case first=>
  have c0:=(S.o.ak.cell off).trans S.o.c0;have p0:=a4.o.cell 0;have bi:=S.o.ak.lt;have bh:=a4.o.lt;simp only[Hi,Ft] at p0;have bj:∀ q,(XQ 101 (.map mb) (.string key) Jx).run Tryz.prog (w0.drewN q)=.ok (N5 loc K (sx key)) (w0.drewN q):=fun q=>(S.o.aC (w':=w0.drewN q) ⟨rfl,rfl,rfl,K0 _,fun _ _=>rfl⟩).look aS
  go_quiet (fail);go_wp2_with fail;go_meet;exact⟨rfl,⟨rfl,rfl,rfl,K0 _,fun _ _=>rfl⟩⟩
 case rest=>
  obtain⟨aH,a7⟩:=hcut;rename D0=>w1
  have N:=S.o.aC a7;have aN:=a4.o.below a7 a4.o.lt;have aW:VP w.heap.size w w1:=b6.o.trans (a7.mono b6.o.size);have Y:=N.row (sx key);have ab:=VO (N.len (sx key)) (show n<=100000 by omega);obtain⟨A,c,hV,hc⟩:=Y.form;rw[hV] at aH;subst aH;have aK:=qbc 107 base (.slice A (K (sx key)).length c) (K (sx key)) t w1 (JV Tryz.func107 (by kernel_rfl) rfl) (fun W x=>Mb t x W) (hV▸Y) (N.sorted _) ab (N.times _) aI (by omega);have b0:=LH aK;clear aK;have HV:=LH hV;clear hV Y;have b4:=LH N;clear N;have aw:=LH aN;clear aN;have aB:=LH aW;clear aW a7;go_wp2_with fail;refine b0.o.mono ?_;rintro e z ⟨rfl,a9⟩;have aX:=b4.o.aC a9;have aM:=aw.o.below a9 aw.o.lt;have ae:=aB.o.trans (a9.mono aB.o.size);have E:=LH aX;clear aX;have av:=LH aM;clear aM;have f:=LH ae;clear ae a9 b0;rcases hh:CU (K (sx key)) t with _|_
  ·
   have bd:=LH (b1.o.trans (if_neg (by rw[hh];decide)));have bf:=LH hh;clear hh;have c0:=(E.o.ak.cell off).trans E.o.c0;have f0:=E.o.ak.frozen off;have aT:=E.o.ak.lt;have b8:=fun W=>Hh W 101 _ _ mb Tryz.underlying101
   have a2:∀ (d:D0) (b:Nat) (w8:D0),Fr (EY g mb loc K) w d->(∀ q,EY g (Bs b) loc K q->EY g mb loc K q\/w.heap.size<=q)->PI base (n+1) g off ty (cs.setIfInBounds off (.map (Bs b))) (Bs b) loc K (BS K (sx key) (Cn (K (sx key)) (Ii ⟨sx key,sx val,gone,t⟩))) low d w8->QJ base n g off ty cs mb loc K low ⟨sx key,sx val,gone,t⟩ w (.returned .nilIface) w8:=fun d b w8 h1 h2 h3=>by
    unfold QJ;rw[bd.o];exact⟨rfl,PI.trans h1 h2 h3⟩
   have ay:=LH a2;clear a2;rcases mb with _|b
   case' none=>
    have b9:=@Y5 Tryz.prog;have ak:=E.o.made;have Z:(z.alloc (.map #[] 0)).setCell ⟨g,off,B0⟩ (.map (Bs z.heap.size))=(z.setCell ⟨g,off,B0⟩ (.map (Bs z.heap.size))).alloc (.map #[] 0):=by
     rw[Yn _ _ _ _ (by omega)]
    have al:Fr (EY g B0 loc K) w ((z.alloc (.map #[] 0)).setCell ⟨g,off,B0⟩ (.map (Bs z.heap.size))):=((show Fr (EY g B0 loc K) w z from⟨f.o.os,f.o.tape,f.o.output,f.o.size,fun k hk _=>f.o.block k hk⟩).alloc _).setCell (p:=⟨g,off,B0⟩) (.inl (.inl rfl)) _;have aj:Ae ((z.alloc (.map #[] 0)).setCell ⟨g,off,B0⟩ (.map (Bs z.heap.size))) w.heap.size 45 #[.string key,.string val,.bool gone]:=(Fr.a6 g _ off _).ak (av.o.alloc _) (fun e:w.heap.size=g=>by have:=R.o.ak.lt;omega);rw[Z] at ak al aj;clear Z;have b5:=LH (show ∀ q,EY g (Bs z.heap.size) loc K q->EY g B0 loc K q\/w.heap.size<=q from fun q G=>by
     rcases G with G|G|G
     ·exact .inl (.inl G)
     ·injection G with G;have:=f.o.size;exact .inr (by omega)
     ·exact .inl (.inr (.inr G)))
    have b3:=LH ak;clear ak;have ax:=LH al;clear al;have J:=LH aj;clear aj;go_upto_region 13 with (fail)
    clear b9 c0 f0;generalize hb:z.heap.size=b at *;generalize (z.setCell ⟨g,off,B0⟩ (.map (Bs b))).alloc (.map #[] 0)=d at *
   case' some=>
    have b3:Hid (BY z base n g off ty (cs.setIfInBounds off (.map (Bs b))) (Bs b) loc K low):=by rw[q5x E.o.c0];exact E
    have ax:=LH (show Fr (EY g (Bs b) loc K) w z from⟨f.o.os,f.o.tape,f.o.output,f.o.size,fun k hk _=>f.o.block k hk⟩);have b5:=LH (show ∀ q,EY g (Bs b) loc K q->EY g (Bs b) loc K q\/w.heap.size<=q from fun q G=>.inl G);have J:=av;go_upto_region 13 with (fail)
    clear c0 f0;obtain⟨d,rfl⟩:∃ d:D0,d=z:=⟨z,rfl⟩
   all_goals
    clear b8 E av f b4 aw aB S a4 aT;have p1:=J.o.cell 1;have p2:=J.o.cell 2;have pl:=J.o.lt;simp only[Hi,Ft,N2] at p1 p2;have aG:Ae (d.alloc (.cells #[.int .i64 t,.string val,.bool gone] 145)) d.heap.size 145 #[.int .i64 t,.string val,.bool gone]:=Ae.new _ _ _;have am:VP d.heap.size d (d.alloc (.cells #[.int .i64 t,.string val,.bool gone] 145)):=(VK _ _).alloc (K0 _) _;have au:=LH (J.o.below am pl);have O:=LH aG;clear aG;have aA:=LH am;clear am;go_upto_region 14 with (fail)
    clear p1 p2 pl;generalize d.alloc (.cells #[.int .i64 t,.string val,.bool gone] 145)=w4 at *;have p2:=au.o.cell 2;have pl:=au.o.lt;simp only[Hi,Ft,N2] at p2;go_upto_if 70 with (fail)
    clear p2 pl;go_cut [] (fun wx=>Ae wx d.heap.size 145 (CS (Ii ⟨sx key,sx val,gone,t⟩)).toArray/\Fr (fun k=>k=d.heap.size) w4 wx)
    case first=>
     have v1:=O.o.cell 1;have vf:=O.o.frozen 1;have vl:=O.o.lt;simp only[Hi,Ft,N2] at v1;rcases gone with _|_
     ·go_wp2_with fail;go_meet;exact⟨by unfold CS Ii;simp only[X3,if_false,Jl];exact O.o,Fr.refl _ _⟩
     ·have s:Ae (w4.setCell ⟨d.heap.size,1,B0⟩ (.string ⟨#[]⟩)) d.heap.size 145 (CS (Ii ⟨sx key,sx val,VJ,t⟩)).toArray/\Fr (fun k=>k=d.heap.size) w4 (w4.setCell ⟨d.heap.size,1,B0⟩ (.string ⟨#[]⟩)):=⟨by unfold CS Ii;simp only[if_true];exact O.o.aH 1 _,Fr.a6 _ _ _ _⟩
      have HF:=LH s;clear s;go_wp2_with fail;go_meet;exact HF.o
    case rest=>
     obtain⟨a6,aV⟩:=hcut;rename D0=>w5
     obtain⟨vv,aE⟩:∃ vv:ByteArray,vv=⟨(if gone then [] else sx val).toArray⟩:=⟨_,rfl⟩
     have ah:(CS (Ii ⟨sx key,sx val,gone,t⟩)).toArray=#[.int .i64 t,.string vv,.bool gone]:=by rw[aE];rfl
     rw[ah] at a6;have bc:=LH ah;clear ah aE;have L:VP d.heap.size d w5:=aA.o.trans (aV.below (fun i e=>by omega) aA.o.size);have a3:=b3.o.aC L;have ai:=J.o.below L J.o.lt;have ad:∀ W,VP w5.heap.size w5 W->W.cell? ⟨g,off,B0⟩=Bs (.map (Bs b))/\W.cell? ⟨w.heap.size,0,B0⟩=Bs (.string key)/\W.cell? ⟨d.heap.size,0,B0⟩=Bs (.int .i64 t)/\W.cell? ⟨d.heap.size,1,B0⟩=Bs (.string vv)/\W.cell? ⟨d.heap.size,2,B0⟩=Bs (.bool gone):=fun W hW=>by
      have k0:=((a3.ak.below hW a3.ak.lt).cell off).trans a3.c0;have k1:=(ai.below hW ai.lt).cell 0;have hk:=a6.below hW a6.lt;have v0:=hk.cell 0;have v1:=hk.cell 1;have v2:=hk.cell 2;simp only[Hi,Ft,N2] at k1 v0 v1 v2;exact⟨k0,k1,v0,v1,v2⟩
     have M:=LH ad;clear ad a6;have a5:=LH a3;clear a3;have ag:=LH L;clear L aV O au aA ai;go_wp2_with fail;refine nW ?_;refine CF (fun W=>W.cell? ⟨g,off,B0⟩=Bs (.map (Bs b))/\W.cell? ⟨w.heap.size,0,B0⟩=Bs (.string key)/\W.cell? ⟨d.heap.size,0,B0⟩=Bs (.int .i64 t)/\W.cell? ⟨d.heap.size,1,B0⟩=Bs (.string vv)/\W.cell? ⟨d.heap.size,2,B0⟩=Bs (.bool gone)) 11 (fun _ _ _ _ _ h=>h) (fun u=>?_);have y:=M.o w5.drew (VK _ _).drew;refine nF 0 u y ?_;refine nF 1 u y ?_;refine nF 2 u y ?_;refine nB 3 rfl rfl u y (fun w' U=>by obtain⟨q0,q1,q2,q3,q4⟩:=U;go_simp;rfl) ?_;refine nF 4 u y ?_;refine nB 5 rfl rfl u y (fun w' U=>by obtain⟨q0,q1,q2,q3,q4⟩:=U;go_simp;rfl) ?_;refine nF 6 u y ?_;refine nF 7 u y ?_;refine nB 8 rfl rfl u y (fun w' U=>by obtain⟨q0,q1,q2,q3,q4⟩:=U;go_simp;rfl) ?_;clear y;refine nG 9 (fun KK hK=>?_);go_simp;refine hK _ _ (fun _=>M.o _ ((VK _ _).alloc (K0 _) _).drew) ?_;clear hK KK;have a8:VP w5.heap.size w5 (w5.drew.alloc (.cells #[.int .i64 t,.string vv,.bool gone] 145)):=(VK _ _).drew.alloc (K0 _) _;have aF:Ae (w5.drew.alloc (.cells #[.int .i64 t,.string vv,.bool gone] 145)) w5.heap.size 145 (CS (Ii ⟨sx key,sx val,gone,t⟩)).toArray:=by rw[bc.o];exact Ae.new w5.drew _ _
     have ao:=a5.o.aC a8;have F:=ao.row (sx key);rw[HV.o] at F;have ac:=P0 base w5.heap.size 1 (.slice A (K (sx key)).length c) (K (sx key)) (Ii ⟨sx key,sx val,gone,t⟩) _ F ab aF (fun e=>by
      rw[<- HV.o] at e;obtain⟨k1,k2⟩:=q6d e;have:=((a5.o.rows _ k1).block k2).2.1;omega) (by have:=a5.o.lo;have:=a5.o.ak.lt;have:=a8.size;omega)
     have af:=LH ac;clear ac aF F;have aa:=LH ao;clear ao;have az:=LH a8;clear a8;refine nG 10 (fun KK hK=>?_);go_simp;refine af.o.mono ?_;rintro e w7 ⟨V7,rfl,X,B⟩;have aZ:w7.cell? ⟨g,off,B0⟩=Bs (.map (Bs b))/\w7.cell? ⟨w.heap.size,0,B0⟩=Bs (.string key)/\w7.cell? ⟨d.heap.size,0,B0⟩=Bs (.int .i64 t)/\w7.cell? ⟨d.heap.size,1,B0⟩=Bs (.string vv)/\w7.cell? ⟨d.heap.size,2,B0⟩=Bs (.bool gone):=by
      obtain⟨q0,q1,q2,q3,q4⟩:=M.o _ az.o;have I:∀ q,Dl (Bs b) loc K q\/True->q=g\/w.heap.size<=q->¬Bs q=(WM A (K (sx key)).length c).ownBlock:=fun q _ G e=>by
       rw[<- HV.o] at e;obtain⟨k1,k2⟩:=q6d e.symm;rcases G with rfl|G
       ·exact aa.o.cr k1 k2
       ·have:=((R.o.rows _ k1).block k2).2.1;omega
      have a1:∀ q,q<w5.heap.size->q<(w5.drew.alloc (.cells #[.int .i64 t,.string vv,.bool gone] 145)).heap.size:=fun q G=>VL G az.o.size
      have bb:=a5.o.ak.lt;have aq:w.heap.size<=d.heap.size:=ax.o.size;have ap:d.heap.size<w5.heap.size:=by
       have:=Wa w5 ⟨d.heap.size,0,B0⟩ (M.o w5 (VK _ _)).2.2.1;exact this
      refine⟨(B.1.cell (p:=⟨g,off,B0⟩) (a1 g bb) (I g (.inr trivial) (.inl rfl))).trans q0,(B.1.cell (p:=⟨w.heap.size,0,B0⟩) (a1 _ (by show w.heap.size<_;omega)) (I _ (.inr trivial) (.inr (K0 _)))).trans q1,(B.1.cell (p:=⟨d.heap.size,0,B0⟩) (a1 _ ap) (I _ (.inr trivial) (.inr aq))).trans q2,(B.1.cell (p:=⟨d.heap.size,1,B0⟩) (a1 _ ap) (I _ (.inr trivial) (.inr aq))).trans q3,(B.1.cell (p:=⟨d.heap.size,2,B0⟩) (a1 _ ap) (I _ (.inr trivial) (.inr aq))).trans q4⟩
     have a0:Ab kV w7 b n (D5 loc K):=(show Ab kV _ b n (D5 loc K) from aa.o.map).fr B.1 (fun e=>by
      rw[<- HV.o] at e;obtain⟨k1,k2⟩:=q6d e.symm;exact aa.o.bN k1 k2)
     have bg:=LH aZ;clear aZ;have b2:=LH a0;clear a0;have ar:=LH X;clear X;have be:=LH B;clear B af;go_simp;refine hK _ _ (fun _=>bg.o) ?_;clear hK KK;refine nG 11 (fun KK hK=>?_);refine Gx (C:=kV) 101 142 Tryz.underlying101 (.tmp 75) (.tmp 77) _ rfl (by simp[Xh,Xl]) b2.o (by unfold Wo;omega) key V7 (by simp[Xh,Xl,kV,keyS]) (by simp[Xh,Xl]) aS ?_;intro w8 aQ aU;have aJ:PI base (n+1) g off ty (cs.setIfInBounds off (.map (Bs b))) (Bs b) loc K (BS K (sx key) (Cn (K (sx key)) (Ii ⟨sx key,sx val,gone,t⟩))) low d w8:=by
      have I:Cn (K (sx key)) (Ii ⟨sx key,sx val,gone,t⟩)≠[]:=fun e=>by have:=qcp (K (sx key)) (Ii ⟨sx key,sx val,gone,t⟩);rw[e] at this;simp at this
      have aP:=be.o;rw[<- HV.o] at aP;obtain⟨s1,s2,s3⟩:=BY.setK (n2:=n+1) (by omega) aa.o ba I (fun v hv=>by
       rcases q79.1 hv with rfl|hv
       ·exact⟨aI,b7⟩
       ·exact R.o.times _ v hv) (qa4 (R.o.sorted _) bf.o) (by rw[qcp];have:=R.o.len (sx key);omega) (.inl ar.o) aP aQ aU
      have D:=ag.o.trans (az.o.mono ag.o.size);exact PI.trans (v1:=.map (Bs b)) ⟨D.os,D.tape,D.output,D.size,fun k hk _=>D.block k hk⟩ (fun q h=>.inl h) ⟨Bs b,_,by rw[q4s,q4s];exact s1,s2,s3⟩
     have s:=ay.o d b w8 ax.o b5.o aJ;have HF:=LH s;clear s aQ aU;refine hK _ _ nZ ?_;clear hK KK;refine nX ?_;clear u;go_wp2_with fail;go_ret;exact HF.o
  ·
   have s:QJ base n g off ty cs mb loc K low ⟨sx key,sx val,gone,t⟩ w (.returned (.iface 79 (.int .i64 9))) z:=by
    unfold QJ;rw[b1.o,if_pos hh];exact⟨rfl,PI.below R.o (WT n) f.o⟩
   have HF:=LH s;clear s hh;go_wp2_with fail;go_ret;exact HF.o
def TD (d:n+1<=100000):VY Tryz.prog 82 #[.pointer (Bs ⟨g,off,B0⟩),.int .i64 t,.agg #[.string key,.string val,.bool gone]] w (QJ base n g off ty cs mb loc K low ⟨sx key,sx val,gone,t⟩ w):=by
 by_cases h:t<0\/1099511627776<t
 ·exact Oo base n g off ty cs mb loc K low key val gone t w hI h
 ·by_cases hl:20<(sx key).length\/40<(sx val).length
  ·exact Oq base n g off ty cs mb loc K low key val gone t w hI h hl
  ·by_cases c:t<low
   ·exact QW base n g off ty cs mb loc K low key val gone t w hI h hl c
   ·exact QV base n g off ty cs mb loc K low key val gone t w hI h hl c d
end
def UU (base n g off:Nat) (ty:VV) (cs:Array O0) (mb:Option Nat) (loc:Sx->Ar) (T:Tb) (x:Ak) (w:D0) (e:WC) (w':D0):Prop:=
 ∃ (ok:Bool) (l:List Int) (f:Int) (T':Tb) (A:Option XL) (c:Nat) (d:Option Nat) (loc':Sx->Ar),e=.returned (.tuple #[.bool ok,.slice A l.length c,CD f])/\Dm T x ok l f T'/\
  AB w' base (n+2) g off ty (cs.setIfInBounds off (.map d)) d loc' T'/\(∀ b,AE d loc' T' b->AE mb loc T b\/w.heap.size<=b)/\Fr (VA g mb loc T) w w'/\
  Rd w' w'.heap.size 1 A l.length (l.map (Wp .i64))/\(∀ b o,A=Bs ⟨b,o,B0⟩->0<l.length->w.heap.size<=b/\¬AE d loc' T' b)
def q8u {w c:D0} {g:Nat} {loc:Sx->Ar} {o:Obj} (d:Fr (fun k=>k=g\/Bs k=D) (w.alloc o) c):Fr (VA g D loc T) w c:=
 ((Fr.refl (fun k=>k=g\/Bs k=D) w).alloc o |>.trans d).mono (fun i _ h=>by
  rcases h with h|h
  ·exact .inl h
  ·exact .inr (.inl h))
def qcz {w d:D0} {loc:Sx->Ar} {L:Ar} (i:UE D d j) (v:w.heap.size<=d.heap.size) (s:T x≠B0->L=loc x) (q:T x=B0->∀ b,AQ L b->d.heap.size<=b) :
  ∀ b,AE (Bs j) (Ax loc x L) (Ao T x (Bs k')) b->AE D loc T b\/w.heap.size<=b:=fun b c=>by
 rcases c with c|⟨y,f,c⟩
 ·injection c with c;rcases i with h|⟨_,h⟩
  ·exact .inl (.inl (by rw[h,c]))
  ·exact .inr (by omega)
 ·by_cases e:y=x
  ·subst e;rw[show Ax loc y L y=L by unfold Ax;rw[if_pos rfl]] at c;by_cases p:T y=B0
   ·exact .inr (VO v (q p b c))
   ·exact .inl (.inr ⟨y,p,s p▸c⟩)
  ·rw[show Ax loc x L y=loc y by unfold Ax;rw[if_neg e]] at c;unfold Ao at f;rw[if_neg e] at f;exact .inl (.inr ⟨y,f,c⟩)
def Ly (base n g off:Nat) (ty:VV) (cs:Array O0) (mb:Option Nat) (loc:Sx->Ar) (T:Tb) (s:ByteArray) (tx mode:Int) (w:D0) (hI:AB w base n g off ty cs mb loc T) (f:Br mode) (hl:(sx s).length<=20) (a9:Cq tx) (hn:n<1000000)
  (X:Ch (Ac T (sx s)).ws tx=VJ) :
  VY Tryz.prog 64 #[.pointer (Bs ⟨g,off,B0⟩),.int .i64 tx,.string s,.int .i64 mode] w (UU base n g off ty cs mb loc T ⟨tx,sx s,mode⟩ w):=by
 have z:VP w.heap.size w (w.alloc (.cells #[.int .i64 tx] 3)):=(VK _ _).alloc (K0 _) _;have O:=hI.aC z;have R:Ae (w.alloc (.cells #[.int .i64 tx] 3)) w.heap.size 3 #[.int .i64 tx]:=Ae.new w _ _;have I:=Mj base n g off ty cs mb loc T s _ O hl hn;have W:=LH I;clear I O;have HI:=LH hI;clear hI;have a6:=LH R;clear R;have ad:=LH z;clear z;have a7:¬((s.size:Int) > 20):=by rw[GI];omega
 go_enter Tryz.func64,Tryz.ntmps64;go_upto_block 0 with (fail)
 go_cut [] (fun wx=>wx=w.alloc (.cells #[.int .i64 tx] 3))
 case first=>
  rcases f with rfl|rfl
  ·go_wp2_with fail;go_meet;rfl
  ·go_wp2_with fail;go_meet;rfl
 case rest=>
  subst hcut;go_wp2_with fail;refine W.o.mono ?_;rintro e w1 ⟨b1,L,rfl,D,u,F,N,M⟩;have J:Ao T (sx s) (Bs (Ac T (sx s))) (sx s)=Bs (Ac T (sx s)):=by unfold Ao;rw[if_pos rfl]
  have d:=D.keys (sx s) _ J;rw[show Ax loc (sx s) L (sx s)=L by unfold Ax;rw[if_pos rfl]] at d;have p:=u.ak a6.o (fun h=>by
   rcases h with h|h
   ·have:=HI.o.ak.lt;omega
   ·have:=(HI.o.aw (.inl h)).2;omega)
  have cb:=p.cell 0;have a0:=d.ak.cell 0;have S:=d.ak.cell 1;have ab:=d.ak.lt;have a8:=p.lt;obtain⟨A,c,Y,aa,_⟩:=AR d.row;simp only[Hi,Ft,N2] at cb a0 S;rw[Y] at S;have v:=q3l 87 #[.pointer (Bs ⟨w.heap.size,0,B0⟩)] (fun x=>decide (x.1=tx)) A _ c _ w1 (Pw Tryz.func87 (by kernel_rfl) rfl) (qa2 w.heap.size tx w1 cb) (Rd.ay (Y▸d.row)) rfl (by have:=d.len;omega);rw[show(Ac T (sx s)).ws.any (fun x=>decide (x.1=tx))=VJ from X] at v;have a5:=LH v;clear v;have ac:=LH d;clear d;have a4:=LH D;clear D;have U:=LH u;clear u;have a1:=LH F;clear F;have a3:=LH N;clear N;have a2:=LH M;clear M;have HV:=LH Y;clear Y;have ae:=LH p;clear p J W;go_wp2_with fail;refine a5.o.mono ?_;rintro e w2 ⟨rfl,y⟩;have G:T (sx s)≠B0:=fun h=>by rw[show Ac T (sx s)=k0 by unfold Ac;rw[h];rfl] at X;cases X
  obtain⟨k,hk⟩:=Option.ne_none_iff_exists'.1 G;have B:=a4.o.aC y;have E:=q9l hk;have Z:Ao T (sx s) (Bs (Ac T (sx s)))=T:=E;rw[Z] at B;have q:UU base n g off ty cs mb loc T ⟨tx,sx s,mode⟩ w (.returned (.tuple #[.bool Jx,.slice B0 0 0,CD 9])) w2:=by
   refine⟨Jx,[],9,T,B0,0,Bs b1,_,rfl,.twice f hl X,B.mono (by omega),fun b hb=>?_,(q8u U.o).trans' (q2d y) (fun i hi (h:_<=i)=>?_),Rd.none_ _ _ _ _,fun b o h=>nomatch h⟩
   ·have h2:=qcz (w:=w) (k':=Ac T (sx s)) a1.o (by simp) a3.o a2.o b;rw[Z] at h2;exact h2 hb
   ·have:=U.o.size;simp at this;omega
  have HF:=LH q;clear q B y E Z hk G;unfold CD at HF;go_wp2_with fail;go_ret3;exact HF.o
def qcf (T:Tb) (x:Sx) (a b:Option Kx):Ao (Ao T x a) x b=Ao T x b:=by
 funext y;unfold Ao;split <;> rfl
def Jq (loc:Sx->Ar) (x:Sx) (L L':Ar):Ax (Ax loc x L) x L'=Ax loc x L':=by
 funext y;unfold Ax;split <;> rfl
def Na (h:Int->Option Int) (tx mode:Int):AU (hM h) tx (Bs (.int .i64 (if mode > AA h tx then mode else AA h tx)))=hM (Au h tx mode):=by
 have e:(if mode > AA h tx then mode else AA h tx)=max (AA h tx) mode:=by split <;> omega
 funext o;unfold AU hM Au Be;rw[e];split <;> rfl
def I9 {m:Int} (h:Br m):Cq m:=by rcases h with rfl|rfl <;> rfl
def Uc {mode:Int} (f:∀ o m,h o=Bs m->Cq o/\Cq m) (c:Cq tx) (i:Br mode):∀ o m,Au h tx mode o=Bs m->Cq o/\Cq m:=fun o m e=>by
 unfold Au Be at e;split at e
 ·rename_i q;injection e with e;subst q;refine⟨c,?_⟩;rw[<- e];unfold AA;rcases Int.le_total ((h o).getD 0) mode with d|d
  ·rw[Int.max_eq_right d];exact I9 i
  ·rw[Int.max_eq_left d];cases p:h o with
   | none=>rfl
   | some s=>exact(f _ _ p).2
 ·exact f o m e
def Rr (base n g off:Nat) (ty:VV) (cs:Array O0) (mb:Option Nat) (loc:Sx->Ar) (T:Tb) (s:ByteArray) (tx mode:Int) (w:D0) (hI:AB w base n g off ty cs mb loc T) (u:Br mode) (hl:(sx s).length<=20) (Y:Cq tx) (hn:n<1000000)
  (hw:Ch (Ac T (sx s)).ws tx=Jx) (ac:Ai (Ac T (sx s)).h tx mode (Ac T (sx s)).ws=VJ) :
  VY Tryz.prog 64 #[.pointer (Bs ⟨g,off,B0⟩),.int .i64 tx,.string s,.int .i64 mode] w (UU base n g off ty cs mb loc T ⟨tx,sx s,mode⟩ w):=by
 have a2:VP w.heap.size w (w.alloc (.cells #[.int .i64 tx] 3)):=(VK _ _).alloc (K0 _) _;have al:=hI.aC a2;have an:Ae (w.alloc (.cells #[.int .i64 tx] 3)) w.heap.size 3 #[.int .i64 tx]:=Ae.new w _ _;have ag:=Mj base n g off ty cs mb loc T s _ al hl hn;have av:=LH ag;clear ag al;have HI:=LH hI;clear hI;have aD:=LH an;clear an;have aG:=LH a2;clear a2;have aE:¬((s.size:Int) > 20):=by rw[GI];omega
 go_enter Tryz.func64,Tryz.ntmps64;go_upto_block 0 with (fail)
 go_cut [] (fun wx=>wx=w.alloc (.cells #[.int .i64 tx] 3))
 case first=>
  rcases u with rfl|rfl
  ·go_wp2_with fail;go_meet;rfl
  ·go_wp2_with fail;go_meet;rfl
 case rest=>
  subst hcut;go_wp2_with fail;refine av.o.mono ?_;rintro e O ⟨b1,L,rfl,a5,a0,aa,ai,ah⟩;have E:Ao T (sx s) (Bs (Ac T (sx s))) (sx s)=Bs (Ac T (sx s)):=by unfold Ao;rw[if_pos rfl]
  have f:=a5.keys (sx s) _ E;rw[show Ax loc (sx s) L (sx s)=L by unfold Ax;rw[if_pos rfl]] at f;have J:=a0.ak aD.o (fun h=>by
   rcases h with h|h
   ·have:=HI.o.ak.lt;omega
   ·have:=(HI.o.aw (.inl h)).2;omega)
  have cb:=J.cell 0;have ao:=f.ak.cell 0;have a6:=f.ak.cell 1;have ab:=f.ak.lt;have S:=J.lt;obtain⟨A,c,hV,aw,_⟩:=AR f.row;simp only[Hi,Ft,N2] at cb ao a6;rw[hV] at a6;have a1:=q3l 87 #[.pointer (Bs ⟨w.heap.size,0,B0⟩)] (fun x=>decide (x.1=tx)) A _ c _ O (Pw Tryz.func87 (by kernel_rfl) rfl) (qa2 w.heap.size tx O cb) (Rd.ay (hV▸f.row)) rfl (by have:=f.len;omega);rw[show(Ac T (sx s)).ws.any (fun x=>decide (x.1=tx))=Jx from hw] at a1;have au:=LH a1;clear a1;have aA:=LH f;clear f;have aB:=LH a5;clear a5;have ar:=LH a0;clear a0;have ay:=LH aa;clear aa;have aq:=LH ai;clear ai;have ap:=LH ah;clear ah;have HV:=LH hV;clear hV;have aC:=LH J;clear J E av;go_wp2_with fail;refine au.o.mono ?_;rintro e w2 ⟨rfl,af⟩;have v:∀ W,VP O.heap.size O W->AX W base (n+1) L (Ac T (sx s))/\W.cell? ⟨w.heap.size,0,B0⟩=Bs (.int .i64 tx)/\W.cell? ⟨L.g,0,B0⟩=Bs (.map (Bs L.hb))/\W.cell? ⟨L.g,1,B0⟩=Bs (.slice A (Ac T (sx s)).ws.length c):=fun W hW=>by
   have G:=aA.o.aC hW;have h2:=G.ak.cell 0;have h3:=G.ak.cell 1;have h4:=(aC.o.below hW S).cell 0;simp only[Hi,Ft,N2] at h2 h3 h4;rw[HV.o] at h3;exact⟨G,h4,h2,h3⟩
  have D:∀ W,VP O.heap.size O W->VY Tryz.prog 88 #[.pointer (Bs ⟨L.g,0,B0⟩),.int .i64 tx,.int .i64 mode,.slice A (Ac T (sx s)).ws.length c] W fun e w'=>e=.returned (.bool VJ)/\VP W.heap.size W w':=fun W hW=>by
   have G:=(v W hW).1;have h2:=qcv L.g L.hb (n+1) (Ac T (sx s)).ws.length c L.V (Ac T (sx s)).h tx mode A (Ac T (sx s)).ws W G.ak G.holds G.cY Y (Rd.ay (HV.o▸G.row)) rfl (by have:=G.len;omega);rw[ac] at h2;exact h2
  have p:=LH v;clear v;have a9:=LH D;clear D;have N:=LH af;clear af au;have aF:=LH ab;clear ab;clear cb ao a6 S aw;go_wp2_with fail;refine nW ?_;refine CF (fun w'=>w'.cell? ⟨w.heap.size,0,B0⟩=Bs (.int .i64 tx)/\w'.cell? ⟨L.g,1,B0⟩=Bs (.slice A (Ac T (sx s)).ws.length c)) 8 (fun _ _ _ _ _ h=>h) (fun a8=>?_);have y:=p.o w2.drew N.o.drew;have q:=Wm y.2.1 y.2.2.2;clear y;refine nE 0 q ?_;refine nC 1 rfl (fun _ _ _ h=>a8 _ _ _ _ _ h) q (fun w' X=>by obtain⟨h0,G⟩:=X;go_simp;rfl) ?_;refine nE 2 q ?_;refine nE 3 q ?_;refine nE 4 q ?_;refine nE 5 q ?_;refine nC 6 rfl (fun _ _ _ h=>a8 _ _ _ _ _ h) q (fun w' X=>by obtain⟨h0,G⟩:=X;go_simp;rfl) ?_;refine nG 7 (fun K hK=>?_);go_simp;refine(a9.o w2.drew N.o.drew).mono ?_;rintro e w3 ⟨rfl,ae⟩;have am:VP O.heap.size O w3:=N.o.drew.trans (ae.mono (by have:=N.o.size;simpa using this));have I:=LH am;clear am ae;have y:=p.o w3 I.o;go_simp;refine hK _ _ (fun _=>⟨y.2.1,y.2.2.2⟩) ?_;clear hK K q;refine nX ?_;clear a8 y;go_wp2_with fail;refine XI 13 (by kernel_rfl) (by kernel_rfl) ?_;change wpStill _ _ (Yo _) _ _ _;simp only[WU,XM,Xb,Ys];have a7:=LH Y;clear Y;obtain⟨Z,c0,c1,_⟩:=p.o w3.drew I.o.drew;have ax:=qcu Z.holds a7.o;have HH:=LH Z.holds;clear Z
  repeat still_step
  refine Y4 ?_;refine SR (C:=kI) rfl 61 3 Tryz.underlying61 (.tmp 51) (.tmp 52) (.tmp 60) rfl (by simp[Xh]) HH.o (by unfold Wo;omega) tx (.int .i64 (if mode > AA (Ac T (sx s)).h tx then mode else AA (Ac T (sx s)).h tx)) (by simp[Xh];rfl) (by simp[Xh];try (split <;> omega)) a7.o ?_;intro w4 z ad;have az:=LH z;clear z;have M:=LH ad;clear ad;clear ax c0 c1 HH;have d:=(p.o w3.drew I.o.drew).1;have ak:=aB.o.aC I.o.drew;have B:AU (hM (Ac T (sx s)).h) tx (Bs (.int .i64 (if mode > AA (Ac T (sx s)).h tx then mode else AA (Ac T (sx s)).h tx)))=hM (Au (Ac T (sx s)).h tx mode):=Na _ _ _;have z:=az.o;rw[B] at z;have aj:AX w4 base (n+2) L ⟨Au (Ac T (sx s)).h tx mode,(Ac T (sx s)).ws⟩:=
   ⟨M.o.ak d.ak (fun e=>d.holds.aB d.ak e.symm),z,M.o.own d.row (fun b hb e=>by subst e;exact d.holds.aL d.row hb),d.log,d.loh,fun o m h=>Uc d.cY a7.o u o m h,d.okw,d.len⟩
  have E:Ao T (sx s) (Bs (Ac T (sx s))) (sx s)=Bs (Ac T (sx s)):=by unfold Ao;rw[if_pos rfl]
  have F:Ax loc (sx s) L (sx s)=L:=by unfold Ax;rw[if_pos rfl]
  have a4:=ak.cB (n':=n+2) (L':=L) (k':=⟨Au (Ac T (sx s)).h tx mode,(Ac T (sx s)).ws⟩) E (by omega) (M.o.mono (fun i _ (h:i=L.hb)=>by rw[F];exact .inr (.inl h))) aj (by rw[F]) (by rw[F]) (fun b hb=>by rw[F];exact .inl hb);rw[qcf,Jq] at a4;have R:UU base n g off ty cs mb loc T ⟨tx,sx s,mode⟩ w (.returned (.tuple #[.bool VJ,.slice B0 0 0,CD 0])) w4:=by
   refine⟨VJ,[],0,_,B0,0,Bs b1,_,rfl,.got u hl hw ac,a4,qcz ay.o (by simp) aq.o ap.o,?_,Rd.none_ _ _ _ _,fun b o h=>nomatch h⟩;refine((q8u ar.o).trans' (q2d I.o.drew) (fun i hi (h:_<=i)=>?_)).trans' M.o (fun i hi (h:i=L.hb)=>?_)
   ·have:=ar.o.size;simp at this;omega
   ·by_cases a3:T (sx s)=B0
    ·have:=ap.o a3 i (.inr (.inl h));simp at this;omega
    ·exact .inr (.inr ⟨sx s,a3,by rw[<- aq.o a3];exact .inr (.inl h)⟩)
  have U:=LH R;clear R a4 aj z B E F ak d;unfold CD at U;go_wp2_with fail
  all_goals
   go_ret3;exact U.o
def Fy (base n:Nat) (V:O0) (l:List Int) (w:D0) (h:w.ownsRow base 3 1 V n (l.map (Wp .i64))) (hl:l.length=n) (z:n<1000000000) :
  VY Tryz.prog 92 #[V] w fun e w'=>e=.returned (.tuple #[])/\w'.ownsRow base 3 1 V n ((Dw l).map (Wp .i64))/\Fr (fun k=>V.ownBlock=Bs k) w w':=by
 subst hl;rcases h.2 with ⟨rfl,v⟩|⟨g,cap,u,rfl,s,c,i,q,f,d⟩
 ·have e:l=[]:=Wd v;subst e;refine(GM B0 0 w).mono ?_;rintro e w' ⟨rfl,rfl⟩;exact⟨rfl,by rw[show Dw []=[] by simp[Dw]];exact VZ _ _ _ _,Fr.refl _ _⟩
 ·refine(Tl g 0 cap l w (holds_of_blockI c (by rw[Nat.mul_one] at d;exact d)) (by have:=Ae.lt (show Ae w g _ u from c);omega) (by omega)).mono ?_;rintro e w' ⟨rfl,n,y,rfl⟩;exact⟨rfl,ownsRow_sortedI (YC l) s c i q f,Fr.aZ (grownBy_sortedI _) (fun k p=>by injection p with p;subst p;rfl)⟩
def TG {mode:Int} (h:∀ x∈L,Cq x.1/\Cq x.2) (d:Cq tx) (i:Br mode):∀ x∈BT L (tx,mode),Cq x.1/\Cq x.2:=fun x c=>by
 rcases q50.1 c with rfl|c
 ·exact⟨d,I9 i⟩
 ·exact h x c
def TY {w5:D0} {base n:Nat} {L:Ar} {mode:Int} (h:AX W base n L k) (A:(k.ws.takeWhile (fun x=>decide (x.1<tx))).length=i) (E:k.ws.length≠50)
  (c:w5.ownsRow base 166 2 V' (k.ws.length+1) (B7 2 i (Cp (tx,mode)) (k.ws.flatMap Cp))) (d:Av W w5 L.V.ownBlock V'.ownBlock) (s:Cq tx) (z:Br mode) :
  AX (w5.setCell ⟨L.g,1,B0⟩ V') base n ⟨L.g,L.hb,V'⟩ ⟨k.h,BT k.ws (tx,mode)⟩/\Fr (AQ L) W (w5.setCell ⟨L.g,1,B0⟩ V'):=by
 have f:=d.1.ak h.ak (fun e=>Bh h.row h.ak (by decide) e.symm);have q:=h.holds.fr d.1 (fun e=>h.holds.aL h.row e.symm);have u:=Bh c f (by decide);have y:=Fr.a6 L.g w5 1 V';have v:=f.aH 1 V';refine⟨⟨v,q.fr y (fun e=>q.aB f e),?_,h.log,h.loh,h.cY,TG h.okw s z,?_⟩,(d.1.mono (fun b _ D=>.inr (.inr D.symm))).trans ((Fr.refl _ _).setCell (p:=⟨L.g,1,B0⟩) (.inl (.inl rfl)) V')⟩
 ·have:=y.own c (fun g B e=>u (by rw[B,e]));rw[Ot A] at this;rw[JD];exact this
 ·rw[JD];have:=h.len;show k.ws.length+1<=50;omega
def JO {loc:Sx->Ar} {L L':Ar} (i:L'.g=L.g) (f:L'.hb=L.hb) (p:∀ b,L'.V.ownBlock=Bs b->L.V.ownBlock=Bs b\/B<=b) :
  ∀ b,AE D (Ax loc x L') (Ao T x (Bs k')) b->AE D (Ax loc x L) (Ao T x (Bs k)) b\/B<=b:=fun b c=>by
 rcases c with c|⟨y,d,c⟩
 ·exact .inl (.inl c)
 ·by_cases e:y=x
  ·subst e;rw[show Ax loc y L' y=L' by unfold Ax;rw[if_pos rfl]] at c;have key:AQ L b\/B<=b:=by
    rcases c with h|h|h
    ·exact .inl (.inl (by rw[h,i]))
    ·exact .inl (.inr (.inl (by rw[h,f])))
    ·rcases p b h with h|h
     ·exact .inl (.inr (.inr h))
     ·exact .inr h
   rcases key with h|h
   ·exact .inl (.inr ⟨y,by unfold Ao;rw[if_pos rfl];simp,by rw[show Ax loc y L y=L by unfold Ax;rw[if_pos rfl]];exact h⟩)
   ·exact .inr h
  ·rw[show Ax loc x L' y=loc y by unfold Ax;rw[if_neg e]] at c;unfold Ao at d;rw[if_neg e] at d;exact .inl (.inr ⟨y,by unfold Ao;rw[if_neg e];exact d,by rw[show Ax loc x L y=loc y by unfold Ax;rw[if_neg e]];exact c⟩)
def DE.dx {P:Xc} {C:CJ P kt α} {w:D0} {r n:Nat} {m:α->Option O0} {left:α->Bool} (h:DE C w b r n m left j):j<=n:=by
 obtain⟨D,l,⟨q,d,c,f,s,_,_,i,_,_,_,p,_⟩,_⟩:=h;rw[<- p];exact VO (Array.size_filter_le) i
section
variable {l:List Int} {left:Int->Bool} {h:Int->Option Int} {tx mode o m:Int}
def Jv {_:∀ p,Decidable (p=o)} : ∀ p,(left p && !decide (p=o))=Jx↔left p=Jx\/p=o:=fun p=>by
 by_cases e:p=o <;> simp[e]
def SZ {d:∀ p,Decidable (p=o)} (hl:∀ p,p∈l↔left p=Jx/\∃ m,h p=Bs m/\tx<p/\AI m mode=VJ) (u:h o=Bs m) (v:left o=VJ) (i:¬(tx<o/\AI m mode=VJ)) :
  ∀ p,p∈l↔(left p && !decide (p=o))=Jx/\∃ m,h p=Bs m/\tx<p/\AI m mode=VJ:=fun p=>by
 rw[Jv p,hl p];constructor
 ·rintro ⟨f,c⟩;exact⟨.inl f,c⟩
 ·rintro ⟨f|f,s,c,q⟩
  ·exact⟨f,s,c,q⟩
  ·subst f;rw[u] at c;injection c with c;subst c;exact absurd q i
def SY {d:∀ p,Decidable (p=o)} (hl:∀ p,p∈l↔left p=Jx/\∃ m,h p=Bs m/\tx<p/\AI m mode=VJ) (v:h o=Bs m) (q:left o=VJ) (f:tx<o/\AI m mode=VJ) (i:l.Nodup) :
  (l++[o]).Nodup/\∀ p,p∈l++[o]↔(left p && !decide (p=o))=Jx/\∃ m,h p=Bs m/\tx<p/\AI m mode=VJ:=by
 refine⟨List.nodup_append.2 ⟨i,by simp,fun a y b u=>?_⟩,fun p=>?_⟩
 ·simp at u;subst u;rintro rfl;have:=((hl a).1 y).1;rw[q] at this;cases this
 ·rw[Jv p,XG,hl p,VW];constructor
  ·rintro (⟨c,s⟩|c)
   ·exact⟨.inl c,s⟩
   ·subst c;exact⟨.inr rfl,m,v,f⟩
  ·rintro ⟨c|c,s⟩
   ·exact .inl ⟨c,s⟩
   ·exact .inr c
end
def Pp (tx mode o m:Int):Bool:=decide (tx<o) && AI m mode
def OQ:(Tryz.prog.info? 3).map (fun i=>(i.zero,i.size,i.bytes))=Bs (Bs (.int .i64 0),1,8):=by kernel_rfl
def Sb (W:D0) (h:Int->Option Int) (tx mode:Int) (c r n:Nat) (v:O0) (wr:D0):Prop:=
 ∃ (left:Int->Bool) (cnt:Nat) (l:List Int),DE kI wr c r n (hM h) left cnt/\l.length+cnt<=n/\wr.ownsRow (W.heap.size+1) 3 1 v l.length (l.map (Wp .i64))/\l.Nodup/\
  (∀ o,o∈l↔left o=Jx/\∃ m,h o=Bs m/\tx<o/\AI m mode=VJ)/\VP W.heap.size W wr/\W.heap.size+1<=wr.heap.size
def Sq (base n g off:Nat) (ty:VV) (cs:Array O0) (mb:Option Nat) (loc:Sx->Ar) (T:Tb) (x:Ak) (w:D0) (lg f:Nat) (c:D0):Prop:=
 ∃ (d:Nat) (V:O0),AB c base (n+1) g off ty (cs.setIfInBounds off (.map (Bs d))) (Bs d) (Ax loc x.key ⟨lg,f,V⟩) (Ao T x.key (Bs ⟨(Ac T x.key).h,BT (Ac T x.key).ws (x.tx,x.mode)⟩))/\
  (∀ b,AE (Bs d) (Ax loc x.key ⟨lg,f,V⟩) (Ao T x.key (Bs ⟨(Ac T x.key).h,BT (Ac T x.key).ws (x.tx,x.mode)⟩)) b->AE mb loc T b\/w.heap.size<=b)/\Fr (VA g mb loc T) w c/\Ae c w.heap.size 3 #[.int .i64 x.tx]/\lg<c.heap.size
def G8 (base n g off:Nat) (ty:VV) (cs:Array O0) (mb:Option Nat) (loc:Sx->Ar) (T:Tb) (s:ByteArray) (tx mode:Int) (w:D0) (hI:AB w base n g off ty cs mb loc T) (U:Br mode) (hl:(sx s).length<=20) (bm:Cq tx) (hn:n<1000000)
  (hw:Ch (Ac T (sx s)).ws tx=Jx) (aW:Ai (Ac T (sx s)).h tx mode (Ac T (sx s)).ws=Jx) (aT:(Ac T (sx s)).ws.Pairwise (·.1 < ·.1)) :
  VY Tryz.prog 64 #[.pointer (Bs ⟨g,off,B0⟩),.int .i64 tx,.string s,.int .i64 mode] w (UU base n g off ty cs mb loc T ⟨tx,sx s,mode⟩ w):=by
 have b4:VP w.heap.size w (w.alloc (.cells #[.int .i64 tx] 3)):=(VK _ _).alloc (K0 _) _;have bP:=hI.aC b4;have bS:Ae (w.alloc (.cells #[.int .i64 tx] 3)) w.heap.size 3 #[.int .i64 tx]:=Ae.new w _ _;have bJ:=Mj base n g off ty cs mb loc T s _ bP hl hn;have c9:=LH bJ;clear bJ bP;have HI:=LH hI;clear hI;have cD:=LH bS;clear bS;have ar:=LH b4;clear b4;have cF:¬((s.size:Int) > 20):=by rw[GI];omega
 go_enter Tryz.func64,Tryz.ntmps64;go_upto_block 0 with (fail)
 go_cut [] (fun wx=>wx=w.alloc (.cells #[.int .i64 tx] 3))
 case first=>
  rcases U with rfl|rfl
  ·go_wp2_with fail;go_meet;rfl
  ·go_wp2_with fail;go_meet;rfl
 case rest=>
  subst hcut;go_wp2_with fail;refine c9.o.mono ?_;rintro e w1 ⟨b1,L,rfl,b6,aY,br,bL,bK⟩;have az:Ao T (sx s) (Bs (Ac T (sx s))) (sx s)=Bs (Ac T (sx s)):=by unfold Ao;rw[if_pos rfl]
  have Y:=b6.keys (sx s) _ az;rw[show Ax loc (sx s) L (sx s)=L by unfold Ax;rw[if_pos rfl]] at Y;have ay:=aY.ak cD.o (fun h=>by
   rcases h with h|h
   ·have:=HI.o.ak.lt;omega
   ·have:=(HI.o.aw (.inl h)).2;omega)
  have cb:=ay.cell 0;have aB:=Y.ak.cell 0;have b9:=Y.ak.cell 1;have bB:=Y.ak.lt;have ah:=ay.lt;obtain⟨A,c,hV,cd,_⟩:=AR Y.row;simp only[Hi,Ft,N2] at cb aB b9;rw[hV] at b9;have aZ:=q3l 87 #[.pointer (Bs ⟨w.heap.size,0,B0⟩)] (fun x=>decide (x.1=tx)) A _ c _ w1 (Pw Tryz.func87 (by kernel_rfl) rfl) (qa2 w.heap.size tx w1 cb) (Rd.ay (hV▸Y.row)) rfl (by have:=Y.len;omega);rw[show(Ac T (sx s)).ws.any (fun x=>decide (x.1=tx))=Jx from hw] at aZ;have c4:=LH aZ;clear aZ;have bg:=LH Y;clear Y;have aG:=LH b6;clear b6;have ab:=LH aY;clear aY;have bc:=LH br;clear br;have aF:=LH bL;clear bL;have aE:=LH bK;clear bK;have HV:=LH hV;clear hV;have c7:=LH ay;clear ay az c9;go_wp2_with fail;refine c4.o.mono ?_;rintro e w2 ⟨rfl,bI⟩;have a3:∀ W,VP w1.heap.size w1 W->AX W base (n+1) L (Ac T (sx s))/\W.cell? ⟨w.heap.size,0,B0⟩=Bs (.int .i64 tx)/\W.cell? ⟨L.g,0,B0⟩=Bs (.map (Bs L.hb))/\W.cell? ⟨L.g,1,B0⟩=Bs (.slice A (Ac T (sx s)).ws.length c):=fun W hW=>by
   have F:=bg.o.aC hW;have R:=F.ak.cell 0;have h3:=F.ak.cell 1;have h4:=(c7.o.below hW ah).cell 0;simp only[Hi,Ft,N2] at R h3 h4;rw[HV.o] at h3;exact⟨F,h4,R,h3⟩
  have ag:∀ W,VP w1.heap.size w1 W->VY Tryz.prog 88 #[.pointer (Bs ⟨L.g,0,B0⟩),.int .i64 tx,.int .i64 mode,.slice A (Ac T (sx s)).ws.length c] W fun e w'=>e=.returned (.bool Jx)/\VP W.heap.size W w':=fun W hW=>by
   have F:=(a3 W hW).1;have R:=qcv L.g L.hb (n+1) (Ac T (sx s)).ws.length c L.V (Ac T (sx s)).h tx mode A (Ac T (sx s)).ws W F.ak F.holds F.cY bm (Rd.ay (HV.o▸F.row)) rfl (by have:=F.len;omega);rw[aW] at R;exact R
  have D:=LH a3;clear a3;have ap:=LH ag;clear ag;have au:=LH bI;clear bI c4;have cJ:=LH bB;clear bB;have c6:=LH ah;have cv:=LH bm;clear cb aB b9 ah cd;go_upto_region 8 with (fail)
  go_cut [47] (fun s47 wx=>s47=.bool Jx/\VP w1.heap.size w1 wx)
  case first=>
   refine nW ?_;refine CF (fun w'=>w'.cell? ⟨w.heap.size,0,B0⟩=Bs (.int .i64 tx)/\w'.cell? ⟨L.g,1,B0⟩=Bs (.slice A (Ac T (sx s)).ws.length c)) 8 (fun _ _ _ _ _ h=>h) (fun y=>?_);have z:=D.o w2.drew au.o.drew;have q:=Wm z.2.1 z.2.2.2;clear z;refine nF 0 y q ?_;refine nB 1 rfl rfl y q (fun w' M=>by obtain⟨h0,F⟩:=M;go_simp;rfl) ?_;refine nF 2 y q ?_;refine nF 3 y q ?_;refine nF 4 y q ?_;refine nF 5 y q ?_;refine nB 6 rfl rfl y q (fun w' M=>by obtain⟨h0,F⟩:=M;go_simp;rfl) ?_;refine nG 7 (fun K G=>?_);go_simp;refine(ap.o w2.drew au.o.drew).mono ?_;rintro e w3 ⟨rfl,a1⟩;have bR:VP w1.heap.size w1 w3:=au.o.drew.trans (a1.mono (by have:=au.o.size;simpa using this));have I:=LH bR;clear bR a1;have z:=D.o w3 I.o;go_simp;refine G _ _ (fun _=>⟨z.2.1,z.2.2.2⟩) ?_;clear G K q;refine nX ?_;clear y z;go_wp2_with fail;go_meet;exact⟨rfl,I.o⟩
  case rest=>
   obtain⟨bk,a1⟩:=hcut;subst bk;clear ap au;have I:=LH a1;clear a1;have bN:=aG.o.aC I.o;have c3:=LH bN;clear bN;obtain⟨_,cq,ct,cr⟩:=D.o wc I.o;by_cases aa:(Ac T (sx s)).ws.length=50
   ·
    have J:UU base n g off ty cs mb loc T ⟨tx,sx s,mode⟩ w (.returned (.tuple #[.bool Jx,.slice B0 0 0,CD 4])) wc:=by
     have ch:T (sx s)≠B0:=fun h=>by rw[show Ac T (sx s)=k0 by unfold Ac;rw[h];rfl] at aa;cases aa
     obtain⟨k,hk⟩:=Option.ne_none_iff_exists'.1 ch;have hT:Ao T (sx s) (Bs (Ac T (sx s)))=T:=q9l hk;have bO:=c3.o;rw[hT] at bO;refine⟨Jx,[],4,T,B0,0,Bs b1,_,rfl,.full U hl hw aW aa,bO.mono (by omega),fun b hb=>?_,(q8u ab.o).trans' (q2d I.o) (fun i hi (h:_<=i)=>?_),Rd.none_ _ _ _ _,fun b o h=>(nomatch h)⟩
     ·have R:=qcz (w:=w) (k':=Ac T (sx s)) bc.o (by simp) aF.o aE.o b;rw[hT] at R;exact R hb
     ·have:=ab.o.size;simp at this;omega
    have O:=LH J;clear J;have bT:(((Ac T (sx s)).ws.length:Int) == 50)=VJ:=by simp[aa]
    unfold CD at O;go_wp2_with fail;go_ret3;exact O.o
   have bT:(((Ac T (sx s)).ws.length:Int) == 50)=Jx:=by rw[beq_eq_false_iff_ne];omega
   have ca:=LH aa;clear aa;go_upto_region 13 with (fail)
   clear bT cq ct cr;go_cut [12] (fun s12 wx=>∃ i:Nat,s12=.int .i64 i/\Hid (i<=(Ac T (sx s)).ws.length/\((Ac T (sx s)).ws.takeWhile (fun x=>decide (x.1<tx))).length=i)/\VP w1.heap.size w1 wx)
   case first=>
    refine nW ?_;refine CF (fun w'=>w'.cell? ⟨w.heap.size,0,B0⟩=Bs (.int .i64 tx)/\w'.cell? ⟨L.g,1,B0⟩=Bs (.slice A (Ac T (sx s)).ws.length c)) 10 (fun _ _ _ _ _ h=>h) (fun y=>?_);have z:=D.o wc.drew I.o.drew;have q:=Wm z.2.1 z.2.2.2;have bH:=Ip 90 (Pg tx) A _ c (Ac T (sx s)).ws tx wc.drew (Pw Tryz.func90 (by kernel_rfl) rfl) (OK tx wc.drew) (Rd.ay (HV.o▸z.1.row)) rfl (by have:=z.1.len;omega) (fun _ _=>trivial) (R2 aT);have c5:=LH bH;clear bH;clear z;refine nF 0 y q ?_;refine nF 1 y q ?_;refine nF 2 y q ?_;refine nB 3 rfl rfl y q (fun w' M=>by obtain⟨h0,F⟩:=M;go_simp;rfl) ?_;refine nB 4 rfl rfl y q (fun w' M=>by obtain⟨h0,F⟩:=M;go_simp;rfl) ?_;refine nG 5 (fun K G=>?_);go_simp;refine c5.o.mono ?_;rintro e w4 ⟨i,f,rfl,hi,bw,bx,_,ai⟩;have ae:=I7 hi bw bx;have an:=LH (Wm hi ae);clear hi bw bx ae;have bQ:VP w1.heap.size w1 w4:=I.o.drew.trans (ai.mono (by have:=I.o.size;simpa using this));have Z:=LH bQ;clear bQ ai c5;have z:=D.o w4 Z.o;have a2:=Wm z.2.1 z.2.2.2;clear z q;have q:=a2;clear a2;go_simp;refine G _ _ (fun _=>q) ?_;clear G K;refine nG 6 (fun K G=>?_);go_simp;refine G _ _ (fun _=>q) ?_;clear G K;refine nF 7 y q ?_;refine nF 8 y q ?_;refine nG 9 (fun K G=>?_);go_simp;refine G _ _ (fun _=>q) ?_;clear G K;refine nG 10 (fun K G=>?_);go_simp;refine G _ _ nZ ?_;clear G K;refine nX ?_;clear y q;go_wp2_with fail;go_meet;exact⟨i,rfl,an,Z.o⟩
   case rest=>
    obtain⟨i,bl,ae,ai⟩:=hcut;subst bl;have Z:=LH ai;clear ai I c3;have an:=LH ae.o;clear ae;go_upto_region 14 with (fail)
    go_cut [] (fun wx=>Sq base n g off ty cs mb loc T ⟨tx,sx s,mode⟩ w L.g L.hb wx)
    case first=>
     refine nW ?_;refine CF (fun w'=>w'.cell? ⟨w.heap.size,0,B0⟩=Bs (.int .i64 tx)/\w'.cell? ⟨L.g,1,B0⟩=Bs (.slice A (Ac T (sx s)).ws.length c)) 11 (fun _ _ _ _ _ h=>h) (fun y=>?_);have z:=D.o wc.drew Z.o.drew;have q:=Wm z.2.1 z.2.2.2;clear z;refine nF 0 y q ?_;refine nF 1 y q ?_;refine nF 2 y q ?_;refine nF 3 y q ?_;refine nB 4 rfl rfl y q (fun w' M=>by obtain⟨h0,F⟩:=M;go_simp;rfl) ?_;refine nF 5 y q ?_;refine nB 6 rfl rfl y q (fun w' M=>by obtain⟨h0,F⟩:=M;go_simp;rfl) ?_;refine nF 7 y q ?_;refine nF 8 y q ?_;refine nG 9 (fun K G=>?_);go_simp;have aj:VP w1.heap.size w1 ((wc.alloc (.cells #[.int .i64 tx,.int .i64 mode] 166)).drew):=(Z.o.alloc (by have:=Z.o.size;simpa using this) _).drew;have a8:=D.o _ aj;have bM:=aG.o.aC aj;have bj:Ae ((wc.alloc (.cells #[.int .i64 tx,.int .i64 mode] 166)).drew) wc.heap.size 166 #[.int .i64 tx,.int .i64 mode]:=Ae.new wc _ _;have aP:=c7.o.below aj c6.o;have aN:=PP base (Ac T (sx s)).ws.length i wc.heap.size 1 L.V ((Ac T (sx s)).ws.flatMap Cp) (Cp (tx,mode)) _ a8.1.row an.o.1 (by have:=a8.1.len;omega) (fun u hu=>by
      obtain⟨x,_,hx⟩:=List.mem_flatMap.1 hu;simp only[Cp,X4,XX,or_false] at hx;rcases hx with rfl|rfl <;> rfl) rfl (fun u hu=>by
      simp only[Cp,X4,XX,or_false] at hu;rcases hu with rfl|rfl <;> rfl) bj (fun e=>by have:=(bg.o.aw (.inr (.inr e))).2;have:=Z.o.size;omega) (by have:=aG.o.bg;have:=Z.o.size;simp;omega)
     generalize cm:(wc.alloc (.cells #[.int .i64 tx,.int .i64 mode] 166)).drew=w5 at *;have aR:=LH aN;clear aN;have a6:=LH a8.1;have cx:=LH bM;clear bM;have c8:=LH aj;clear aj;have al:=LH aP;clear aP bj;have a2:=Wm a8.2.1 a8.2.2.2;clear a8 q;have q:=a2;clear a2;clear cm;refine G _ _ (fun _=>q) ?_;clear G K;refine nG 10 (fun K G=>?_);rw[HV.o] at aR;go_simp;refine aR.o.mono ?_;rintro e w6 ⟨V',rfl,ad,N⟩;rw[<- HV.o] at N;obtain⟨X,aX⟩:=TY a6.o an.o.2 ca.o ad N cv.o U;have ax:=N.1.ak a6.o.ak (fun e=>Bh a6.o.row a6.o.ak (by decide) e.symm);have b8:=ax.cell 1;have cu:=ax.frozen 1;have bC:=ax.lt;simp only[Hi,Ft,N2] at b8;have aO:=N.1.ak al.o (fun e=>Bh a6.o.row al.o (by decide) e.symm);have b7:=aO.cell 0;simp only[Hi,Ft] at b7;have b0:=b8;rw[HV.o] at b0;have cC:=LH (Wm b7 b0);clear b7 b0 aO;have J:Sq base n g off ty cs mb loc T ⟨tx,sx s,mode⟩ w L.g L.hb (w6.setCell ⟨L.g,1,B0⟩ V'):=by
      have az:Ao T (sx s) (Bs (Ac T (sx s))) (sx s)=Bs (Ac T (sx s)):=by unfold Ao;rw[if_pos rfl]
      have aA:Ax loc (sx s) L (sx s)=L:=by unfold Ax;rw[if_pos rfl]
      have a9:=cx.o.cB (n':=n+1) (L':=⟨L.g,L.hb,V'⟩) (k':=⟨(Ac T (sx s)).h,BT (Ac T (sx s)).ws (tx,mode)⟩) az (K0 _) (by rw[aA];exact aX) X (by rw[aA]) (by rw[aA]) (fun b hb=>by
       rw[aA];rcases N.2 with e|⟨g',e,cf⟩
       ·exact .inl (e.symm.trans hb)
       ·rw[hb] at e;injection e with e;exact .inr (by omega))
      rw[qcf,Jq] at a9;refine⟨b1,V',a9,fun b hb=>?_,?_,?_,by simp[World.setCell];exact bC⟩
      ·rcases JO (L:=L) (L':=⟨L.g,L.hb,V'⟩) (k:=Ac T (sx s)) (k':=⟨(Ac T (sx s)).h,BT (Ac T (sx s)).ws (tx,mode)⟩) (B:=w5.heap.size) rfl rfl (fun b hb=>by
        rcases N.2 with e|⟨g',e,cf⟩
        ·exact .inl (e.symm.trans hb)
        ·have cl:V'.ownBlock=Bs b:=hb;rw[cl] at e;injection e with e;exact .inr (by omega)) b hb with h|h
       ·exact qcz bc.o (by simp) aF.o aE.o b h
       ·exact .inr (by have:=c8.o.size;have:=ab.o.size;simp at this;omega)
      ·refine((q8u ab.o).trans' (q2d c8.o) (fun i hi (h:_<=i)=>?_)).trans' aX (fun i hi (h:AQ L i)=>?_)
       ·have:=ab.o.size;simp at this;omega
       ·by_cases b5:T (sx s)=B0
        ·have:=aE.o b5 i h;simp at this;omega
        ·exact .inr (.inr ⟨sx s,b5,by rw[<- aF.o b5];exact h⟩)
      ·exact(N.1.ak al.o (fun e=>Bh a6.o.row al.o (by decide) e.symm)).far (fun e=>al.o.ne_ a6.o.ak (by decide) e) _
     obtain⟨A',c',co,_,_⟩:=AR ad;have O:=LH J;clear J X aX ax ad N;subst co;clear q;go_simp;refine G _ _ (fun _=>cC.o) ?_;clear G K;refine nG 11 (fun K G=>?_);go_simp;refine G _ _ nZ ?_;clear G K;refine nG 12 (fun K G=>?_);go_simp;refine G _ _ nZ ?_;clear G K;refine nG 13 (fun K G=>?_);go_simp;refine G _ _ nZ ?_;clear G K;refine nX ?_;clear y b8 cu bC;go_wp2_with fail;go_meet;exact O.o
    case rest=>
     obtain⟨b2,V,a9,bD,bE,aw,cH⟩:=hcut;rename D0=>W6
     clear D an Z ab bc aF aE HV bg aG;have X:=a9.keys (sx s) _ (show Ao T (sx s) _ (sx s)=_ by unfold Ao;rw[if_pos rfl]);rw[show Ax loc (sx s) ⟨L.g,L.hb,V⟩ (sx s)=⟨L.g,L.hb,V⟩ by unfold Ax;rw[if_pos rfl]] at X;have aB:=X.ak.cell 0;have cb:=aw.cell 0;simp only[Hi,Ft] at aB cb;have ck:=aw.lt;have bY:=LH X.holds;have bX:=LH X.cY;have bz:=X.holds.lt;have c1:=LH a9;clear a9;have cA:=LH bD;clear bD;have bh:=LH bE;clear bE;have cK:=LH aw;clear aw X;have cy:=LH bz;clear bz;go_wp2_with (at_range;refine q2u rfl _ 61 3 rfl Tryz.underlying61 rfl bY.o ?_;intro w0 bU aK cg BD)
     try go_frame
     go_loopw [14] (fun v wr=>Sb W6 (Ac T (sx s)).h tx mode L.hb W6.heap.size (n+1) v wr) (fun _ wr=>wr.rangeLeft L.hb W6.heap.size)
     case atStart=>exact⟨_,bU,[],aK,(by simpa using aK.dx),VZ _ _ _ _,List.nodup_nil,(fun o=>by
      simp only[XX,false_iff];rintro ⟨F,m,R,_⟩;simp[hM,R] at F),cg.bb,by omega⟩
     case round=>
      obtain⟨left,cnt,l,bq,bG,aL,bt,aM,b3,bn⟩:=hrel;have bV:=(b3.cell (p:=⟨w.heap.size,0,B0⟩) ck).trans cb;have aQ:w.heap.size<wr.heap.size:=by omega
      have bb:=LH bq;clear bq;have S:=LH aL;clear aL;have be:=LH bt;clear bt;have ao:=LH aM;clear aM;have ar:=LH b3;clear b3;have aq:=LH bG;clear bG;have aC:=LH bn;clear bn;go_wp2_with (at_next;refine q3c rfl _ rfl rfl bb.o ?_ ?_)
      ·
       intro ce;have aH:=Fy (W6.heap.size+1) l.length _ l wr S.o rfl (by have:=aq.o;omega);have bW:=LH aH;clear aH;obtain⟨A2,c2,cn,_,cp⟩:=AR S.o;subst cn;go_wp2_with fail;refine bW.o.mono ?_;rintro e w9 ⟨rfl,E,bF⟩;have J:UU base n g off ty cs mb loc T ⟨tx,sx s,mode⟩ w (.returned (.tuple #[.bool Jx,.slice A2 l.length c2,CD 0])) w9:=by
        have a4:VP W6.heap.size W6 w9:=ar.o.trans (bF.below (fun i hi=>by have:=(S.o.lt i hi).1;omega) (by have:=ar.o.size;omega));have bo:(Dw l).length=l.length:=YC l;refine⟨Jx,Dw l,0,_,A2,c2,Bs b2,_,by rw[bo],.waits U hl hw aW ca.o ⟨IS be.o,fun o=>?_⟩,(c1.o.aC a4).mono (by omega),cA.o,bh.o.trans' (q2d a4) (fun i hi (h:_<=i)=>by have:=bh.o.size;omega),?_,fun b o e h0=>?_⟩
        ·rw[FW,ao.o o];constructor
         ·rintro ⟨_,m,F,R,h3⟩;exact⟨R,m,F,h3⟩
         ·rintro ⟨R,m,F,h3⟩;exact⟨ce o (bX.o o m F).1,m,F,R,h3⟩
        ·rw[bo];exact Rd.ay E
        ·have F:=S.o.lt b (by rw[cp _ e]);refine⟨by have:=bh.o.size;omega,fun R=>?_⟩;have:=(c1.o.aw R).2;omega
       have O:=LH J;clear J bF E;unfold CD at O;go_wp2_with fail;go_ret3;exact O.o
      ·intro o v w3 ak cG bv a0 aJ aV av bp ci;obtain⟨m,hm,rfl⟩:∃ m,(Ac T (sx s)).h o=Bs m/\v=.int .i64 m:=by
        unfold hM at a0;cases e:(Ac T (sx s)).h o with
        | none=>rw[e] at a0;cases a0
        | some m=>rw[e] at a0;injection a0 with a0;exact⟨m,rfl,a0.symm⟩
       have a1:VP W6.heap.size W6 w3:=ar.o.trans (av.below (fun i (hi:i=_)=>by omega) (by have:=ar.o.size;omega));have af:=av.own S.o (fun b hb (e:b=_)=>by have:=(S.o.lt b hb).1;omega);have cI:=(av.cell (p:=⟨w.heap.size,0,B0⟩) aQ (fun e=>by have:w.heap.size=W6.heap.size:=e;omega)).trans bV;have cj:w.heap.size<w3.heap.size:=by omega
       have I:=LH a1;clear a1;have bd:=LH af;clear af;have bZ:=LH hm;clear hm;have am:=LH aJ;clear aJ a0;have c0:=LH bv;clear bv;rw[show kI.val o=Wp .i64 o from rfl] at ci ⊢;have bu:w3.rangeLeft L.hb W6.heap.size<wr.rangeLeft L.hb W6.heap.size:=by
        rw[am.o.left_eq,bb.o.left_eq];exact aV
       have cw:=LH bu;clear bu;have bf:=LH aV;clear aV av;have aD:=LH bp;clear bp;clear bV aQ;have ac:¬(tx<o/\AI m mode=VJ)->Sb W6 (Ac T (sx s)).h tx mode L.hb W6.heap.size (n+1) _ w3:=fun aU=>
        ⟨_,ak,l,am.o,by have:=aq.o;have:=bf.o;omega,bd.o,be.o,SZ ao.o bZ.o c0.o aU,I.o,by have:=aC.o;have:=aD.o;omega⟩
       have ba:=LH ac;clear ac;have bA:∀ V9 w9,(tx<o/\AI m mode=VJ)->w9.ownsRow (W6.heap.size+1) 3 1 V9 (l.length+1) (l.map (Wp .i64)++[Wp .i64 o])->VP (W6.heap.size+1) w3 w9->
         Sb W6 (Ac T (sx s)).h tx mode L.hb W6.heap.size (n+1) V9 w9/\w9.rangeLeft L.hb W6.heap.size<wr.rangeLeft L.hb W6.heap.size:=fun V9 w9 a7 E a4=>by
        have aI:DE kI w9 L.hb W6.heap.size (n+1) (hM (Ac T (sx s)).h) _ ak:=am.o.bw (a4.block _ (by have:=cy.o;omega)) (a4.block _ (by omega));have hw:=SY (d:=fun p=>Classical.propDecidable (p=o)) ao.o bZ.o c0.o a7 be.o;refine⟨⟨_,ak,l++[o],aI,by have:=aq.o;have:=bf.o;simp;omega,by simpa using E,hw.1,hw.2,I.o.trans (a4.mono (by omega)),by have:=a4.size;have:=aC.o;have:=aD.o;omega⟩,?_⟩;rw[aI.left_eq,bb.o.left_eq];exact bf.o
       have cz:=LH bA;clear bA;go_upto_region 19 with (fail)
       go_cut [110] (fun s110 wx=>s110=.bool (Pp tx mode o m)/\wx=w3)
       case first=>
        by_cases F:tx<o
        ·have d1:decide (o > tx)=VJ:=decide_eq_true F;by_cases R:m=2
         ·have d2:(m == 2)=VJ:=by simpa using R
          have a5:=LH (show Pp tx mode o m=VJ by simp[Pp,F,AI,R]);go_wp2_with fail;go_meet;exact⟨by rw[a5.o],rfl⟩
         ·have d2:(m == 2)=Jx:=by simpa using R
          by_cases h3:mode=2
          ·have d3:(mode == 2)=VJ:=by simpa using h3
           have a5:=LH (show Pp tx mode o m=VJ by simp[Pp,F,AI,h3]);go_wp2_with fail;go_meet;exact⟨by rw[a5.o],rfl⟩
          ·have d3:(mode == 2)=Jx:=by simpa using h3
           have a5:=LH (show Pp tx mode o m=Jx by simp[Pp,F,AI,R,h3]);go_wp2_with fail;go_meet;exact⟨by rw[a5.o],rfl⟩
        ·have d1:decide (o > tx)=Jx:=decide_eq_false F;have a5:=LH (show Pp tx mode o m=Jx by simp[Pp,F]);go_wp2_with fail;go_meet;exact⟨by rw[a5.o],rfl⟩
       case rest=>
        obtain⟨aS,cc⟩:=hcut;subst aS cc;rcases bi:Pp tx mode o m with _|_
        ·have aU:¬(tx<o/\AI m mode=VJ):=fun h=>by simp[Pp,h.1,h.2] at bi
         have HR:=LH (ba.o aU);go_wp2_with fail;go_roundw
         case rel=>exact HR.o
         case measure=>exact cw.o
        ·have a7:tx<o/\AI m mode=VJ:=by simpa [Pp] using bi
         have HY:=LH a7;clear a7;go_wp2_with (at_builtin;refine stop ?_)
         refine Df ?_;refine PD _ _ rfl (.tmp 111) (.tmp 113) 26 rfl (W6.heap.size+1) 3 (.int .i64 0) 1 8 Tryz.underlying26 OQ rfl (by decide) _ _ _ #[.int .i64 o] rfl bd.o 1 rfl _ rfl rfl (by simp[WB]) ?_ ?_ ?_ ?_
         ·have:=aq.o;unfold Wo;omega
         ·have:=aq.o;omega
         ·have:=aC.o;have:=aD.o;omega
         intro v' w9 E N;have h9:=cz.o v' w9 HY.o (by simpa using E) (N.below (fun b hb=>(bd.o.lt b hb).1) (by have:=aC.o;have:=aD.o;omega));have H9:=LH h9;clear h9 E N;go_wp2_with fail;go_roundw
         case rel=>exact H9.o.1
         case measure=>exact H9.o.2

def Kj (tx:Int) (x:Int×Int):Bool:=decide (x.1=tx)
def Nh (w:D0) (g o:Nat) (x:Int×Int):D0:=(w.setCell ⟨g,o,B0⟩ (.int .i64 x.1)).setCell ⟨g,o+1,B0⟩ (.int .i64 x.2)
def RQ (w:D0) (g o:Nat) (x:Int×Int):Fr (fun i=>i=g) w (Nh w g o x):=
 ((Fr.refl (fun i=>i=g) w).setCell (p:=⟨g,o,B0⟩) (.inl rfl) _).setCell (p:=⟨g,o+1,B0⟩) (.inl rfl) _
def set2:∀ (M:List (Int×Int)) (i:Nat) (x:Int×Int),i<M.length->(((M.flatMap Cp).set (i*2) (.int .i64 x.1)).set (i*2+1) (.int .i64 x.2))=(M.set i x).flatMap Cp
 | [],i,x,h=>by simp at h
 | y::M,0,x,_=>by simp[Cp]
 | y::M,i+1,x,h=>by
  have c:=set2 M i x (by simpa using h);have d:(i+1)*2=i*2+2:=by omega
  rw[d,List.set_cons_succ,VM,VM,<- c];simp[Cp,Nat.add_right_comm]
def Ox {w:D0} {base g n cap:Nat} (h:w.ownsRow base 166 2 (.slice (Bs ⟨g,0,B0⟩) n cap) n (L.flatMap Cp)) (x:Int×Int) (c:i<L.length) :
  (Nh w g (i*2) x).ownsRow base 166 2 (.slice (Bs ⟨g,0,B0⟩) n cap) n ((L.set i x).flatMap Cp):=by
 rw[<- set2 L i x c];exact((h.stored _ _).1.stored _ _).1
def Hf {w:D0} (h:VP B w w'):Fr (fun k=>B<=k) w w':=⟨h.os,h.tape,h.output,h.size,fun k _ c=>h.block k (by omega)⟩
def JR (L:List (Int×Int)) (i:Nat):(L.flatMap Cp).take (i*2)=(L.take i).flatMap Cp:=by
 induction L generalizing i with
 | nil=>simp
 | cons x L c=>
  cases i with
  | zero=>simp
  | succ i=>rw[show(i+1)*2=i*2+2 by omega,VM,WU,VM,<- c];simp[Cp]
def MR {w:D0} {base e size n:Nat} (h:w.ownsRow base e size v n xs) (c:VP w.heap.size w w'):w'.ownsRow base e size v n xs:=
 Fr.own (S:=fun k=>w.heap.size<=k) ⟨c.os,c.tape,c.output,c.size,fun k _ f=>c.block k (by omega)⟩ h (fun g d (i:w.heap.size<=g)=>by have:=(h.lt g d).2;omega)
def Nn (base c n cap:Nat) (tx:Int) (L:List (Int×Int)) (w:D0) (u v:O0) (wr:D0):Prop:=
 ∃ (i j:Nat) (M:List (Int×Int)),u=.int .i64 i/\v=.int .i64 j/\i<j/\j<=n/\M.length=n/\M.take i=AC (L.take j) tx/\M.drop j=L.drop j/\wr.ownsRow base 166 2 (.slice (Bs ⟨c,0,B0⟩) n cap) n (M.flatMap Cp)/\Fr (fun k=>k=c) w wr
def EB (base c cap:Nat) (n:Nat) (l:List (Int×Int)) (w:D0) (e:WC) (w':D0):Prop:=
 e=.returned (.slice (Bs ⟨c,0,B0⟩) l.length cap)/\w'.ownsRow base 166 2 (.slice (Bs ⟨c,0,B0⟩) l.length cap) l.length (l.flatMap Cp)/\Fr (fun k=>k=c) w w'/\l.length<=n
def qcj {x:Int×Int} (h:L[j]? = Bs x):AC (L.take (j+1)) tx=if Kj tx x then AC (L.take j) tx else AC (L.take j) tx++[x]:=by
 unfold AC;rw[VX,h,List.filter_append];rcases c:Kj tx x with _|_ <;> (unfold Kj at c;simp[c])
def Oy (h:CE (Kj tx) L=i):i<L.length/\L.take i=AC (L.take (i+1)) tx:=by
 unfold CE at h;rcases c:L.findIdx? (Kj tx) with _|j
 ·rw[c] at h;simp only at h;omega
 ·rw[c] at h;have e:j=i:=by have s:(j:Int)=i:=h;omega
  subst e;rw[VU] at c;obtain⟨hl,p,f⟩:=c;refine⟨hl,?_⟩;rw[qcj (L1 hl),if_pos p];unfold AC;rw[List.filter_eq_self.2];intro x d;obtain⟨k,q,rfl⟩:=List.mem_take_iff_getElem.1 d;have:=f k (by omega);unfold Kj at this;simpa using this
def TH (h:CE (Kj tx) L = -1):AC L tx=L:=by
 unfold CE at h;rcases c:L.findIdx? (Kj tx) with _|j
 ·unfold AC;rw[List.filter_eq_self.2];intro x d;rw[Wn] at c;have:=c x d;unfold Kj at this;simpa using this
 ·rw[c] at h;simp only at h;omega
def KB (tx:Int) (L:List (Int×Int)):CE (Kj tx) L = -1\/∃ i:Nat,CE (Kj tx) L=i:=by
 unfold CE;split
 ·exact .inr ⟨_,rfl⟩
 ·exact .inl rfl
def w_zero (w:D0):(Yd 166).run Tryz.prog w=.ok (.agg #[.int .i64 0,.int .i64 0]) w:=by kernel_rfl
def Iu (base u n cap b:Nat) (tx:Int) (L:List (Int×Int)) (w:D0) (f:w.ownsRow base 166 2 (.slice (Bs ⟨u,0,B0⟩) n cap) n (L.flatMap Cp)) (hl:L.length=n) (hn:n<=100000)
  (hb:w.cell? ⟨b,0,B0⟩=Bs (.int .i64 tx)) (ak:b≠u):VY Tryz.prog 102 #[.slice (Bs ⟨u,0,B0⟩) n cap,.func (.func 103) #[] #[.pointer (Bs ⟨b,0,B0⟩)]] w (EB base u cap n (AC L tx) w):=by
 have a9:=q7k 103 #[.pointer (Bs ⟨b,0,B0⟩)] (Kj tx) (Bs ⟨u,0,B0⟩) n cap L w (Pw Tryz.func103 (by kernel_rfl) rfl) (q5d b tx w hb) (Rd.ay f) hl hn;have ac:=Wa w _ hb;have Y:=LH a9;clear a9;have a1:=LH f;clear f;have HB:=LH hb;clear hb;have HL:=LH hl;clear hl;rcases KB tx L with hf|⟨i0,hf⟩
 ·rw[hf] at Y;go_enter Tryz.func102,Tryz.ntmps102;go_wp2_with fail;refine Y.o.mono ?_;rintro e w1 ⟨rfl,q⟩;have A:EB base u cap n (AC L tx) w (.returned (.slice (Bs ⟨u,0,B0⟩) n cap)) w1:=by
   rw[TH hf];unfold EB;rw[HL.o];exact⟨rfl,MR a1.o q,⟨q.os,q.tape,q.output,q.size,fun k hk _=>q.block k hk⟩,K0 _⟩
  have O:=LH A;clear A;go_wp2_with fail;go_ret;exact O.o
 ·rw[hf] at Y;obtain⟨aa,a8⟩:=Oy hf;have aa:i0<n:=by have:=HL.o;omega
  have a6:((i0:Int) == -1)=Jx:=by rw[beq_eq_false_iff_ne];omega
  go_enter Tryz.func102,Tryz.ntmps102;go_wp2_with fail;refine Y.o.mono ?_;rintro e w1 ⟨rfl,q⟩;have D:Nn base u n cap tx L w (.int .i64 i0) (.int .i64 ((i0:Int)+1)) w1:=⟨i0,i0+1,L,rfl,rfl,by omega,by omega,HL.o,a8,rfl,MR a1.o q,⟨q.os,q.tape,q.output,q.size,fun k hk _=>q.block k hk⟩⟩
  have al:=LH D;clear D;clear hf a8;go_wp2_with fail;clear a6 aa q;go_loopw [5,6] (Nn base u n cap tx L w) (fun _ v _=>n-(intOf v).toNat)
  case atStart=>exact al.o
  case round=>
   obtain⟨i,j,M,rfl,rfl,ap,hj,hM,G,U,f,F⟩:=hrel;by_cases ao:(j:Int)<n
   ·have hx:M[j]? = L[j]?:=by
     have:=congrArg (fun l=>l[0]?) U;simpa using this
    obtain⟨g',o',x,hA,ar,a4,h0,h1⟩:=(Rd.ay f).bP hM (j:=j) (by omega);simp only[VR,W1,and_true] at hA;obtain⟨rfl,rfl⟩:=hA;rw[Wx] at h0 h1;have a5:L[j]? = Bs x:=hx▸a4;have S:Fr (fun _=>False) wr (wr.alloc (.cells #[.int .i64 x.1,.int .i64 x.2] 166)):=(Fr.refl _ _).alloc _;have ab:=(S.cell (p:=⟨b,0,B0⟩) (VL ac F.size) (fun h=>h)).trans ((F.cell (p:=⟨b,0,B0⟩) ac ak).trans HB.o);have z:=q5d b tx _ ab _ x (VK _ _);unfold UF at z;rw[show(fun y:Int×Int=>decide (y.1=tx)) x=Kj tx x from rfl] at z;have ad:Ae (wr.alloc (.cells #[.int .i64 x.1,.int .i64 x.2] 166)) wr.heap.size 166 #[.int .i64 x.1,.int .i64 x.2]:=Ae.new wr _ _;have I:=S.own f (fun _ _ h=>h);have HC:=LH z;clear z;have aj:=LH ad;clear ad;have am:=LH I;clear I;have ah:=LH (F.trans' S (fun _ _ h=>h.elim));clear F S;have af:=LH G;clear G;have ag:=LH U;clear U;have ae:=LH a5;clear a5 hx a4 ab;have HM:=LH hM;clear hM;go_wp2_with fail;refine HC.o.mono ?_;rintro e R ⟨rfl,a3⟩;have N:Fr (fun k=>k=u) w R:=ah.o.trans' (Hf a3) (fun i hi (h:_<=i)=>by have:=ah.o.size;simp at h this;omega);have d:=MR am.o a3;have X:Ae R wr.heap.size 166 #[.int .i64 x.1,.int .i64 x.2]:=aj.o.below a3 aj.o.lt;have ai:=LH N;clear N;rcases hp:Kj tx x with _|_
    ·have B:=qcj (tx:=tx) ae.o;rw[hp,if_neg (by simp)] at B;have a2:i<M.length:=by rw[HM.o];omega
     have q0:=X.cell 0;have q1:=X.cell 1;simp only[Hi,N2,Ft] at q0 q1;obtain⟨g',o',y,hA,_,_,p0,p1⟩:=(Rd.ay d).bP HM.o (j:=i) (by omega);simp only[VR,W1,and_true] at hA;obtain⟨rfl,rfl⟩:=hA;rw[Wx] at p0 p1;have f0:=d.frozenAt (i*2);have f1:=d.frozenAt (i*2+1);have aq:u<R.heap.size:=(d.lt u rfl).2;have Z:=Ox d x a2;have s:Nn base u n cap tx L w (.int .i64 ((i:Int)+1)) (.int .i64 ((j:Int)+1)) (Nh R u (i*2) x):=by
      refine⟨i+1,j+1,M.set i x,rfl,rfl,by omega,by omega,by rw[List.length_set];exact HM.o,?_,?_,Z,ai.o.trans (RQ R u (i*2) x)⟩
      ·rw[B,<- af.o,VX,List.take_set,List.getElem?_set_self a2,List.set_eq_of_length_le (by rw[WA];omega)];simp
      ·rw[List.drop_set_of_lt (by omega),<- Xk,ag.o,Xk]
     have E:=LH s;clear s Z B a2;have HP:=LH hp;clear hp;have av:=LH d;clear d;clear X h0 h1;unfold Nh at E;go_wp2_with fail;go_roundw
     ·exact E.o
     ·simp[intOf];omega
    ·have B:=qcj (tx:=tx) ae.o;rw[hp,if_pos rfl] at B;have s:Nn base u n cap tx L w (.int .i64 i) (.int .i64 ((j:Int)+1)) R:=
      ⟨i,j+1,M,rfl,rfl,by omega,by omega,HM.o,by rw[af.o,B],by rw[<- Xk,ag.o,Xk],d,ai.o⟩
     have E:=LH s;clear s B d;have HP:=LH hp;clear hp X h0 h1;go_wp2_with fail;go_roundw
     ·exact E.o
     ·simp[intOf];omega
   ·obtain rfl:j=n:=by omega
    have an:=(Tv f).1;have a0:L.take j=L:=V0 (by have:=HL.o;omega);rw[a0] at G;have a7:(AC L tx).length=i:=by rw[<- G,WA];omega
    have J:=q4w f (i:=i) (by omega);rw[JR,G] at J;obtain⟨R,au,d,N⟩:=q5b 164 (.agg #[.int .i64 0,.int .i64 0]) Bt w_zero (by rfl) (by decide) J (m:=j-i) (c:=cap-i) (by omega);have s1:=q5a (size:=2) 164 (by rw[Of];exact Bt) (fun W=>by rw[Of];exact Og W) wr u j cap i (i:Int) rfl (by omega);have s2:=q3v 164 Bt Of Og R u j cap i (i:Int) rfl (by omega);have A:EB base u cap j (AC L tx) w (.returned (.slice (Bs ⟨u,0,B0⟩) i cap)) R:=by
     unfold EB;rw[a7];exact⟨rfl,d,F.trans N,by omega⟩
    have O:=LH A;clear A d N J f G U hM F a7 a0;go_wp2_with fail;go_ret;exact O.o
section
open Go.RowKit Go.Maps Go.Sort Go.Shelf
def q8l {w:D0} {base base':Nat} {size n:Nat} (h:w.ownsRow base e size v n xs) (d:base'<=base):w.ownsRow base' e size v n xs:=
 ⟨h.1,h.2.imp id fun⟨g,cap,c,i,f,r⟩=>⟨g,cap,c,i,VO d f,r⟩⟩
def q89 {H:Type} {D:DataW H} {P:Xc} {k:VV} {R:O0->Option (DataW H×List MemPlace)} {w:D0} {n:Nat} (f:w.ownsMap P k R b n D) (K:Keyed P k) (L:P.underlying k=Bs .string) :
  (strKeys D).Nodup/\(∀ x,x∈strKeys D↔has D (.string x)=VJ)/\(strKeys D).length=Maps.size D:=by
 obtain⟨u,F,z,_⟩:=f.entries K;obtain⟨E,s,B⟩:=f.keysOf;obtain rfl:u=E:=by rw[F] at s;simpa using s
 subst F;have d:∀ p∈u,∃ x,p.1=.string x:=fun p J=>by obtain⟨v,I⟩:=B p J;obtain⟨x,_,G,_⟩:=Maps.keyOf_str L I;exact⟨x,G⟩
 refine⟨?_,fun x=>?_,?_⟩
 ·show(u.map fun p=>Go.strOf p.1).Nodup;refine List.pairwise_map.2 (z.imp_of_mem fun {p q} c y A e=>A ?_);obtain⟨a,i⟩:=d p c;obtain⟨b,M⟩:=d q y;rw[i,M] at e ⊢;exact congrArg _ e
 ·rw[has_eq,XZ];show x∈u.map (fun p=>Go.strOf p.1)↔_;rw[List.mem_map];constructor
  ·rintro ⟨p,c,rfl⟩;obtain⟨a,i⟩:=d p c;exact⟨p,c,by rw[i];simp[Lit.sameKey,Go.strOf]⟩
  ·rintro ⟨p,c,hs⟩;obtain⟨a,i⟩:=d p c;rw[i] at hs;exact⟨p,c,by rw[i];simpa [Lit.sameKey,Go.strOf] using hs⟩
 ·show(u.map fun p=>Go.strOf p.1).length=_;simp[Maps.size]
def KsPost (T:Tb) (n:Nat) (w:D0) (e:WC) (w':D0):Prop:=
 ∃ (V:O0) (ks:List Sx),e=.returned V/\Gv T ks/\ks.length<=n/\w'.ownsRow w.heap.size 9 1 V ks.length (ks.map encStr)/\VP w.heap.size w w'
def LL (mb:Option Nat) (W:D0):VY Tryz.prog 101 #[.map mb] W fun e w'=>e=.returned (.func (.func 123) #[] #[.pointer (Bs ⟨W.heap.size,0,B0⟩)])/\w'=W.alloc (.cells #[.map mb] 98):=
 callsIn_wide.1 (Rv mb W)
def OM {w:D0} {n:Nat} {loc:Sx->Ar} {D:DataW O0} (i:Dk kS D (Bf loc T)) (hs:∀ x,T x≠B0->x.length<=20) (c:w.ownsMap Tryz.prog 9 CN b n D) :
  ∀ x,has D (.string x)=VJ↔T x≠B0:=fun x=>by
 have key:∀ y:Sx,y.length<=Wo->(has D (.string y)=VJ↔T y≠B0):=fun y f=>by
  have d:=i ⟨y.toArray⟩ (show(ByteArray.mk y.toArray).size<=Wo by show y.toArray.size<=Wo;simpa using f);have e:(kS).kl ⟨y.toArray⟩=.string y:=by show Lit.string _=_;simp
  rw[e] at d;rw[d.1];have q:sx ⟨y.toArray⟩=y:=by show y.toArray.toList=y;simp
  unfold Bf;rw[q];cases T y <;> simp
 constructor
 ·intro h;have p:x∈strKeys D:=((q89 c kS.law Tryz.underlying9).2.1 x).2 h;exact(key x (strKeys_le c Tryz.underlying9 x p)).1 h
 ·intro h;exact(key x (by have:=hs x h;unfold Wo;omega)).2 h
def KP {n:Nat} {mb:Option Nat} {loc:Sx->Ar} (w:D0) (B:J9 w n mb loc T) (hs:∀ x,T x≠B0->x.length<=20) (F:n<=2000000) :
  VY Tryz.prog 100 #[.func (.func 123) #[] #[.pointer (Bs ⟨w.heap.size,0,B0⟩)]] (w.alloc (.cells #[.map mb] 98)) (KsPost T n w):=by
 have s:VP w.heap.size w (w.alloc (.cells #[.map mb] 98)):=(VK _ _).alloc (K0 _) _;have f:w.heap.size<=(w.alloc (.cells #[.map mb] 98)).heap.size:=by simp
 rcases mb with _|b
 ·refine(callsIn_wide.1 (Jy w)).mono ?_;rintro e w' ⟨v,ss,rfl,rfl,d,_,A⟩;refine⟨v,[],rfl,⟨Yk,fun x=>?_⟩,VN _,?_,s.trans (A.mono f)⟩
  ·have:=B x;simp[this]
  ·have:=q8l d f;simpa using this
 ·obtain⟨D,c,E⟩:=B;obtain⟨y,p,q⟩:=q89 c kS.law Tryz.underlying9;have z:=c.size_le;refine(callsIn_wide.1 (LI b n D CN w c (by unfold Wo;omega) (by omega))).mono ?_;rintro e w' ⟨v,ss,rfl,u,d,_,A⟩;have i:(IR ss).length=ss.length:=YC ss;refine⟨v,IR ss,rfl,⟨QA (u.nodup_iff.2 y),fun x=>?_⟩,?_,?_,s.trans (A.mono f)⟩
  ·rw[OF,u.mem_iff,p,OM E hs c]
  ·rw[i,u.length_eq,q];exact z
  ·rw[i];exact q8l d f
end
def hM_del (h:Int->Option Int) (tx:Int):AU (hM h) tx B0=hM (Be h tx B0):=by
 funext o;unfold AU hM Be;split <;> rfl
def TZ {w:D0} {base n:Nat} {L:Ar} (h:AX w base n L k) (d:Ab kI w' L.hb n (AU (hM k.h) tx B0)) (f:Fr (fun b=>b=L.hb) w w'):AX w' base n L ⟨Be k.h tx B0,k.ws⟩:=
 ⟨f.ak h.ak (fun e=>h.holds.aB h.ak e.symm),by rw[hM_del] at d;exact d,f.own h.row (fun b p e=>by subst e;exact h.holds.aL h.row p),h.log,h.loh,fun o m i=>by
  have c:Be k.h tx B0 o=Bs m:=i;unfold Be at c;split at c
  ·cases c
  ·exact h.cY o m c,h.okw,h.len⟩
def RK {mode:Int} (f:∀ o m,h o=Bs m->Cq o/\Cq m) (c:Cq tx) (i:Cq mode):∀ o m,Au h tx mode o=Bs m->Cq o/\Cq m:=fun o m e=>by
 unfold Au Be at e;split at e
 ·rename_i q;injection e with e;subst q;refine⟨c,?_⟩;rw[<- e];unfold AA;rcases Int.le_total ((h o).getD 0) mode with d|d
  ·rw[Int.max_eq_right d];exact i
  ·rw[Int.max_eq_left d];cases p:h o with
   | none=>rfl
   | some s=>exact(f _ _ p).2
 ·exact f o m e
def Rw {w:D0} {base n:Nat} {L:Ar} {mode:Int} (h:AX w base n L k) (f:Ab kI w' L.hb (n+1) (AU (hM k.h) tx (Bs (.int .i64 (if mode > AA k.h tx then mode else AA k.h tx))))) (i:Fr (fun b=>b=L.hb) w w') (d:Cq tx) (c:Cq mode) :
  AX w' base (n+1) L ⟨Au k.h tx mode,k.ws⟩:=
 ⟨i.ak h.ak (fun e=>h.holds.aB h.ak e.symm),by rw[Na] at f;exact f,i.own h.row (fun b q e=>by subst e;exact h.holds.aL h.row q),h.log,h.loh,fun o m p=>RK h.cY d c o m p,h.okw,h.len⟩
def M5 {w5:D0} {base n:Nat} {L:Ar} {c:List (Int×Int)} (h:AX W base n L k) (f:Ae w5 L.g 168 #[.map (Bs L.hb),L.V]) (i:Ab kI w5 L.hb n (hM k.h))
  (d:w5.ownsRow base 166 2 V' c.length (c.flatMap Cp)) (q:∀ x∈c,Cq x.1/\Cq x.2) (p:c.length<=50):AX (w5.setCell ⟨L.g,1,B0⟩ V') base n ⟨L.g,L.hb,V'⟩ ⟨k.h,c⟩:=by
 have u:=Fr.a6 L.g w5 1 V';have s:=Bh d f (by decide);exact⟨f.aH 1 V',i.fr u (fun e=>i.aB f e),u.own d (fun g v e=>s (by rw[v,e])),h.log,h.loh,h.cY,q,p⟩
def It (b:Nat) (tx:Int) (w:D0) (i:w.cell? ⟨b,0,B0⟩=Bs (.int .i64 tx)):VY Tryz.prog 102 #[.slice B0 0 0,.func (.func 103) #[] #[.pointer (Bs ⟨b,0,B0⟩)]] w
  fun e w'=>e=.returned (.slice B0 0 0)/\VP w.heap.size w w':=by
 have c:=q7k 103 #[.pointer (Bs ⟨b,0,B0⟩)] (Kj tx) B0 0 0 [] w (Pw Tryz.func103 (by kernel_rfl) rfl) (q5d b tx w i) (Rd.none_ _ _ _ _) rfl (by omega);rw[show CE (Kj tx) [] = -1 from rfl] at c;have f:=LH c;clear c;go_enter Tryz.func102,Tryz.ntmps102;go_wp2_with fail;refine f.o.mono ?_;rintro e q ⟨rfl,d⟩;have p:=LH d;clear d;go_wp2_with fail;go_ret;exact⟨rfl,p.o⟩
def TI (c:List (Int×Int)) (tx:Int):(AC c tx).length<=c.length:=List.length_filter_le _ _
def PS (base n b:Nat) (tx:Int) (V:O0) (L:List (Int×Int)) (w:D0) (f:w.ownsRow base 166 2 V n (L.flatMap Cp)) (hl:L.length=n) (u:n<=100000) (q:w.cell? ⟨b,0,B0⟩=Bs (.int .i64 tx)) (p:V.ownBlock≠Bs b) :
  VY Tryz.prog 102 #[V,.func (.func 103) #[] #[.pointer (Bs ⟨b,0,B0⟩)]] w fun e w'=>
   ∃ A c,e=.returned (.slice A (AC L tx).length c)/\w'.ownsRow base 166 2 (.slice A (AC L tx).length c) (AC L tx).length ((AC L tx).flatMap Cp)/\Fr (fun k=>V.ownBlock=Bs k) w w'/\(WM A (AC L tx).length c).ownBlock=V.ownBlock:=by
 rcases f.2 with ⟨rfl,B⟩|⟨g,cap,z,rfl,_⟩
 ·have e:L=[]:=Wd (by omega);subst e;refine(It b tx w q).mono ?_;rintro e w' ⟨rfl,d⟩;exact⟨B0,0,rfl,VZ _ _ _ _,⟨d.os,d.tape,d.output,d.size,fun k v _=>d.block k v⟩,rfl⟩
 ·refine(Iu base g n cap b tx L w f hl u q (fun e=>p (by rw[e];rfl))).mono ?_;rintro e w' ⟨rfl,s,y,_⟩;exact⟨Bs ⟨g,0,B0⟩,cap,rfl,s,y.mono (fun i _ (h:i=g)=>by rw[h];rfl),rfl⟩
def AB.turn2 {w:D0} {base n g:Nat} {cs:Array O0} {mb:Option Nat} {loc:Sx->Ar} (h:AB w base n g j kt cs mb loc T) {L':Ar} (G:T x=Bs k) (Y:n<=n')
  {U:Nat->Prop} (J:Fr (fun b=>AQ (loc x) b\/U b) w w') (W:∀ b,U b->b≠g/\¬AE mb loc T b) (hk:AX w' base n' L' k') (hg:L'.g=(loc x).g) (Z:L'.hb=(loc x).hb) (hV:∀ b,L'.V.ownBlock=Bs b->(loc x).V.ownBlock=Bs b\/w.heap.size<=b) :
  AB w' base n' g j kt cs mb (Ax loc x L') (Ao T x (Bs k')):=by
 have p:∀ b,AQ L' b->AQ (loc x) b\/w.heap.size<=b:=fun b d=>by
  rcases d with d|d|d
  ·exact .inl (.inl (by rw[d,hg]))
  ·exact .inl (.inr (.inl (by rw[d,Z])))
  ·rcases hV b d with h|h
   ·exact .inl (.inr (.inr h))
   ·exact .inr h
 have i:∀ y,Ao T x (Bs k') y≠B0->y=x\/(y≠x/\T y≠B0):=fun y f=>by
  unfold Ao at f;split at f
  ·rename_i e;exact .inl e
  ·rename_i e;exact .inr ⟨e,f⟩
 have B:∀ y,y≠x->Ax loc x L' y=loc y:=fun y e=>by unfold Ax;rw[if_neg e]
 have E:Ax loc x L' x=L':=by unfold Ax;rw[if_pos rfl]
 have s:T x≠B0:=by rw[G];simp
 have v:∀ y,y≠x->T y≠B0->∀ b,AQ (loc y) b->¬AQ (loc x) b:=fun y e f b d=>h.apart y x e f s b d
 refine⟨J.ak h.ak (fun d=>d.elim (fun d=>h.dr G d rfl) (fun d=>(W _ d).1 rfl)),h.c0,?_,fun y O f=>?_,fun y z D f X b d=>?_,fun y f=>?_,h.ne,h.cN,fun y f=>?_,VO h.bg J.size⟩
 ·have I:=h.map;rcases u:mb with _|c
  ·rw[u] at I;exact absurd (I x) s
  ·rw[u] at I;have e:Bf (Ax loc x L') (Ao T x (Bs k'))=Bf loc T:=by
    funext t;unfold Bf;by_cases e:sx t=x
    ·rw[e,E,hg];unfold Ao;rw[if_pos rfl,G];rfl
    ·rw[B _ e];unfold Ao;rw[if_neg e]
   show Ab kS w' c n' _;rw[e];exact(Ab.fr (C:=kS) I J (fun d=>d.elim (fun d=>h.bB G u d rfl) (fun d=>(W _ d).2 (.inl u.symm)))).mono Y
 ·unfold Ao at f;split at f
  ·rename_i e;subst e;injection f with f;rw[<- f,E];exact hk
  ·rename_i e;rw[B y e];exact((h.keys y O f).fr J (fun b d q=>q.elim (fun q=>v y e (by rw[f];simp) b d q) (fun q=>(W _ q).2 (.inr ⟨y,by rw[f];simp,d⟩)))).mono Y
 ·rcases i y f with rfl|⟨N,A⟩
  ·rcases i z X with rfl|⟨M,q⟩
   ·exact absurd rfl D
   ·rw[B z M];rw[E] at d;intro L;rcases p b d with F|F
    ·exact v z M q b L F
    ·obtain⟨kz,R⟩:=Option.ne_none_iff_exists'.1 q;have:=((h.keys z kz R).aw L).2;omega
  ·rw[B y N] at d;rcases i z X with rfl|⟨M,q⟩
   ·rw[E];intro L;rcases p b L with F|F
    ·exact v y N A b d F
    ·obtain⟨O,S⟩:=Option.ne_none_iff_exists'.1 A;have:=((h.keys y O S).aw d).2;omega
   ·rw[B z M];exact h.apart y z D A q b d
 ·rcases i y f with rfl|⟨_,A⟩
  ·exact h.small y s
  ·exact h.small y A
 ·rcases i y f with rfl|⟨N,A⟩
  ·rw[E,Z];exact h.cd y s
  ·rw[B y N];exact h.cd y A
def Qk {w:D0} {base n g:Nat} {loc:Sx->Ar} (h:AB w base n g j kt X (Bs b) loc T) (B:Ab kS w' b n (AU (Bf loc T) s B0)) (q:Fr (fun k=>k=b) w w') :
  AB w' base n g j kt X (Bs b) loc (Ao T (sx s) B0):=by
 have c:∀ y,Ao T (sx s) B0 y≠B0->y≠sx s/\T y≠B0:=fun y d=>by
  unfold Ao at d;split at d
  ·exact absurd rfl d
  ·rename_i e;exact⟨e,d⟩
 have p:g≠b:=fun e=>(Ab.aB (C:=kS) h.map h.ak) e.symm
 refine⟨q.ak h.ak p,h.c0,?_,fun y v d=>?_,fun y z i d A=>h.apart y z i (c y d).2 (c z A).2,fun y d=>h.small y (c y d).2,h.ne,h.cN,fun y d=>h.cd y (c y d).2,VO h.bg q.size⟩
 ·show Ab kS w' b n _;have e:Bf loc (Ao T (sx s) B0)=AU (Bf loc T) s B0:=by
   funext t;unfold AU Bf Ao;by_cases e:t=s
   ·subst e;simp
   ·have:¬sx t=sx s:=fun h=>e (qb3 h)
    simp[e,this]
  rw[e];exact B
 ·have D:=c y (by rw[d];simp);have f:T y=Bs v:=by unfold Ao at d;rw[if_neg D.1] at d;exact d
  exact(h.keys y v f).fr q (fun E u e=>by subst e;exact h.bB f rfl u rfl)
def Pt (a:Ak):List O0:=[.int .i64 a.tx,.string ⟨a.key.toArray⟩,.int .i64 a.mode]
def g_info:(Tryz.prog.info? 179).map (fun i=>(i.zero,i.size,i.bytes))=Bs (Bs (.agg #[.int .i64 0,.string ⟨#[]⟩,.int .i64 0]),3,32):=by kernel_rfl
def AB.bM {w:D0} {base n g:Nat} {mb:Option Nat} {loc:Sx->Ar} (h:AB w base n g j kt X mb loc T) {base' size m:Nat} (d:w.ownsRow base' e size v m xs)
  (F:e≠kt) (E:e≠168) (D:e≠166) (c:v.ownBlock=Bs b):b≠g/\¬AE mb loc T b:=by
 refine⟨fun s=>Bh d h.ak F (by rw[c,s]),?_⟩;rintro (A|⟨x,z,i⟩)
 ·have:=h.map;rw[<- A] at this;exact Ab.aL (C:=kS) this d c
 ·obtain⟨k,f⟩:=Option.ne_none_iff_exists'.1 z;have q:=h.keys x k f;rcases i with rfl|rfl|i
  ·exact Bh d q.ak E c
  ·exact q.holds.aL d c
  ·rcases d.2 with ⟨rfl,_⟩|⟨y,cap,u,rfl,_,B,_⟩
   ·cases c
   ·have p:y=b:=by injection c
    subst p;exact Bh q.row (show Ae w y e u from B) (fun s=>D s.symm) i
section
open Go.RowKit Go.Maps Go.Sort Go.Shelf
open Classical in
noncomputable def ER (T:Tb) (tx:Int) (ks:List Sx) (j:Nat):Tb:=fun x=>if x∈ks.take j then(T x).bind fun k=>E2 k tx else T x
def UK (T:Tb) (tx:Int) (ks:List Sx):ER T tx ks 0=T:=by funext x;simp[ER]
def Td (h:Gv T ks):ER T tx ks ks.length=Bj T tx:=by
 funext x;unfold ER Bj;rw[Xe];split
 ·rfl
 ·rename_i c;have:T x=B0:=V5 fun d=>c ((h.2 x).2 d)
  rw[this];rfl
def qca (h:ks.Pairwise (· < ·)):ks.Nodup:=List.Pairwise.imp (R:=(· < ·)) (by intro a b h e;subst e;exact List.lt_irrefl _ h) h
def KJ (h:ks.Nodup) (d:ks[j]? = Bs x):x ∉ ks.take j:=fun f=>by
 obtain⟨i,s,q⟩:=List.mem_take_iff_getElem.1 f;obtain⟨p,c⟩:=List.getElem?_eq_some_iff.1 d;exact List.pairwise_iff_getElem.1 h i j (by omega) p (by omega) (by rw[q,c])
def GF (c:x ∉ ks.take j):ER T tx ks j x=T x:=by unfold ER;rw[if_neg c]
def IC (c:ks[j]? = Bs x) (d:T x=Bs k):ER T tx ks (j+1)=Ao (ER T tx ks j) x (E2 k tx):=by
 funext y;unfold ER Ao;rw[VX,c];by_cases e:y=x
 ·subst e;simp[d]
 ·simp[e]
def Nu (base n g off:Nat) (ty:VV) (cs:Array O0) (mb:Option Nat) (loc:Sx->Ar) (T:Tb) (tx:Int) (w:D0) (ks:List Sx) (Vk:O0) (v5 c:O0) (wr:D0):Prop:=
 ∃ (j:Nat) (loc':Sx->Ar) (gs:List Ak),c=.int .i64 j/\j<=ks.length/\gs=(ks.take j).flatMap (KZ T tx)/\AB wr base (n+50) g off ty cs mb loc' (ER T tx ks j)/\
  (∀ x k,T x=Bs k->x ∉ ks.take j->AX wr base n (loc' x) k)/\(∀ b,AE mb loc' (ER T tx ks j) b->AE mb loc T b\/w.heap.size<=b)/\Fr (VA g mb loc T) w wr/\
  wr.ownsRow (w.heap.size+1) 179 3 v5 gs.length (gs.flatMap Pt)/\gs.length<=50*j/\wr.ownsRow w.heap.size 9 1 Vk ks.length (ks.map encStr)/\Ae wr w.heap.size 3 #[.int .i64 tx]
def Nv (base n g off:Nat) (ty:VV) (cs:Array O0) (mb:Option Nat) (loc:Sx->Ar) (T:Tb) (tx:Int) (w:D0) (e:WC) (w':D0):Prop:=
 ∃ (V:O0) (ks:List Sx) (loc':Sx->Ar),e=.returned V/\Gv T ks/\w'.ownsRow (w.heap.size+1) 179 3 V (ks.flatMap (KZ T tx)).length ((ks.flatMap (KZ T tx)).flatMap Pt)/\
  AB w' base (n+50) g off ty cs mb loc' (Bj T tx)/\(∀ b,AE mb loc' (Bj T tx) b->AE mb loc T b\/w.heap.size<=b)/\Fr (VA g mb loc T) w w'
def NC (base n:Nat) (s:Ar) (v:Int->Option Int) (c:List (Int×Int)) (z:Nat) (f:List Ak) (x:Sx) (q:Option Nat) (W:D0) (v5 u p:O0) (wr:D0):Prop:=
 ∃ (i:Nat) (h:Int->Option Int) (lf done:List (Int×Int)),p=.int .i64 i/\i<=c.length/\AX wr base (n+i) s ⟨h,c⟩/\wr.ownsRow W.heap.size 166 2 u lf.length (lf.flatMap Cp)/\
  wr.ownsRow z 179 3 v5 (f.length+done.length) ((f++done.map fun d=>(⟨d.1,x,d.2⟩:Ak)).flatMap Pt)/\
  Do v [] c=((Do h lf (c.drop i)).1,(Do h lf (c.drop i)).2.1,done++(Do h lf (c.drop i)).2.2)/\Fr (fun b=>b=s.hb\/q=Bs b) W wr/\
  (∀ y∈lf,y∈c)/\lf.length<=i/\done.length<=i/\(∀ b,v5.ownBlock=Bs b->q=Bs b\/W.heap.size<=b)
def q5z {w:D0} {base base' size m:Nat} {u:VV} {v':O0} (h:w.ownsRow base e size v m xs) (A:w.ownsRow base' u c v' j d) (f:e≠u) (q:v.ownBlock=Bs b):v'.ownBlock≠Bs b:=by
 rcases h.2 with ⟨rfl,_⟩|⟨s,cap,p,rfl,_,z,_⟩
 ·cases q
 ·have i:s=b:=by injection q
  subst i;exact Bh A (show Ae w s e p from z) (fun e=>f e.symm)
def AB.aB {w:D0} {base n g off:Nat} {ty:VV} {cs:Array O0} {mb:Option Nat} {loc:Sx->Ar} {T:Tb} (h:AB w base n g off ty cs mb loc T) {b:Nat} {t:VV} {p:Array O0} (d:Ae w b t p)
  (y:t≠ty) (v:t≠168) (u:t≠166):b≠g/\¬AE mb loc T b:=by
 refine⟨d.ne_ h.ak y,?_⟩;rintro (s|⟨x,q,c⟩)
 ·have:=h.map;rw[<- s] at this;exact Ab.aB (C:=kS) this d rfl
 ·obtain⟨k,f⟩:=Option.ne_none_iff_exists'.1 q;have i:=h.keys x k f;rcases c with c|c|c
  ·exact d.ne_ i.ak v c
  ·exact i.holds.aB d c.symm
  ·exact Bh i.row d (fun e=>u e.symm) c
def q7u {c:List (Int×Int)} (d:Ai h y.1 y.2 lf=Jx):Do h lf (y::c)=Do h (lf++[y]) c:=by
 rw[Do,if_neg (by simp[d])]
def q6g {c:List (Int×Int)} (d:Ai h y.1 y.2 lf=VJ):Do h lf (y::c)=((Do (Au h y.1 y.2) lf c).1,(Do (Au h y.1 y.2) lf c).2.1,y::(Do (Au h y.1 y.2) lf c).2.2):=by
 rw[Do,if_pos d]
section
variable {base n g off b:Nat} {ty:VV} {cs:Array O0} {loc loc':Sx->Ar} {T:Tb} {tx:Int} {w W0 w7:D0} {ks:List Sx} {Vk v5 V9 v5':O0} {j:Nat} {x:Sx} {k:Kx} {h:Int->Option Int} {lf done:List (Int×Int)} {gs:List Ak}
def Tn (Y:ty≠9/\ty≠179/\ty≠3) (hI:AB W0 base (n+50) g off ty cs (Bs b) loc' (ER T tx ks j)) (ab:∀ x k,T x=Bs k->x ∉ ks.take j->AX W0 base n (loc' x) k)
  (a5:∀ f,AE (Bs b) loc' (ER T tx ks j) f->AE (Bs b) loc T f\/w.heap.size<=f) (a6:Fr (VA g (Bs b) loc T) w W0) (E:W0.ownsRow (w.heap.size+1) 179 3 v5 gs.length (gs.flatMap Pt))
  (af:gs=(ks.take j).flatMap (KZ T tx)) (ag:gs.length<=50*j) (J:W0.ownsRow w.heap.size 9 1 Vk ks.length (ks.map encStr)) (a0:Ae W0 w.heap.size 3 #[.int .i64 tx]) (hx:ks[j]? = Bs x) (R:x ∉ ks.take j) (hT:T x=Bs k)
  (hrel:B5 k tx=(⟨h,lf⟩,done)) (hK:AX w7 base (n+50) ⟨(loc' x).g,(loc' x).hb,V9⟩ ⟨h,lf⟩) (a7:∀ f,V9.ownBlock=Bs f->W0.heap.size<=f) (hf:Fr (fun f=>AQ (loc' x) f\/v5.ownBlock=Bs f) W0 w7)
  (D:w7.ownsRow (w.heap.size+1) 179 3 v5' (gs.length+done.length) ((gs++done.map fun d=>(⟨d.1,x,d.2⟩:Ak)).flatMap Pt)) (ah:done.length<=50) :
  AB w7 base (n+50) g off ty cs (Bs b) (Ax loc' x ⟨(loc' x).g,(loc' x).hb,V9⟩) (Ao (ER T tx ks j) x (Bs ⟨h,lf⟩))/\
  (¬qbv ⟨h,lf⟩->Nu base n g off ty cs (Bs b) loc T tx w ks Vk v5' (.int .i64 ((j+1:Nat):Int)) w7)/\
  (qbv ⟨h,lf⟩->∀ w8,Ab kS w8 b (n+50) (AU (Bf (Ax loc' x ⟨(loc' x).g,(loc' x).hb,V9⟩) (Ao (ER T tx ks j) x (Bs ⟨h,lf⟩))) ⟨x.toArray⟩ B0)->Fr (fun k=>k=b) w7 w8->
   Nu base n g off ty cs (Bs b) loc T tx w ks Vk v5' (.int .i64 ((j+1:Nat):Int)) w8):=by
 have a8:=(GF (T:=T) (tx:=tx) R).trans hT;have O:ER T tx ks j x≠B0:=by rw[a8];simp
 have hU:∀ f,v5.ownBlock=Bs f->f≠g/\¬AE (Bs b) loc' (ER T tx ks j) f:=fun f c=>hI.bM E (fun e=>Y.2.1 e.symm) (by decide) (by decide) c
 have I:=hI.turn2 (n':=n+50) a8 (K0 _) hf hU hK rfl rfl (fun f c=>.inr (a7 f c));have a4:j<ks.length:=(List.getElem?_eq_some_iff.1 hx).1;have F:gs++done.map (fun d=>(⟨d.1,x,d.2⟩:Ak))=(ks.take (j+1)).flatMap (KZ T tx):=by
  rw[VX,hx,WG,<- af];congr 1;show _=[x].flatMap (KZ T tx);rw[List.flatMap_singleton];unfold KZ;rw[hT];simp only[hrel]
 have W:∀ f,AE (Bs b) (Ax loc' x ⟨(loc' x).g,(loc' x).hb,V9⟩) (Ao (ER T tx ks j) x (Bs ⟨h,lf⟩)) f->AE (Bs b) loc T f\/w.heap.size<=f:=fun f c=>by
  rcases JO (L:=loc' x) (L':=⟨(loc' x).g,(loc' x).hb,V9⟩) (k:=k) (B:=W0.heap.size) rfl rfl (fun f c=>.inr (a7 f c)) f c with p|p
  ·rw[FY] at p;refine a5 f ?_;rcases p with p|⟨y,u,p⟩
   ·exact .inl p
   ·refine .inr ⟨y,?_,p⟩;unfold Ao at u;split at u
    ·rename_i e;rw[e];exact O
    ·exact u
  ·exact .inr (VO a6.size p)
 have X:Fr (VA g (Bs b) loc T) w w7:=a6.trans' hf (fun i hi p=>by
  rcases p with p|p
  ·rcases a5 i (.inr ⟨x,O,p⟩) with h2|h2
   ·exact .inr h2
   ·omega
  ·have:=(E.lt i p).1;omega)
 have hS:∀ {f:Nat},¬AE (Bs b) loc' (ER T tx ks j) f->v5.ownBlock≠Bs f->¬(AQ (loc' x) f\/v5.ownBlock=Bs f):=fun p h2 S=>S.elim (fun S=>p (.inr ⟨x,O,S⟩)) h2
 have A:w7.ownsRow w.heap.size 9 1 Vk ks.length (ks.map encStr):=hf.own J (fun f c=>hS (hI.bM J (fun e=>Y.1 e.symm) (by decide) (by decide) c).2 (q5z J E (by decide) c));have M:Ae w7 w.heap.size 3 #[.int .i64 tx]:=hf.ak a0 (hS (hI.aB a0 (fun e=>Y.2.2 e.symm) (by decide) (by decide)).2 (Bh E a0 (by decide)));have U:∀ y N,T y=Bs N->y ∉ ks.take (j+1)->y≠x/\y ∉ ks.take j/\AX w7 base n (loc' y) N:=fun y N u q=>by
  rw[VX,hx] at q;simp only[Option.toList_some,XG,VW,not_or] at q;have a1:ER T tx ks j y≠B0:=by rw[GF q.1,u];simp
  refine⟨q.2,q.1,(ab y N u q.1).fr hf (fun f c S=>?_)⟩;rcases S with S|S
  ·exact hI.apart y x q.2 a1 O f c S
  ·exact(hU f S).2 (.inr ⟨y,a1,c⟩)
 have s:(gs++done.map (fun d=>(⟨d.1,x,d.2⟩:Ak))).length=gs.length+done.length:=by simp
 refine⟨I,fun ad=>?_,fun he w8 ae G=>?_⟩
 ·have Z:E2 k tx=Bs ⟨h,lf⟩:=by unfold E2;rw[hrel,if_neg ad]
  have z:=IC (T:=T) (tx:=tx) (ks:=ks) (j:=j) hx hT;rw[Z] at z;refine⟨j+1,_,_,rfl,a4,rfl,by rw[z];exact I,fun y N u q=>?_,by rw[z];exact W,X,by rw[<- F,s];exact D,by rw[<- F,s];omega,A,M⟩;have p:=U y N u q;unfold Ax;rw[if_neg p.1];exact p.2.2
 ·have Z:E2 k tx=B0:=by unfold E2;rw[hrel,if_pos he]
  have z:=IC (T:=T) (tx:=tx) (ks:=ks) (j:=j) hx hT;rw[Z] at z;have ac:sx ⟨x.toArray⟩=x:=by show x.toArray.toList=x;simp
  have a9:=Qk I ae G;rw[ac,qcf,<- z] at a9;have a2:∀ {f:Nat} {t:VV} {base' size m:Nat} {v:O0} {xs:List O0},w7.ownsRow base' t size v m xs->v.ownBlock=Bs f->f≠b:=fun hr c e=>by subst e;exact Ab.aL (C:=kS) I.map hr c
  refine⟨j+1,_,_,rfl,a4,rfl,a9,fun y N u q=>?_,fun f c=>W f ?_,X.trans' G (fun i _ (e:i=b)=>.inr (.inl (by rw[e]))),by rw[<- F,s];exact G.own D (fun f c e=>a2 D c e),by rw[<- F,s];omega,G.own A (fun f c e=>a2 A c e),G.ak M (fun e=>Ab.aB (C:=kS) I.map M e.symm)⟩
  ·have p:=U y N u q;unfold Ax;rw[if_neg p.1];have aa:Ao (ER T tx ks j) x (Bs ⟨h,lf⟩) y=Bs N:=by unfold Ao;rw[if_neg p.1,GF p.2.1,u]
   have a3:Ax loc' x ⟨(loc' x).g,(loc' x).hb,V9⟩ y=loc' y:=by unfold Ax;rw[if_neg p.1]
   exact p.2.2.fr G (fun f c e=>I.bB aa rfl (a3▸c) e)
  ·rcases c with c|⟨y,u,c⟩
   ·exact .inl c
   ·refine .inr ⟨y,?_,c⟩;rw[z] at u;unfold Ao at u ⊢;split at u
    ·exact absurd rfl u
    ·rename_i e;rw[if_neg e];exact u
end
end
section
open Go.RowKit Go.Maps Go.Sort Go.Shelf
def OO {w:D0} {base n:Nat} {L:Ar} {mode:Int} (h:AX w base n L k) (f:Ab kI w' L.hb (n+1) (AU (hM k.h) tx (Bs (.int .i64 (max (AA k.h tx) mode))))) (i:Fr (fun b=>b=L.hb) w w') (d:Cq tx) (c:Cq mode) :
  AX w' base (n+1) L ⟨Au k.h tx mode,k.ws⟩:=Rw h (by
 rw[show(if mode > AA k.h tx then mode else AA k.h tx)=max (AA k.h tx) mode by split <;> omega];exact f) i d c
def Ul {w:D0} {base n:Nat} {L:Ar} (p:AX w base n L ⟨h,lf⟩) (c:i=0↔∀ x,kI.ok x->hM h x=B0):qbv ⟨h,lf⟩↔i=0/\lf.length=0:=by
 have q:qbv ⟨h,lf⟩↔(∀ o,h o=B0)/\lf=[]:=Iff.rfl;rw[c,q];constructor
 ·rintro ⟨f,d⟩;exact⟨fun o _=>by unfold hM;rw[f o];rfl,by rw[d];rfl⟩
 ·rintro ⟨f,d⟩;refine⟨fun o=>?_,Wd d⟩;cases e:h o with
  | none=>rfl
  | some m=>
   have:=f o (p.cY o m e).1;unfold hM at this;rw[e] at this;cases this
def AX.bM {w:D0} {base n:Nat} {L:Ar} (h:AX w base n L k) {base' size m:Nat} (c:w.ownsRow base' e size v m xs) (p:e≠168) (i:e≠166) (d:v.ownBlock=Bs b):¬AQ L b:=by
 rintro (rfl|rfl|f)
 ·exact Bh c h.ak p d
 ·exact h.holds.aL c d
 ·exact q5z c h.row i d f
def IY (base n g off:Nat) (ty:VV) (cs:Array O0) (mb:Option Nat) (loc:Sx->Ar) (T:Tb) (tx:Int) (w:D0) (hI:AB w base n g off ty cs mb loc T) (bU:Cq tx) (hn:n<1000000) (bT:ty≠9/\ty≠179/\ty≠3) :
  VY Tryz.prog 70 #[.pointer (Bs ⟨g,off,B0⟩),.int .i64 tx] w (Nv base n g off ty cs mb loc T tx w):=by
 have bG:VP w.heap.size w (w.alloc (.cells #[.int .i64 tx] 3)):=(VK _ _).alloc (K0 _) _;have a6:=hI.aC bG;have cx:Ae (w.alloc (.cells #[.int .i64 tx] 3)) w.heap.size 3 #[.int .i64 tx]:=Ae.new w _ _;have c0:=(a6.ak.cell off).trans a6.c0;have aA:=a6.ak.lt;have c7:=LL mb (w.alloc (.cells #[.int .i64 tx] 3));have bA:=KP (w.alloc (.cells #[.int .i64 tx] 3)) a6.map a6.small (by omega);rw[show(w.alloc (.cells #[.int .i64 tx] 3)).heap.size=w.heap.size+1 by simp] at bA;have cI:=LH c7;clear c7;have cG:=LH bA;clear bA;have HI:=LH hI;clear hI;have dd:=LH a6;clear a6;have cV:=LH cx;clear cx;have cS:=LH bG;clear bG;have da:=LH bU;clear bU;go_enter Tryz.func70,Tryz.ntmps70;go_wp2_with fail;refine cI.o.mono ?_;rintro e w2 ⟨rfl,rfl⟩;go_wp2_with fail;refine cG.o.mono ?_;rintro e w3 ⟨Vk,ks,rfl,c6,aX,G,bF⟩;have D:VP w.heap.size w w3:=cS.o.trans (bF.mono (by simp));have bW:Nu base n g off ty cs mb loc T tx w ks Vk (.slice B0 0 0) (.int .i64 (0:Nat)) w3:=by
  have cw:=HI.o.aC D;exact⟨0,loc,[],rfl,VN _,rfl,by rw[UK];exact cw.mono (by omega),fun x k hx _=>cw.keys x k hx,fun b hb=>by rw[UK] at hb;exact .inl hb,(show Fr _ w w3 from⟨D.os,D.tape,D.output,D.size,fun k hk _=>D.block k hk⟩),VZ _ _ _ _,by simp,q8l G (by simp),cV.o.below bF (by simp)⟩
 have db:=LH bW;clear bW;have b2:=LH c6;clear c6;have bM:=LH aX;clear aX;obtain⟨Ak,ck,rfl,_,_⟩:=AR G;have dj:=LH D.size;clear bF D G c0 aA cI cG dd cV cS;go_wp2_with fail;go_loopw [5,19] (Nu base n g off ty cs mb loc T tx w ks (.slice Ak ks.length ck)) (fun _ v _=>ks.length-(intOf v).toNat)
 case atStart=>exact db.o
 case round=>
  obtain⟨j,loc',gs,rfl,hj,ad,hI,aV,ae,aY,aa,aA,G,aE⟩:=hrel;by_cases dn:(j:Int)<ks.length
  ·have hx:ks[j]? = Bs ks[j]:=L1 (by omega);generalize cY:ks[j]=x at hx;clear cY;have bY:=qca b2.o.1;have J:=KJ bY hx;obtain⟨k,hT⟩:=Option.ne_none_iff_exists'.1 ((b2.o.2 x).1 (S2 hx));have aZ:=(GF (T:=T) (tx:=tx) J).trans hT;obtain⟨b,rfl⟩:∃ b,mb=Bs b:=by
    rcases mb with _|b
    ·have:=hI.map x;rw[aZ] at this;cases this
    ·exact⟨b,rfl⟩
   obtain⟨gk,ok,d7,dq,ci⟩:=(Rd.ay G).2 (by omega);subst d7;have cn:=ci j (encStr x) (by rw[V8,hx];rfl);have cg:=(hI.ak.cell off).trans hI.c0;have c9:=hI.ak.lt;have dm:=HI.o.small x (by rw[hT];simp);have bV:sx ⟨x.toArray⟩=x:=by show x.toArray.toList=x;simp
   have aW:=qc5 (s:=⟨x.toArray⟩) hI.map (by rw[KY,bV];unfold Wo;omega);rw[bV,aZ] at aW;have hK:=aV x k hT J;have O:=hK.ak.cell 0;have a7:=hK.ak.cell 1;have d6:=hK.ak.lt;have cb:=aE.cell 0;have a3:=aE.lt;obtain⟨A,c,hV,_,_⟩:=AR hK.row;simp only[Hi,Ft,N2] at O a7 cb;have cC:=LH aV;clear aV;have cN:=LH ae;clear ae;have cP:=LH aY;clear aY;have ac:=LH aa;clear aa;have cM:=LH ad;clear ad;have b3:=LH aA;clear aA;have bn:=LH G;clear G;have aS:=LH aE;clear aE;have bO:=LH hI;clear hI;have HX:=LH hx;clear hx;have bv:=LH J;clear J bY;have cD:=LH hT;clear hT;have cF:=LH aZ;clear aZ;have HK:=LH hK;clear hK;have HV:=LH hV;clear hV;clear ci;go_upto_region 6 with (fail)
   clear cn cg aW;refine XI 5 (by kernel_rfl) (by kernel_rfl) ?_;change wpStill _ _ (Yo _) _ _ _;simp only[WU,XM,Xb,Ys]
   repeat still_step
   refine Y4 ?_;refine Iq (C:=kI) rfl 61 3 Tryz.underlying61 (.tmp 32) (.tmp 33) (by kernel_rfl) (by simp[Xh]) (show Ab kI _ _ n _ from HK.o.holds) tx (by simp[Xh];rfl) da.o ?_;intro w4 c3 af;have af:Fr (fun k=>k=(loc' x).hb) wr w4:=(Fr.refl _ wr).drew.trans af;have a5:=TZ HK.o c3 af;have D:=(af.ak aS.o (fun e=>HK.o.holds.aB aS.o e.symm))
   have aK:=a5.ak.cell 1;have bJ:=D.cell 0;simp only[Hi,Ft,N2] at aK bJ;have cj:=D.lt;have cq:=a5.ak.lt;have aD:=PS base k.ws.length w.heap.size tx (loc' x).V k.ws w4 a5.row rfl (by have:k.ws.length<=50:=a5.len;omega) bJ (fun e=>Bh a5.row D (by decide) e);rw[HV.o] at aD aK;have bw:=LH aD;clear aD;have R:=LH a5;clear a5;have cQ:=LH af;clear af c3;have df:=LH D;clear D;clear O a7 cb c9 d6 a3;go_wp2_with fail;refine bw.o.mono ?_;rintro e w5 ⟨A5,c5,rfl,aq,aC,ax⟩;rw[<- HV.o] at aC ax;have bc:∀ f,(loc' x).V.ownBlock=Bs f->f≠(loc' x).g:=fun f d e=>Bh R.o.row R.o.ak (by decide) (e▸d)
   have aF:=aC.ak R.o.ak (fun e=>bc _ e rfl);have c2:=R.o.holds.fr aC (fun e=>R.o.holds.aL R.o.row e);have ai:=aF.cell 1;have bI:=aF.frozen 1;have d4:=aF.lt;have aw:∀ y∈AC k.ws tx,Cq y.1/\Cq y.2:=fun y hy=>R.o.okw y (List.mem_filter.1 hy).1
   have bC:(AC k.ws tx).length<=50:=VO (TI _ _) R.o.len;have cv:=M5 R.o aF c2 aq aw bC;simp only[Hi,Ft,N2] at ai;rw[HV.o] at ai;have cf:Fr (AQ (loc' x)) wr (w5.setCell ⟨(loc' x).g,1,B0⟩ (.slice A5 (AC k.ws tx).length c5)):=
    ((cQ.o.mono (fun i _ (e:i=_)=>.inr (.inl e))).trans' aC (fun i _ e=>.inr (.inr e))).setCell (p:=⟨(loc' x).g,1,B0⟩) (.inl (.inl rfl)) _
   have cp:∀ f,(WM A5 (AC k.ws tx).length c5).ownBlock=Bs f->(loc' x).V.ownBlock=Bs f:=fun f d=>by rw[<- ax];exact d
   have am:=LH cv;clear cv;have aQ:=LH cf;clear cf aC c2 aF aq bc ax;have aN:=LH aw;clear aw;have al:=LH bC;clear bC;have d9:=LH cp;clear cp;go_upto_region 8 with (fail)
   clear ai bI d4 bJ aK cj cq;generalize w5.setCell ⟨(loc' x).g,1,B0⟩ (.slice A5 (AC k.ws tx).length c5)=w6 at *;clear R cQ df bw;have bR:w.heap.size+1<=w6.heap.size:=by have:=aQ.o.size;have:=aS.o.lt;omega
   have cA:=LH bR;clear bR;have a7:=am.o.ak.cell 1;simp only[Hi,Ft,N2] at a7;have d3:=am.o.ak.lt;have bE:∀ f,AQ (loc' x) f->AE (Bs b) loc' (ER T tx ks j) f:=fun f d=>.inr ⟨x,by rw[cF.o];simp,d⟩
   have au:=aQ.o.own ac.o (fun f d e=>(bO.o.bM ac.o (fun e=>bT.2.1 e.symm) (by decide) (by decide) d).2 (bE f e));have bh:NC base n ⟨(loc' x).g,(loc' x).hb,.slice A5 (AC k.ws tx).length c5⟩ (Be k.h tx B0) (AC k.ws tx) (w.heap.size+1) gs x u5.ownBlock w6 u5 (.slice B0 0 0) (.int .i64 (0:Nat)) w6:=
    ⟨0,_,[],[],rfl,VN _,am.o,VZ _ _ _ _,by simpa using au,by simp,Fr.refl _ _,(fun y hy=>by cases hy),K0 _,K0 _,fun f d=>.inl d⟩
   have bt:=LH bh;clear bh au;have de:=LH bE;clear bE;go_wp2_with fail;clear a7 d3;generalize u5=U0 at *;go_loopw [5,9,48] (NC base n ⟨(loc' x).g,(loc' x).hb,.slice A5 (AC k.ws tx).length c5⟩ (Be k.h tx B0) (AC k.ws tx) (w.heap.size+1) gs x U0.ownBlock w6) (fun _ _ v _=>(AC k.ws tx).length-(intOf v).toNat)
   case atStart=>exact bt.o
   case round=>
    clear bt;obtain⟨i,h,lf,done,rfl,hi,F,u,E,S,a0,a9,c4,ch,bB⟩:=hrel;have an:=a0.size;have cr:=al.o;by_cases dg:(i:Int)<(AC k.ws tx).length
    ·obtain⟨g',o',y,d8,ds,hy,cX,cW⟩:=(Rd.ay F.row).bP (l:=AC k.ws tx) rfl (j:=i) (by omega);subst d8;have X:(AC k.ws tx).drop i=y::(AC k.ws tx).drop (i+1):=by
      obtain⟨h1,h2⟩:=List.getElem?_eq_some_iff.1 hy;rw[List.drop_eq_getElem_cons h1,h2]
     rw[X] at S;have bz:=aN.o y (S2 hy);have a3:VP wr.heap.size wr (wr.alloc (.cells #[.int .i64 y.1,.int .i64 y.2] 166)):=(VK _ _).alloc (K0 _) _;have aI:=F.aC a3;have U:=MR u a3;have av:=MR E a3;have bS:Ae (wr.alloc (.cells #[.int .i64 y.1,.int .i64 y.2] 166)) wr.heap.size 166 #[.int .i64 y.1,.int .i64 y.2]:=Ae.new _ _ _;obtain⟨Al,cl,bH,_,_⟩:=AR u;subst bH;have aB:=qcv (loc' x).g (loc' x).hb (n+i) lf.length cl _ h y.1 y.2 Al lf _ aI.ak aI.holds aI.cY bz.1 (Rd.ay U) rfl (by omega);have aO:=LH aB;clear aB;have cK:=LH aI;clear aI;have br:=LH U;clear U;have bp:=LH av;clear av;have ak:=LH bS;clear bS;have cU:=LH a3;clear a3;have dt:=LH F;clear F;have bo:=LH S;clear S;have bu:=LH a0;clear a0;have bm:=LH a9;clear a9;have bL:=LH bB;clear bB;have HY:=LH hy;clear hy X;have b0:=LH bz;clear bz;have dl:=LH u;clear u;have dk:=LH E;clear E;have aj:=LH an;clear an;have b1:=LH c4;clear c4;have b4:=LH ch;clear ch;clear cr;go_upto_region 12 with (fail)
     clear cX cW;generalize cm:wr.alloc (.cells #[.int .i64 y.1,.int .i64 y.2] 166)=w1 at *;have b8:w1.heap.size=wr.heap.size+1:=by rw[<- cm];simp
     clear cm;have aL:=LH b8;clear b8;have ah:=ak.o.cell 0;have ag:=ak.o.cell 1;simp only[Hi,Ft,N2] at ah ag;have bQ:=ak.o.lt;go_wp2_with fail;clear ah ag bQ;refine aO.o.mono ?_;rintro e wA ⟨rfl,a4⟩;have cu:=cK.o.aC a4;have bf:=MR br.o a4;have ba:=MR bp.o a4;have ao:=ak.o.below a4 ak.o.lt;have ah:=ao.cell 0;have ag:=ao.cell 1;have b5:=ao.lt;simp only[Hi,Ft,N2] at ah ag;have b7:wr.heap.size+1<=wA.heap.size:=by have:=a4.size;have:=aL.o;omega
     have bk:VP wr.heap.size wr wA:=cU.o.trans (a4.mono (by have:=aL.o;omega));have Z:=LH cu;clear cu;have I:=LH bf;clear bf;have a2:=LH ba;clear ba;have bK:=LH ao;clear ao;have ab:=LH b7;clear b7;have aT:=LH bk;clear bk a4;clear aO cK br bp ak cU aL;rcases cc:Ai h y.1 y.2 lf with _|_
     ·
      go_wp2_with (at_builtin;refine stop ?_)
      refine Df ?_;refine PD _ _ rfl (.tmp 60) (.tmp 62) 164 rfl w6.heap.size 166 (.agg #[.int .i64 0,.int .i64 0]) 2 16 Bt Kz rfl (by decide) _ _ _ #[.int .i64 y.1,.int .i64 y.2] rfl I.o 1 rfl _ rfl rfl (by simp[WB]) ?_ ?_ ?_ ?_
      ·have:=b1.o;have:=al.o;unfold Wo;omega
      ·have:=b1.o;have:=al.o;omega
      ·have:=ab.o;have:=aj.o;omega
      intro v' w9 M N;have d5:VP w6.heap.size wA w9:=N.below (fun f d=>(I.o.lt f d).1) (by have:=ab.o;have:=aj.o;omega);have aG:AX w9 base (n+(i+1)) ⟨(loc' x).g,(loc' x).hb,.slice (Bs ⟨g',o',B0⟩) (AC k.ws tx).length c5⟩ ⟨h,AC k.ws tx⟩:=(Z.o.fr N.1 (fun f d e=>by
       have h1:=(I.o.lt f e.symm).1;have h2:=(am.o.aw (b:=f) d).2;omega)).mono (by omega)
      have ar:=N.1.own a2.o (fun f d e=>q5z a2.o I.o (by decide) d e.symm);have B:=bo.o;rw[q7u cc] at B;have L:NC base n ⟨(loc' x).g,(loc' x).hb,.slice (Bs ⟨g',o',B0⟩) (AC k.ws tx).length c5⟩ (Be k.h tx B0) (AC k.ws tx) (w.heap.size+1) gs x U0.ownBlock w6 u5 v' (.int .i64 ((i+1:Nat):Int)) w9:=by
       have bx:=(List.getElem?_eq_some_iff.1 HY.o).1;refine⟨i+1,h,lf++[y],done,rfl,bx,aG,by simpa [Cp] using M,ar,B,(bu.o.trans' (q2d aT.o) (fun q hq (e:_<=q)=>by have:=aj.o;omega)).trans' N.1 (fun q hq e=>by have:=(I.o.lt q e.symm).1;omega),fun z hz=>?_,by have:=b1.o;simp;omega,by have:=b4.o;omega,bL.o⟩;rcases List.mem_append.1 hz with hz|hz
       ·exact bm.o z hz
       ·rw[List.mem_singleton.1 hz];exact S2 HY.o
      have a8:=LH L;clear L aG ar B M N d5 ah ag b5;have d2:i<50:=by have:=al.o;omega
      go_wp2_with fail;go_roundw
      ·exact a8.o
      ·simp[intOf];omega
     ·
      have d2:i<50:=by have:=al.o;omega
      go_upto_region 14 with (fail)
      refine XI 16 (by kernel_rfl) (by kernel_rfl) ?_;change wpStill _ _ (Yo _) _ _ _;simp only[WU,XM,Xb,Ys];have O:=Z.o.ak.cell 0;have aX:=Z.o.ak.lt;simp only[Hi,Ft] at O;have aW:=qcu (w:=wA.drew) Z.o.holds b0.o.1
      repeat still_step
      refine Y4 ?_;refine SR (C:=kI) rfl 61 3 Tryz.underlying61 (.tmp 67) (.tmp 69) (.tmp 79) (by kernel_rfl) (by simp[Xh]) (show Ab kI _ _ (n+i) _ from Z.o.holds) (by have:=al.o;unfold Wo;omega) y.1 (.int .i64 (max (AA h y.1) y.2)) (by simp[Xh];rfl) (by simp[Xh]) b0.o.1 ?_;intro wB bZ W;have W:Fr (fun f=>f=(loc' x).hb) wA wB:=(Fr.refl _ wA).drew.trans W;have ct:AX wB base (n+i+1) ⟨(loc' x).g,(loc' x).hb,.slice (Bs ⟨g',o',B0⟩) (AC k.ws tx).length c5⟩ ⟨Au h y.1 y.2,AC k.ws tx⟩:=OO Z.o bZ W b0.o.1 b0.o.2;have be:=W.own I.o (fun f d e=>by have h1:=(I.o.lt f d).1;have h2:=(am.o.aw (b:=f) (.inr (.inl e))).2;omega);have b9:=W.own a2.o (fun f d e=>by subst e;exact Z.o.holds.aL a2.o d);have aU:=W.ak bK.o (fun e=>Z.o.holds.aB bK.o e.symm);have cz:=aU.cell 0;have cy:=aU.cell 1;have bP:=aU.lt;simp only[Hi,Ft,N2] at cz cy;have b6:wr.heap.size+1<=wB.heap.size:=by have:=W.size;have:=ab.o;omega
      have bi:Fr (fun f=>f=(loc' x).hb\/U0.ownBlock=Bs f) w6 wB:=(bu.o.trans' (q2d aT.o) (fun q hq (e:_<=q)=>by have:=aj.o;omega)).trans' W (fun q _ e=>.inl e);have cJ:=LH ct;clear ct;have bq:=LH be;clear be;have aM:=LH b9;clear b9 aU;have bl:=LH b6;clear b6;have cO:=LH bi;clear bi bZ W;clear aW O aX ah ag b5 Z I a2 bK ab aT;go_upto_region 15 with (fail)
      go_wp2_with (at_builtin;refine stop ?_)
      refine Df ?_;refine PD _ _ rfl (.tmp 80) (.tmp 87) 138 rfl (w.heap.size+1) 179 (.agg #[.int .i64 0,.string ⟨#[]⟩,.int .i64 0]) 3 32 Tryz.underlying138 g_info rfl (by decide) _ _ _ #[.int .i64 y.1,.string ⟨x.toArray⟩,.int .i64 y.2] rfl aM.o 1 rfl _ rfl rfl (by simp[WB]) ?_ ?_ ?_ ?_
      ·have:=b3.o;have:=b4.o;have:=bM.o;unfold Wo;omega
      ·have:=b3.o;have:=b4.o;have:=bM.o;omega
      ·have:=bl.o;have:=aj.o;have:=cA.o;omega
      intro v' w9 M N;have aG:AX w9 base (n+(i+1)) ⟨(loc' x).g,(loc' x).hb,.slice (Bs ⟨g',o',B0⟩) (AC k.ws tx).length c5⟩ ⟨Au h y.1 y.2,AC k.ws tx⟩:=cJ.o.fr N.1 (fun f d e=>cJ.o.bM aM.o (by decide) (by decide) e.symm d);have bg:=N.1.own bq.o (fun f d e=>q5z bq.o aM.o (by decide) d e.symm);have B:=bo.o;rw[q6g cc] at B;have L:NC base n ⟨(loc' x).g,(loc' x).hb,.slice (Bs ⟨g',o',B0⟩) (AC k.ws tx).length c5⟩ (Be k.h tx B0) (AC k.ws tx) (w.heap.size+1) gs x U0.ownBlock w6 v' (.slice Al lf.length cl) (.int .i64 ((i+1:Nat):Int)) w9:=by
       have bx:=(List.getElem?_eq_some_iff.1 HY.o).1;refine⟨i+1,Au h y.1 y.2,lf,done++[y],rfl,bx,aG,bg,?_,by rw[XB];exact B,cO.o.trans' N.1 (fun q hq e=>?_),bm.o,by have:=b1.o;omega,by have:=b4.o;simp;omega,fun f d=>?_⟩
       ·have:=M;simp only[List.map_append,List.map_cons,List.map_nil,VS,Wl,List.length_nil,WG,VM,List.flatMap_nil,Pt,XB,WE] at this ⊢;exact this
       ·rcases bL.o q e.symm with h1|h1
        ·exact .inr h1
        ·omega
       ·rcases N.2 with e|⟨g9,e,dr⟩
        ·exact bL.o f (e.symm.trans d)
        ·rw[d] at e;injection e with e;exact .inr (by have:=bl.o;have:=aj.o;omega)
      have a8:=LH L;clear L aG bg B M N cz cy bP;go_wp2_with fail
      all_goals
       go_roundw
       ·exact a8.o
       ·simp[intOf];omega
    ·
     obtain rfl:i=(AC k.ws tx).length:=by omega
     rw[List.drop_length,q32] at S;have hrel:B5 k tx=(⟨h,lf⟩,done):=by unfold B5;rw[S];simp
     obtain⟨Al,cl,bH,_,_⟩:=AR u;subst bH;have ai:=F.ak.cell 1;have bI:=F.ak.frozen 1;have ca:=F.ak.lt;have O:=F.ak.cell 0;simp only[Hi,Ft,N2] at ai O;have bd:wr.ownsRow base 166 2 (.slice Al lf.length cl) lf.length (lf.flatMap Cp):=q8l u (by have:=HI.o.bg;have:=cA.o;omega);have aH:=(M5 F F.ak F.holds bd (fun z hz=>aN.o z (a9 z hz)) (by omega)).mono (n':=n+50) (by omega);have bX:∀ f,(WM Al lf.length cl).ownBlock=Bs f->wr.heap.size<=f\/w6.heap.size<=f:=fun f d=>.inr (u.lt f d).1
     have bb:=(Fr.a6 (loc' x).g wr 1 (.slice Al lf.length cl)).own E (fun f d e=>by subst e;exact Bh E F.ak (by decide) d);have co:=fun f (d:(WM Al lf.length cl).ownBlock=Bs f)=>VO aQ.o.size (u.lt f d).1
     have ce:=((aQ.o.mono (T:=fun f=>AQ (loc' x) f\/U0.ownBlock=Bs f) (fun i _ h=>.inl h)).trans' a0 (fun i _ e=>e.elim (fun e=>.inl (.inr (.inl e))) .inr)).setCell (p:=⟨(loc' x).g,1,B0⟩) (.inl (.inl (.inl rfl))) (.slice Al lf.length cl);have ap:=Tn bT bO.o cC.o cN.o cP.o ac.o cM.o b3.o bn.o aS.o HX.o bv.o cD.o hrel aH co ce bb (by omega);have Y:=LH ap;clear ap;obtain⟨kk,ay,_,c8⟩:=aH.holds.len Tryz.underlying61;have bj:=Ul aH c8;have aR:=LH bj;clear bj c8;have cH:=LH ay;clear ay;have dp:j<1000000:=by have:=bM.o;omega
     have bN:=LH aH;clear aH;clear bd bb ce co bX hrel S u E a0 a9 bB an cr;clear cC cN cP ac cM b3 bn aS HX bv cD bO am aQ aN d9 de cF HK HV;go_upto_region 18 with (fail)
     clear ai bI O ca F;generalize wr.setCell ⟨(loc' x).g,1,B0⟩ (.slice Al lf.length cl)=w7 at *;have O:=bN.o.ak.cell 0;have a7:=bN.o.ak.cell 1;have di:=bN.o.ak.lt;simp only[Hi,Ft,N2] at O a7;have ay:=cH.o 3;by_cases bD:kk=0
     ·subst bD;by_cases az:lf.length=0
      ·have d1:((lf.length:Int) == 0)=VJ:=by simp[az]
       have he:=aR.o.2 ⟨rfl,az⟩;have hS:=Y.o.2.2 he;have aJ:=Y.o.1;have cg:=(aJ.ak.cell off).trans aJ.c0;have dh:=aJ.ak.lt;have dc:=LH aJ.map;clear aJ;have HS:=LH hS;clear hS;clear az;go_upto_region 19 with (fail)
       clear d1;obtain⟨w8,X,c1,cd⟩:=Ab.drop (C:=kS) (show Ab kS w7 b (n+50) _ from dc.o) Tryz.underlying98 (x:=⟨x.toArray⟩) (by show(ByteArray.mk x.toArray).size<=Wo;rw[KY];show x.toArray.toList.length<=_;unfold Wo;simp;omega) 0;rw[show kS.val ⟨x.toArray⟩=encStr x from rfl] at X;have a1:=HS.o w8 c1 cd;have aP:=LH a1;clear a1 c1 cd;go_wp2_with fail;go_roundw
       ·exact aP.o
       ·simp[intOf];omega
      ·have d1:((lf.length:Int) == 0)=Jx:=by rw[beq_eq_false_iff_ne];omega
       have hS:=Y.o.2.1 (fun he=>az (aR.o.1 he).2);have HS:=LH hS;clear hS az;go_wp2_with fail;go_roundw
       ·exact HS.o
       ·simp[intOf];omega
     ·have d0:((kk:Int) == 0)=Jx:=by rw[beq_eq_false_iff_ne];omega
      have hS:=Y.o.2.1 (fun he=>bD (aR.o.1 he).1);have HS:=LH hS;clear hS bD;go_wp2_with fail;go_roundw
      ·exact HS.o
      ·simp[intOf];omega
  ·have cZ:j=ks.length:=by omega
   have a1:Nv base n g off ty cs mb loc T tx w (.returned u5) wr:=by
    rw[cZ] at hI ae ad;rw[Td b2.o] at hI ae;rw[Xe] at ad;exact⟨u5,ks,loc',rfl,b2.o,by rw[<- ad];exact aa,hI,ae,aY⟩
   have aP:=LH a1;clear a1 hI aV ae aY aa ad aA G aE;go_wp2_with fail;go_ret;exact aP.o
end
def Af {α:Type} (f:Nat->α) (i:Nat) (v:α):Nat->α:=fun j=>if j=i then v else f j
def An (f:Nat->α) (i:Nat) (v:α):Af f i v i=v:=by unfold Af;rw[if_pos rfl]
def As {f:Nat->α} (h:j≠i) (v:α):Af f i v j=f j:=by unfold Af;rw[if_neg h]
def S7 (f:Nat->α) (i:Nat) (u v:α):Af (Af f i u) i v=Af f i v:=by
 funext j;unfold Af;split <;> rfl
def qc1 (f:Nat->α) (i:Nat):Af f i (f i)=f:=by
 funext j;unfold Af;split
 ·rename_i h;rw[h]
 ·rfl
structure Bm where
 nd:Nat->Nd
 ao:Int->Bool
 aa:Int
 size:Int
 tab:Tb
 sto:Kp
 done:Nat
structure Bl where
 state:Int
 ad:List Pr
 ae:Int->Option Int
 places:Int->Option Int
 ag:Int
 aj:List (Sx×Int)
structure Hs where
 n:Nat
 c:Nat
 net:AW
 sh:Nat->Bm
 m:Nat
 tx:Nat->Bl
 ag:Int
def AO (f:Int->Option Int) (k v:Int):Int->Option Int:=fun j=>if j=k then Bs v else f j
def Bm.ah (n:Nat) (x:Bm):List Nat:=(WS n).filter fun j=>!x.ao (x.nd j).id
def Bm.cy (n:Nat) (x:Bm):Option Nat:=(x.ah n).find? fun j=>(x.nd j).head
def Hs.ar (H:Hs) (s:Nat) (x:Bm):Hs:={ H with sh:=Af H.sh s x }
def Hs.au (H:Hs) (i:Nat) (t:Bl):Hs:={ H with tx:=Af H.tx i t }
def Hs.aq (H:Hs) (s j:Nat) (d:Nd):Hs:=H.ar s { H.sh s with nd:=Af (H.sh s).nd j d }
def Hs.send (H:Hs) (ms:List Ms):Hs:={ H with net:=Em H.net ms }
def Hs.head (H:Hs) (s:Nat):Option Nat:=(H.sh s).cy H.n
def JM (T:Tb) (tx:Int) (o:Int) (x:Sx):Prop:=∃ k c,T x=Bs k/\(o,c)∈(B5 k tx).2
open Classical in
noncomputable def Hs.granted (H:Hs) (T:Tb) (tx:Int):Hs:=
 { H with tx:=fun i=>{ H.tx i with aj:=(H.tx i).aj.filter fun w=>!decide (JM T tx i w.1) } }
noncomputable def Hs.rel (H:Hs) (s:Nat) (tx:Int):Hs:=
 (H.ar s { H.sh s with tab:=Bj (H.sh s).tab tx }).granted (H.sh s).tab tx
noncomputable def Am (T:Tb) (tx:Int) (x:Sx) (mode:Int):Tb:=
 if Ch (Ac T x).ws tx then T
 else if Ai (Ac T x).h tx mode (Ac T x).ws then Ao T x (Bs ⟨Au (Ac T x).h tx mode,(Ac T x).ws⟩)
 else if (Ac T x).ws.length=50 then T
 else Ao T x (Bs ⟨(Ac T x).h,BT (Ac T x).ws (tx,mode)⟩)
noncomputable def Cx (T:Tb) (tx:Int) (ps:List Pr):Tb:=ps.foldl (fun T p=>Am T tx (sx p.key) 2) T
def CM (K:Kp) (t:Int) (ps:List Pr):Kp:=ps.foldl (fun K p=>(Cv K 0 ⟨sx p.key,sx p.val,p.gone,t⟩).2) K
def Bk (K:Kp) (l:List Cm) (c:Cm):Kp:=l.foldl (fun K w=>if w.ai=2/\w.tx=c.tx then CM K c.ag w.ad else K) K
noncomputable def Hs.aE (H:Hs) (s:Nat) (l:List Cm) (i:Nat) (c:Cm):Hs:=
 if c.ai=2 then H.ar s { H.sh s with tab:=Cx (H.sh s).tab c.tx c.ad }
 else if c.ai=3 then(H.ar s { H.sh s with sto:=Bk (H.sh s).sto (l.take i) c }).rel s c.tx
 else if c.ai=4 then H.rel s c.tx
 else H
noncomputable def Hs.aO (s:Nat) (l:List Cm):Nat->Hs->Hs
 | 0,H=>H
 | k+1,H=>match l[(H.sh s).done]? with
  | none=>H
  | some c=>Hs.aO s l k ((H.aE s l (H.sh s).done c).ar s { (H.aE s l (H.sh s).done c).sh s with done:=(H.sh s).done+1 })
noncomputable def Hs.take (H:Hs) (s:Nat):Hs:=match H.head s with
 | none=>H
 | some j=>Hs.aO s ((H.sh s).nd j).log (((H.sh s).nd j).log.length-(H.sh s).done) H
noncomputable def Hs.add (H:Hs) (s j:Nat) (c:Cm) (b:Bool):Int×Hs:=
 if (((H.sh s).nd j).add c b).2.2≠0 then(-1,H)
 else((((H.sh s).nd j).add c b).2.1,(((H.aq s j (((H.sh s).nd j).add c b).1.1).send (((H.sh s).nd j).add c b).1.2)).take s)
def Bl.af (t:Bl):List Nat:=[0,1].filter fun k:Nat=>(t.ae k).isSome
def JC (kind id:Int) (c:Cm):Bool:=c.ai == kind && c.tx == id
def place (l:List Cm) (kind id:Int):Option Nat:=l.findIdx? (JC kind id)
def Aa (k:Sx):Nat:=(k.map fun b=>b.toNat).sum % 2
noncomputable def Hs.ax (i:Nat) (kind:Int) (H:Hs) (k:Nat):Hs:=match H.head k with
 | none=>H
 | some j=>if place ((H.sh k).nd j).log kind i=B0/\place ((H.sh k).nd j).log 2 i≠B0
  then(H.add k j ⟨kind,i,if kind=3 then(H.tx i).ag else 0,[]⟩ Jx).2 else H
noncomputable def Hs.aS (H:Hs) (i:Nat) (kind:Int):Hs:=(H.tx i).af.foldl (Hs.ax i kind) H
noncomputable def Hs.abort (H:Hs) (i:Nat):Hs:=
 ((H.tx i).af.foldl (fun(H:Hs) k=>H.rel k i) (H.au i { H.tx i with state:=4,aj:=[] })).aS i 4
def Bl.of (t:Bl) (k:Nat):List Pr:=t.ad.filter fun p=>Aa (sx p.key) == k
def Hs.an (H:Hs) (s j:Nat):Int:=((H.sh s).nd j).an
def Hs.a8 (H:Hs) (i k:Nat) (at_:Int):Hs:=H.au i { H.tx i with places:=AO (H.tx i).places k at_ }
noncomputable def Hs.aA (H:Hs) (i k:Nat) (b:Bool):Hs×Option Bool:=match H.head k with
 | none=>(H,Bs Jx)
 | some j=>match place ((H.sh k).nd j).log 2 i with
  | some p=>(H.a8 i k p,Bs (decide (H.an k j > p)))
  | none=>
   if (H.tx i).ag > 0\/((H.tx i).ae k).getD 0≠(H.sh k).aa\/((H.tx i).places k).getD 0>=0 then
    if (H.tx i).ag=0 then(H.abort i,B0) else(H,Bs Jx)
   else if (H.add k j ⟨2,i,0,(H.tx i).of k⟩ b).1<0 then((H.add k j ⟨2,i,0,(H.tx i).of k⟩ b).2.abort i,B0)
   else((H.add k j ⟨2,i,0,(H.tx i).of k⟩ b).2.a8 i k (H.add k j ⟨2,i,0,(H.tx i).of k⟩ b).1,
    Bs (decide ((H.add k j ⟨2,i,0,(H.tx i).of k⟩ b).2.an k j > (H.add k j ⟨2,i,0,(H.tx i).of k⟩ b).1)))
noncomputable def Hs.a3 (i:Nat) (b:Nat->Bool):List Nat->Hs->Bool->Hs×Option Bool
 | [],H,c=>(H,Bs c)
 | k::ks,H,c=>match (H.aA i k (b k)).2 with
  | none=>((H.aA i k (b k)).1,B0)
  | some a=>Hs.a3 i b ks (H.aA i k (b k)).1 (c && a)
noncomputable def Hs.commit (H:Hs) (i:Nat):Hs:=(H.au i { H.tx i with state:=3 }).aS i 3
def Hs.timed (H:Hs) (i:Nat):Hs:=if (H.tx i).ag=0 then { H.au i { H.tx i with ag:=wrap64 (H.ag+1) } with ag:=wrap64 (H.ag+1) } else H
noncomputable def Hs.aI (H:Hs) (i:Nat) (b:Bool):Hs×Bool:=match H.head 2 with
 | none=>(H,Jx)
 | some j=>match place ((H.sh 2).nd j).log 3 i with
  | some p=>if H.an 2 j<=p then(H,Jx) else(H.commit i,VJ)
  | none=>
   if ((H.timed i).add 2 j ⟨3,i,((H.timed i).tx i).ag,[]⟩ b).1<0 then(((H.timed i).add 2 j ⟨3,i,((H.timed i).tx i).ag,[]⟩ b).2,Jx)
   else if ((H.timed i).add 2 j ⟨3,i,((H.timed i).tx i).ag,[]⟩ b).2.an 2 j<=((H.timed i).add 2 j ⟨3,i,((H.timed i).tx i).ag,[]⟩ b).1 then(((H.timed i).add 2 j ⟨3,i,((H.timed i).tx i).ag,[]⟩ b).2,Jx)
   else(((H.timed i).add 2 j ⟨3,i,((H.timed i).tx i).ag,[]⟩ b).2.commit i,VJ)
noncomputable def Hs.ends (H:Hs) (i:Nat) (b:Nat->Bool):Hs×Bool:=match (Hs.a3 i b (H.tx i).af H VJ).2 with
 | none=>((Hs.a3 i b (H.tx i).af H VJ).1,VJ)
 | some Jx=>((Hs.a3 i b (H.tx i).af H VJ).1,Jx)
 | some VJ=>(Hs.a3 i b (H.tx i).af H VJ).1.aI i (b 2)
noncomputable def Hs.av (H:Hs) (i:Nat) (b:Nat->Bool):Hs×Bool:=
 if (H.tx i).state=2 then H.ends i b else if (H.tx i).state=3 then(H.aS i 3,Jx) else if (H.tx i).state=4 then(H.aS i 4,Jx) else(H,Jx)
noncomputable def Hs.round (bs:Nat->Nat->Bool):Nat->Nat->Hs×Bool->Hs×Bool
 | 0,_,r=>r
 | k+1,i,r=>Hs.round bs k (i+1) ((r.1.av i (bs i)).1,(r.1.av i (bs i)).2 || r.2)
inductive DL:Hs->Hs->Prop where
 | stop {H:Hs} (bs:Nat->Nat->Bool) (h:(Hs.round bs H.m 1 (H,Jx)).2=Jx):DL H (Hs.round bs H.m 1 (H,Jx)).1
 | more {H H':Hs} (bs:Nat->Nat->Bool) (h:(Hs.round bs H.m 1 (H,Jx)).2=VJ) (r:DL (Hs.round bs H.m 1 (H,Jx)).1 H'):DL H H'
open Classical in
noncomputable def D8 (h:Int->Option Int) (tx mode:Int):List Int:=((WS 61).map Int.ofNat).filter fun o=>decide (tx<o/\∃ m,h o=Bs m/\AI m mode=VJ)
noncomputable def Hs.aF (H:Hs) (o:Int):Hs:=if 1<=o/\o<=H.m/\(H.tx o.toNat).state=1 then H.abort o.toNat else H
def B6 (l:List (Sx×Int)) (x:Sx):Bool:=l.any fun w=>w.1 == x
noncomputable def Hs.aV (H:Hs) (i:Nat) (x:Sx) (mode:Int):Int×Hs:=
 let T:=(H.sh (Aa x)).tab
 let c:=H.ar (Aa x) { H.sh (Aa x) with tab:=Am T i x mode }
 if Ch (Ac T x).ws i then(9,c)
 else if Ai (Ac T x).h i mode (Ac T x).ws then(0,c)
 else if (Ac T x).ws.length=50 then(4,c)
 else
  let H2:=(D8 (Ac T x).h i mode).foldl Hs.aF (c.au i { c.tx i with aj:=(c.tx i).aj++[(x,mode)] })
  (if B6 (H2.tx i).aj x then 11 else 0,H2)
noncomputable def Hs.lock (H:Hs) (id:Int) (x:Sx) (mode:Int):Int×Hs:=
 if id<1\/H.m<id then(7,H)
 else if (H.tx id.toNat).state≠1 then(6,H)
 else if 20<x.length then(4,H)
 else if H.head (Aa x)=B0 then(12,H)
 else if ∃ e,(H.tx id.toNat).ae (Aa x)=Bs e/\e≠(H.sh (Aa x)).aa then(6,H.abort id.toNat)
 else
  let c:=H.au id.toNat { H.tx id.toNat with ae:=AO (H.tx id.toNat).ae (Aa x) (H.sh (Aa x)).aa }
  if B6 (c.tx id.toNat).aj x then(11,c) else c.aV id.toNat x mode
noncomputable def Hs.get (H:Hs) (id:Int) (x:Sx):(Int×Sx×Bool)×Hs:=
 let r:=H.lock id x 1
 if r.1≠0 then((r.1,[],Jx),r.2)
 else match (r.2.tx id.toNat).ad.reverse.find? (fun p=>sx p.key == x) with
  | some p=>((0,sx p.val,!p.gone),r.2)
  | none=>((0,BP (Cf ((r.2.sh (Aa x)).sto x) 1099511627776)),r.2)
def Ci (l:List Pr) (p:Pr):Option (List Pr):=match l.findIdx? (fun o=>o.key == p.key) with
 | some k=>Bs (l.set k p)
 | none=>if l.length=20 then B0 else Bs (l++[p])
noncomputable def Hs.put (H:Hs) (id:Int) (p:Pr):Int×Hs:=
 if 40<p.val.size then(4,H)
 else
  let r:=H.lock id (sx p.key) 2
  if r.1≠0 then(r.1,r.2)
  else match Ci (r.2.tx id.toNat).ad ⟨p.key,if p.gone then⟨#[]⟩ else p.val,p.gone⟩ with
   | some l=>(0,r.2.au id.toNat { r.2.tx id.toNat with ad:=l })
   | none=>(4,r.2)
def Hs.ending (H:Hs) (i:Nat):Hs:=H.au i { H.tx i with state:=2,places:=fun k=>if ((H.tx i).ae k).isSome then Bs (-1) else(H.tx i).places k }
inductive Hz (H:Hs) (id:Int):Int->Hs->Prop where
 | missing (h:id<1\/H.m<id):Hz H id 7 H
 | state (h:1<=id/\id<=H.m) (h1:(H.tx id.toNat).state≠1):Hz H id 6 H
 | waits (h:1<=id/\id<=H.m) (h1:(H.tx id.toNat).state=1) (h2:(H.tx id.toNat).aj≠[]):Hz H id 11 H
 | ends (h:1<=id/\id<=H.m) (h1:(H.tx id.toNat).state=1) (h2:(H.tx id.toNat).aj=[]) {H':Hs} (r:DL (H.ending id.toNat) H'):Hz H id 0 H'
noncomputable def Hs.drop (H:Hs) (id:Int):Int×Hs:=
 if id<1\/H.m<id then(7,H) else if (H.tx id.toNat).state≠1 then(6,H) else(0,H.abort id.toNat)
def DJ:Bl:=⟨1,[],fun _=>B0,fun _=>B0,0,[]⟩
def Hs.begin (H:Hs):Hs:={ H with m:=H.m+1,tx:=Af H.tx (H.m+1) DJ }
def Hs.state (H:Hs) (id:Int):Int:=if id<1\/H.m<id then 0 else(H.tx id.toNat).state
def Hs.node (H:Hs) (id:Int):Option (Nat×Nat):=
 ([0,1,2].flatMap fun s=>((H.sh s).ah H.n).map fun j=>(s,j)).find? fun q=>((H.sh q.1).nd q.2).id == id
noncomputable def Hs.arrive (H:Hs) (m:Ms):Hs:=match H.node m.a4 with
 | none=>H
 | some (s,j)=>((H.aq s j (((H.sh s).nd j).step m).1).send (((H.sh s).nd j).step m).2).take s
inductive Pu (H:Hs) (k:Nat):Hs->Prop where
 | none (h:H.net.l.length<=k):Pu H k H
 | some {m:Ms} (h:H.net.l[k]? = Bs m) {H':Hs} (r:DL (({ H with net:=takeS H.net k } : Hs).arrive m) H'):Pu H k H'
def Hs.lose (H:Hs) (k:Nat):Hs:={ H with net:=takeS H.net k }
def Hs.twice (H:Hs) (k:Nat):Hs:=match H.net.l[k]? with
 | none=>H
 | some m=>{ H with net:=AN H.net m }
def Hs.aG (s:Nat) (H:Hs) (j:Nat):Hs:=(H.aq s j ((H.sh s).nd j).tick.1).send ((H.sh s).nd j).tick.2
def Hs.bm (H:Hs) (s:Nat):Hs:=((H.sh s).ah H.n).foldl (Hs.aG s) H
def Hs.aT (H:Hs):Hs:=[0,1,2].foldl Hs.bm H
def DX (H H':Hs):Prop:=DL H.aT H'
inductive Pq:Nat->Hs->Hs->Prop where
 | zero (H:Hs):Pq 0 H H
 | none {k:Nat} {H:Hs} (h:H.net.l=[]):Pq k H H
 | more {k:Nat} {H H1 H':Hs} (h:H.net.l≠[]) (d:Pu H 0 H1) (r:Pq k H1 H'):Pq (k+1) H H'
inductive Cd:Nat->Hs->Hs->Prop where
 | zero (H:Hs):Cd 0 H H
 | more {k:Nat} {H H1 H2 H':Hs} (t:DX H H1) (d:Pq 5000 H1 H2) (r:Cd k H2 H'):Cd (k+1) H H'
def Hs.fail (H:Hs) (id:Int):Hs:=match H.node id with
 | none=>H
 | some (s,_)=>{ H.ar s { H.sh s with ao:=fun i=>decide (i=id) || (H.sh s).ao i } with net:=Ev H.net id }
def Hs.a5 (s:Nat) (ids:List Int) (H:Hs) (j:Nat):Hs:=
 (H.aq s j (((H.sh s).nd j).join (H.sh s).aa ids).tick.1).send (((H.sh s).nd j).join (H.sh s).aa ids).tick.2
def Bm.ids (n:Nat) (x:Bm):List Int:=(x.ah n).map fun j=>(x.nd j).id
noncomputable def Hs.bh (H:Hs) (s:Nat):Hs:=
 let l:=(H.sh s).ah H.n
 let c:=H.ar s { H.sh s with aa:=wrap64 ((H.sh s).aa+1),size:=l.length }
 let H2:=l.foldl (Hs.a5 s ((H.sh s).ids H.n)) c
 (H2.ar s { H2.sh s with tab:=fun _=>B0,sto:=fun _=>[],done:=0 }).take s
noncomputable def Hs.fix (H:Hs) (s:Nat):Hs:=if (H.sh s).ah H.n=[] then H else H.bh s
def Bm.b8 (n:Nat) (x:Bm):Bool:=match (x.ah n).head?,(x.ah n).getLast? with
 | some a,Bs b=>(x.nd a).head && (x.nd b).tail && ((x.ah n).length:Int) == x.size
 | _,_=>VJ
noncomputable def Hs.a9 (H:Hs) (s:Nat):Hs:=if (H.sh s).b8 H.n then H else H.fix s
noncomputable def Hs.a7 (H:Hs) (i:Nat):Hs:=
 if (H.tx i).state=1/\∃ k∈(H.tx i).af,(H.tx i).ae k≠Bs (H.sh k).aa then H.abort i else H
noncomputable def Hs.aY (H:Hs):Hs:=(Wh 1 H.m).foldl Hs.a7 H
def E8 (H H':Hs):Prop:=DL ([0,1,2].foldl Hs.a9 H).aY H'
def nd0 (id:Int):Nd:=Nd.fresh id
def Dx (s:Nat):Bm:=⟨fun j=>nd0 (10*s+j),fun _=>Jx,0,0,fun _=>B0,fun _=>[],0⟩
def hsE (n:Nat):Hs:=⟨n,0,⟨[],fun _=>Jx⟩,Dx,0,fun _=>DJ,0⟩
noncomputable def Hs.more (H:Hs):Hs:=({ H with c:=H.c+1 } : Hs).fix H.c
noncomputable def BD (n:Nat):Hs:=(hsE n).more.more.more
section
open Go.RowKit Go.Maps Go.WideMaps
section
variable {P:Xc} {kt:VV} {κ:Type} {C:CJ P kt κ} {w w':D0} {b n:Nat} {m:κ->Option O0}
open Classical in
def Ab.tight (h:Ab C w b n m) (l:List κ) (hl:∀ x,C.ok x->m x≠B0->x∈l):Ab C w b l.length m:=by
 obtain⟨D,E,z⟩:=h;obtain⟨u,c,I,F,hs,B⟩:=E;refine⟨D,⟨u,c,I,F,?_,B⟩,z⟩;have q:=Maps.fit_apart C.law F;have d:u.size=(((u.toList.map (Go.WideElems.rg P kt CN))).map (·.1)).length:=by simp
 rw[d,<- We C.kl];refine WI ?_ (fun J G=>?_)
 ·rw[Yw,W8];exact q
 ·obtain⟨p,A,rfl⟩:=List.mem_map.1 G;obtain⟨v,i⟩:=Maps.fit_keys F p A;obtain⟨x,f,_,y⟩:=C.inv v _ i;refine List.mem_map.2 ⟨x,hl x f (fun e=>?_),y.symm⟩;have s:=(z x f).1;rw[e] at s;have:Maps.has D (C.kl x)=VJ:=by
   rw[B,has_eq,XZ];exact⟨p,mem_sorted.2 A,by rw[<- y];exact WideAt.sameKey_self (by rw[y];exact C.key f)⟩
  rw[this] at s;cases s
end
end
inductive Tg where
 | hs|net|shr|txr
 | sb (s:Nat)|ndr (s:Nat)|dd (s:Nat)|tab (s:Nat)|sto (s:Nat)
 | nd (s j:Nat)|tx (i:Nat)|sm (i:Nat)
deriving DecidableEq
abbrev Ah:=Nat->Option Tg
structure Aq where
 g:Nat
 gs:Nat->Nat
 gn:Nat->Nat->Nat
 gt:Nat->Nat
def Ext (own own':Ah) (n:Nat):Prop:=∀ b,b<n->own' b=own b
def C4 (own:Ah) (n n':Nat) (t:Tg):Ah:=fun b=>if b<n then own b else if b<n' then Bs t else B0
def FP (own:Ah) (n n':Nat) (t:Tg):Ext own (C4 own n n' t) n:=fun b h=>by unfold C4;rw[if_pos h]
def Ow {own:Ah} {n:Nat} {t:Tg} (d:n<=b) (c:b<n'):C4 own n n' t b=Bs t:=by unfold C4;rw[if_neg (by omega),if_pos c]
def Q6 {own:Ah} {n:Nat} {t:Tg} (c:n<=n') (h:C4 own n n' t b≠B0):b<n':=by
 unfold C4 at h;split at h
 ·omega
 ·split at h
  ·assumption
  ·exact absurd rfl h
def Ext.refl (own:Ah) (n:Nat):Ext own own n:=fun _ _=>rfl
def Ext.trans {a b c:Ah} {n m:Nat} (h:Ext a b n) (k:Ext b c m) (f:n<=m):Ext a c n:=fun i d=>(k i (VL d f)).trans (h i d)
def OS (own:Ah) (Z:Tg->Prop) (b:Nat):Prop:=∃ t,own b=Bs t/\Z t
def OS.tag {own:Ah} {Z:Tg->Prop} {t:Tg} (h:OS own Z b) (e:own b=Bs t):Z t:=by
 obtain⟨u,c,d⟩:=h;rw[e] at c;injection c with c;rw[c];exact d
def pw (g:Nat):O0:=.pointer (Bs ⟨g,0,B0⟩)
def Sl (w:D0) (own:Ah) (t:Tg) (g:Nat) (d:Nd):Prop:=∃ C V L,BI w 0 g C V L d/\∀ b,CC g C V L b->own b=Bs t
def Sl.aP {w:D0} {own own':Ah} {Z:Tg->Prop} {t:Tg} {g:Nat} {d:Nd} (h:Sl w own t g d) (q:Fr (OS own Z) w w') (s:Ext own own' w.heap.size) (p:¬Z t):Sl w' own' t g d:=by
 obtain⟨C,V,L,i,f⟩:=h;exact⟨C,V,L,i.fr q (fun b c hs=>p (hs.tag (f b c))),fun b c=>(s b (i.aw c).2).trans (f b c)⟩
structure Nt where
 Vn:O0
 bd:Nat
 mt:Option Nat
 dp:Sx->Ar
 ms:Option Nat
 dq:Sx->O0
def FG (v:Nt) (x:Bm):Array O0:=#[v.Vn,.map (Bs v.bd),.int .i64 x.aa,.int .i64 x.size,.map v.mt,.map v.ms,.int .i64 0,.int .i64 x.done]
def SS (dead:Int->Bool):Int->Option O0:=fun i=>if dead i then Bs (.bool VJ) else B0
structure DP (w:D0) (own:Ah) (n s g:Nat) (gn:Nat->Nat) (v:Nt) (x:Bm):Prop where
 row:w.ownsRow 0 108 1 v.Vn n ((WS n).map fun j=>pw (gn j))
 b6:∀ b,v.Vn.ownBlock=Bs b->own b=Bs (.ndr s)
 dd:Ab BC w v.bd 100 (SS x.ao)
 cI:own v.bd=Bs (.dd s)
 tab:AB w 0 100 g 4 105 (FG v x) v.mt v.dp x.tab
 b5:∀ b,AE v.mt v.dp x.tab b->own b=Bs (.tab s)
 sto:BY w 0 100 g 5 105 (FG v x) v.ms v.dq x.sto 0
 bF:∀ b,Dl v.ms v.dq x.sto b->own b=Bs (.sto s)
 gt:own g=Bs (.sb s)
def PJ (w:D0) (own:Ah) (n s g:Nat) (gn:Nat->Nat) (x:Bm):Prop:=∃ v,DP w own n s g gn v x
def CZ (s:Nat) (t:Tg):Prop:=t=.sb s\/t=.ndr s\/t=.dd s\/t=.tab s\/t=.sto s
def DP.aP {w:D0} {own own':Ah} {Z:Tg->Prop} {n s g:Nat} {gn:Nat->Nat} {v:Nt} {x:Bm} (h:DP w own n s g gn v x) (p:Fr (OS own Z) w w') (i:Ext own own' w.heap.size) (d:∀ t,CZ s t->¬Z t):DP w' own' n s g gn v x:=by
 have f:¬OS own Z g:=fun hs=>d _ (.inl rfl) (hs.tag h.gt)
 exact⟨p.own h.row (fun b c hs=>d _ (.inr (.inl rfl)) (hs.tag (h.b6 b c))),fun b c=>(i b (h.row.lt b c).2).trans (h.b6 b c),
  h.dd.fr p (fun hs=>d _ (.inr (.inr (.inl rfl))) (hs.tag h.cI)),(i _ h.dd.lt).trans h.cI,
  h.tab.fr p f (fun b c hs=>d _ (.inr (.inr (.inr (.inl rfl)))) (hs.tag (h.b5 b c))),fun b c=>(i b (h.tab.aw c).2).trans (h.b5 b c),
  h.sto.fr p (fun b c hs=>c.elim (fun e=>f (e▸hs)) (fun c=>d _ (.inr (.inr (.inr (.inr rfl)))) (hs.tag (h.bF b c)))),fun b c=>(i b (h.sto.aw (.inr c)).2).trans (h.bF b c),
  (i g h.tab.ak.lt).trans h.gt⟩
def PJ.aP {w w':D0} {own own':Ah} {Z:Tg->Prop} {n s g:Nat} {gn:Nat->Nat} {x:Bm} (h:PJ w own n s g gn x) (d:Fr (OS own Z) w w') (f:Ext own own' w.heap.size) (c:∀ t,CZ s t->¬Z t):PJ w' own' n s g gn x:=by
 obtain⟨v,h⟩:=h;exact⟨v,h.aP d f c⟩
def D7 (a:Sx×Int):List O0:=[.string ⟨a.1.toArray⟩,.int .i64 a.2]
def CT (f:Int->Option Int):Int->Option O0:=fun i=>(f i).map (Wp .i64)
structure Ko where
 Vw:O0
 bs:Nat
 bp:Nat
 bt:O0
 dc:O0
 Vx:O0
def Om (v:Ko) (i:Nat) (t:Bl):Array O0:=#[.int .i64 i,.int .i64 t.state,v.Vw,.map (Bs v.bs),.map (Bs v.bp),.int .i64 t.ag,v.dc,v.bt,v.Vx]
structure Co (w:D0) (own:Ah) (i g:Nat) (v:Ko) (t:Bl):Prop where
 ak:Ae w g 78 (Om v i t)
 ad:w.ownsRow 0 45 3 v.Vw t.ad.length (t.ad.flatMap CR)
 ae:Ab BC w v.bs 100 (CT t.ae)
 places:Ab BC w v.bp 100 (CT t.places)
 aj:w.ownsRow 0 129 2 v.Vx t.aj.length (t.aj.flatMap D7)
 ne:v.bs≠v.bp
 gt:own g=Bs (.tx i)
 wt:∀ b,v.Vw.ownBlock=Bs b->own b=Bs (.tx i)
 st:own v.bs=Bs (.tx i)\/own v.bs=Bs (.sm i)
 pt:own v.bp=Bs (.tx i)
 xt:∀ b,v.Vx.ownBlock=Bs b->own b=Bs (.tx i)
def SU (w:D0) (own:Ah) (i g:Nat) (t:Bl):Prop:=∃ v,Co w own i g v t
def Co.aP {w:D0} {own own':Ah} {Z:Tg->Prop} {g:Nat} {v:Ko} {t:Bl} (h:Co w own i g v t) (f:Fr (OS own Z) w w') (d:Ext own own' w.heap.size) (u:¬Z (.tx i)) (q:¬Z (.sm i)):Co w' own' i g v t:=by
 have p:∀ b,own b=Bs (.tx i)->¬OS own Z b:=fun b c hs=>u (hs.tag c)
 have s:¬OS own Z v.bs:=fun hs=>h.st.elim (fun e=>u (hs.tag e)) (fun e=>q (hs.tag e))
 exact⟨f.ak h.ak (p _ h.gt),f.own h.ad (fun b c=>p b (h.wt b c)),h.ae.fr f s,h.places.fr f (p _ h.pt),f.own h.aj (fun b c=>p b (h.xt b c)),h.ne,
  (d _ h.ak.lt).trans h.gt,fun b c=>(d b (h.ad.lt b c).2).trans (h.wt b c),h.st.imp (fun e=>(d _ h.ae.lt).trans e) (fun e=>(d _ h.ae.lt).trans e),(d _ h.places.lt).trans h.pt,fun b c=>(d b (h.aj.lt b c).2).trans (h.xt b c)⟩
def SU.aP {w w':D0} {own own':Ah} {Z:Tg->Prop} {i g:Nat} {t:Bl} (h:SU w own i g t) (f:Fr (OS own Z) w w') (p:Ext own own' w.heap.size) (d:¬Z (.tx i)) (c:¬Z (.sm i)):SU w' own' i g t:=by
 obtain⟨v,h⟩:=h;exact⟨v,h.aP f p d c⟩
structure Kr where
 Vn:O0
 D:Option Nat
 L:List AS
 lost:Int
 Vr:O0
 Vt:O0
def Oi (v:Kr) (time:Int):Array O0:=#[v.Vn,.map v.D,.int .i64 v.lost,v.Vr,v.Vt,.int .i64 time]
def E7 (v:Kr) (b:Nat):Prop:=v.Vn.ownBlock=Bs b\/v.D=Bs b\/∃ x∈v.L,(WM x.A x.n x.k).ownBlock=Bs b
structure Eh (w:D0) (own:Ah) (P:Aq) (c m:Nat) (net:AW) (time:Int) (v:Kr):Prop where
 nt:AJ w 0 P.g 0 92 (Oi v time) v.Vn v.D 100 v.L net.ao v.lost
 msgs:AF v.L=net.l
 bc:∀ b,E7 v b->own b=Bs .net
 br:∀ x∈v.L,x.n<=100000
 shr:w.ownsRow 0 80 1 v.Vr c ((WS c).map fun s=>pw (P.gs s))
 bx:∀ b,v.Vr.ownBlock=Bs b->own b=Bs .shr
 txr:w.ownsRow 0 74 1 v.Vt m ((Wh 1 m).map fun i=>pw (P.gt i))
 bu:∀ b,v.Vt.ownBlock=Bs b->own b=Bs .txr
 gt:own P.g=Bs .hs
def HsC (w:D0) (own:Ah) (P:Aq) (c m:Nat) (net:AW) (time:Int):Prop:=∃ v,Eh w own P c m net time v
def M6 (t:Tg):Prop:=t=.hs\/t=.net\/t=.shr\/t=.txr
def AJ.aw {w:D0} {base g nd:Nat} {T:VV} {V:O0} {L:List AS} {dead:Int->Bool} {lost:Int} (h:AJ w base g i T X V D nd L dead lost) (c:V.ownBlock=Bs b\/D=Bs b\/∃ x∈L,(WM x.A x.n x.k).ownBlock=Bs b):b<w.heap.size:=by
 rcases c with c|c|⟨x,d,c⟩
 ·exact h.vlt c
 ·have:=h.down;rw[c] at this;exact this.lt
 ·exact((h.own x d).1.lt b c).2
def AJ.frF {w:D0} {base g nd:Nat} {T:VV} {V:O0} {L:List AS} {dead:Int->Bool} {lost:Int} (h:AJ w base g j T X V D nd L dead lost) (c:Fr S w w') (p:¬S g) (i:∀ b,(V.ownBlock=Bs b\/D=Bs b\/∃ x∈L,(WM x.A x.n x.k).ownBlock=Bs b)->¬S b):AJ w' base g j T X V D nd L dead lost:=
 ⟨c.ak h.ak p,h.c0,h.c1,h.c2,c.own h.row (fun b d=>i b (.inl d)),fun x f=>⟨c.own (h.own x f).1 (fun b d=>i b (.inr (.inr ⟨x,f,d⟩))),(h.own x f).2⟩,h.down.fr c (fun b d=>i b (.inr (.inl d))),h.len,h.ne,VO h.bg c.size⟩
def Eh.aP {w:D0} {own own':Ah} {Z:Tg->Prop} {P:Aq} {m:Nat} {net:AW} {time:Int} {v:Kr} (h:Eh w own P c m net time v) (p:Fr (OS own Z) w w') (i:Ext own own' w.heap.size) (f:∀ t,M6 t->¬Z t):Eh w' own' P c m net time v:=
 ⟨h.nt.frF p (fun hs=>f _ (.inl rfl) (hs.tag h.gt)) (fun b d hs=>f _ (.inr (.inl rfl)) (hs.tag (h.bc b d))),h.msgs,fun b d=>(i b (h.nt.aw d)).trans (h.bc b d),h.br,
  p.own h.shr (fun b d hs=>f _ (.inr (.inr (.inl rfl))) (hs.tag (h.bx b d))),fun b d=>(i b (h.shr.lt b d).2).trans (h.bx b d),
  p.own h.txr (fun b d hs=>f _ (.inr (.inr (.inr rfl))) (hs.tag (h.bu b d))),fun b d=>(i b (h.txr.lt b d).2).trans (h.bu b d),(i _ h.nt.ak.lt).trans h.gt⟩
def HsC.aP {w w':D0} {own own':Ah} {Z:Tg->Prop} {P:Aq} {c m:Nat} {net:AW} {time:Int} (h:HsC w own P c m net time) (f:Fr (OS own Z) w w') (i:Ext own own' w.heap.size) (d:∀ t,M6 t->¬Z t):HsC w' own' P c m net time:=by
 obtain⟨v,h⟩:=h;exact⟨v,h.aP f i d⟩
structure HI (w:D0) (own:Ah) (P:Aq) (H:Hs):Prop where
 lt:∀ b,own b≠B0->b<w.heap.size
 hs:HsC w own P H.c H.m H.net H.ag
 sh:∀ s,s<H.c->PJ w own H.n s (P.gs s) (P.gn s) (H.sh s)
 nd:∀ s j,s<H.c->j<H.n->Sl w own (.nd s j) (P.gn s j) ((H.sh s).nd j)
 tx:∀ i,1<=i->i<=H.m->SU w own i (P.gt i) (H.tx i)
structure HZ (Z:Tg->Prop) (w:D0) (own:Ah) (w':D0) (own':Ah):Prop where
 ext:Ext own own' w.heap.size
 fr:Fr (OS own Z) w w'
 sm:∀ b i,own' b=Bs (.sm i)->own b=Bs (.sm i)
def BM (t:Tg):Prop:=t≠.txr/\t≠.shr/\∀ i,t≠.sm i
def Ef (own:Ah):Prop:=∀ b i,own b≠Bs (.sm i)
abbrev Ay:=HZ BM
def HZ.refl (Z:Tg->Prop) (w:D0) (own:Ah):HZ Z w own w own:=⟨Ext.refl _ _,Fr.refl _ _,fun _ _ h=>h⟩
def HZ.mono {Z Z':Tg->Prop} {w w':D0} {own own':Ah} (h:HZ Z w own w' own') (c:∀ t,Z t->Z' t):HZ Z' w own w' own':=⟨h.ext,h.fr.mono (fun _ _ ⟨t,a,b⟩=>⟨t,a,c t b⟩),h.sm⟩
def HZ.trans {Z:Tg->Prop} {w p f:D0} {own d c:Ah} (h:HZ Z w own p d) (k:HZ Z p d f c):HZ Z w own f c:=
 ⟨h.ext.trans k.ext h.fr.size,h.fr.trans' k.fr (fun i q ⟨t,a,b⟩=>⟨t,by rw[<- h.ext i q];exact a,b⟩),fun b i e=>h.sm b i (k.sm b i e)⟩
def HZ.dg {Z:Tg->Prop} {w:D0} {own own':Ah} (h:HZ Z w own w' own') (c:Ef own):Ef own':=fun b i e=>c b i (h.sm b i e)
def OS.owned {own:Ah} {Z:Tg->Prop} (h:OS own Z b):own b≠B0:=by obtain⟨t,h,_⟩:=h;rw[h];simp
def q68 {w:D0} (own:Ah) (c:VP w.heap.size w w'):Fr (OS own (fun _=>False)) w w':=⟨c.os,c.tape,c.output,c.size,fun k d _=>c.block k d⟩
section
variable {w w':D0} {own own':Ah} {P:Aq} {H:Hs}
def HI.below (h:HI w own P H) (f:VP w.heap.size w w'):HI w' own P H:=
 have c:=q68 own f;have d:=Ext.refl own w.heap.size
 ⟨fun b p=>VL (h.lt b p) f.size,h.hs.aP c d (fun _ _ h=>h),fun s hs=>(h.sh s hs).aP c d (fun _ _ h=>h),fun s j hs q=>(h.nd s j hs q).aP c d (fun h=>h),fun i v u=>(h.tx i v u).aP c d (fun h=>h) (fun h=>h)⟩
def HZ.below {Z:Tg->Prop} (own:Ah) (c:VP w.heap.size w w'):HZ Z w own w' own:=⟨Ext.refl _ _,(q68 own c).mono (fun _ _ ⟨t,a,b⟩=>⟨t,a,b.elim⟩),fun _ _ h=>h⟩
def Eh.cells {m:Nat} {net:AW} {time:Int} {v:Kr} (h:Eh w own P c m net time v):w.cell? ⟨P.g,0,B0⟩=Bs v.Vn/\w.cell? ⟨P.g,3,B0⟩=Bs v.Vr/\w.cell? ⟨P.g,4,B0⟩=Bs v.Vt/\w.cell? ⟨P.g,5,B0⟩=Bs (.int .i64 time)/\P.g<w.heap.size:=by
 have p:=h.nt.ak.cell 0;have i:=h.nt.ak.cell 3;have f:=h.nt.ak.cell 4;have d:=h.nt.ak.cell 5;unfold Oi at p i f d;simp only[Hi,Ft,N2] at p i f d;exact⟨p,i,f,d,h.nt.ak.lt⟩
def SK {base k n:Nat} {V:O0} (h:w.ownsRow base e 1 V n xs) (p:k<n):∃ g c,V=.slice (Bs ⟨g,0,B0⟩) n c/\g<w.heap.size/\∃ u,xs[k]? = Bs u/\w.cell? ⟨g,k,B0⟩=Bs u:=by
 obtain⟨A,c,rfl,_,_⟩:=AR h;obtain⟨g,off,u,rfl,q,i,f⟩:=(Rd.ay h).ck p;rcases h.2 with ⟨d,_⟩|⟨v,cap,s,d,_⟩
 ·cases d
 ·injection d with d _ _;injection d with d;injection d with d h2 _;subst h2;exact⟨g,c,rfl,q,u,i,by rw[Wx] at f;exact f⟩
def Eh.txAt {m:Nat} {net:AW} {time:Int} {v:Kr} (h:Eh w own P c m net time v) (s:1<=i) (q:i<=m):∃ g k,v.Vt=.slice (Bs ⟨g,0,B0⟩) m k/\g<w.heap.size/\w.cell? ⟨g,i-1,B0⟩=Bs (pw (P.gt i)):=by
 obtain⟨g,k,e,f,u,d,p⟩:=SK h.txr (k:=i-1) (by omega);refine⟨g,k,e,f,?_⟩;rw[V8,List.getElem?_range' (by omega)] at d;simp only[WK,VR] at d;rw[p,<- d,show 1+1*(i-1)=i by omega]
def Eh.bZ {m:Nat} {net:AW} {time:Int} {v:Kr} (h:Eh w own P c m net time v) {s:Nat} (hs:s<c):∃ g k,v.Vr=.slice (Bs ⟨g,0,B0⟩) c k/\g<w.heap.size/\w.cell? ⟨g,s,B0⟩=Bs (pw (P.gs s)):=by
 obtain⟨g,k,e,f,u,d,i⟩:=SK h.shr (k:=s) (by omega);refine⟨g,k,e,f,?_⟩;rw[V8,List.getElem?_range (by omega)] at d;simp only[WK,VR] at d;rw[i,<- d]
def DW (P:Aq) (m:Nat) (id:Int):O0:=if id<1\/m<id then .pointer B0 else pw (P.gt id.toNat)
def q51 (h:HI w own P H) (B:H.m<=1000) (id:Int):VY Tryz.prog 34 #[pw P.g,.int .i64 id] w fun e w'=>e=.returned (DW P H.m id)/\w=w':=by
 obtain⟨v,h⟩:=h.hs;obtain⟨_,_,f,_,F⟩:=h.cells;unfold DW pw;by_cases q:id<1
 ·rw[if_pos (.inl q)];have y:decide (id<1)=VJ:=decide_eq_true q;clear f h;go_enter Tryz.func34,Tryz.ntmps34;go_wp2_with fail;go_ret;exact⟨rfl,rfl⟩
 ·have y:decide (id<1)=Jx:=decide_eq_false q;by_cases p:(H.m:Int)<id
  ·rw[if_pos (.inr p)];have u:decide (id > (H.m:Int))=VJ:=decide_eq_true p;obtain⟨A,c,d,_,_⟩:=AR h.txr;rw[d] at f;clear h d;go_enter Tryz.func34,Tryz.ntmps34;go_wp2_with fail;go_ret;exact⟨rfl,rfl⟩
  ·rw[if_neg (by omega)];have u:decide (id > (H.m:Int))=Jx:=decide_eq_false p;obtain⟨i,rfl⟩:∃ i:Nat,id=i:=⟨id.toNat,by omega⟩
   obtain⟨g,k,d,E,s⟩:=h.txAt (i:=i) (by omega) (by omega);rw[d] at f;rw[show((i:Int)).toNat=i from rfl];obtain⟨j,rfl⟩:∃ j,i=j+1:=⟨i-1,by omega⟩
   have z:IntKind.i64.wrap (((j+1:Nat):Int)-1)=(j:Int):=by rw[V4 _ ⟨by omega,by omega⟩];omega
   rw[Xi] at s;unfold pw at s;have D:j<H.m:=by omega
   clear h d;go_enter Tryz.func34,Tryz.ntmps34;go_wp2_with fail;go_ret;exact⟨rfl,rfl⟩
def HI.setTx' (h:HI w own P H) {t':Bl} (f:Fr (OS own (fun t=>t=.tx i)) w w') (p:Ext own own' w.heap.size) (q:∀ b,own' b≠B0->b<w'.heap.size)
  (c:SU w' own' i (P.gt i) t'):HI w' own' P (H.au i t'):=by
 refine⟨q,h.hs.aP f p (fun t c=>by rintro rfl;rcases c with h|h|h|h <;> cases h),fun s hs=>(h.sh s hs).aP f p (fun t c=>by rintro rfl;rcases c with h|h|h|h|h <;> cases h),fun s j hs u=>(h.nd s j hs u).aP f p (by simp),fun k y v=>?_⟩;show SU w' own' k (P.gt k) (Af H.tx i t' k);by_cases e:k=i
 ·subst e;rw[An];exact c
 ·rw[As e];exact(h.tx k y v).aP f p (fun d=>by injection d with d;exact e d) (fun d=>by cases d)
def HI.setSh' (h:HI w own P H) {s:Nat} {x':Bm} (p:x'.nd=(H.sh s).nd) (d:Fr (OS own (CZ s)) w w') (f:Ext own own' w.heap.size) (q:∀ b,own' b≠B0->b<w'.heap.size)
  (v:PJ w' own' H.n s (P.gs s) (P.gn s) x'):HI w' own' P (H.ar s x'):=by
 refine⟨q,h.hs.aP d f (fun t i c=>by rcases i with h|h|h|h <;> subst h <;> rcases c with h|h|h|h|h <;> cases h),fun k u=>?_,fun k j u y=>?_,fun k A z=>(h.tx k A z).aP d f (fun c=>by rcases c with h|h|h|h|h <;> cases h) (fun c=>by rcases c with h|h|h|h|h <;> cases h)⟩
 ·show PJ w' own' H.n k (P.gs k) (P.gn k) (Af H.sh s x' k);by_cases e:k=s
  ·subst e;rw[An];exact v
  ·rw[As e];exact(h.sh k u).aP d f (fun t i c=>by rcases i with h|h|h|h|h <;> subst h <;> rcases c with h|h|h|h|h <;> first|(injection h with h;exact e h)|cases h)
 ·have:=(h.nd k j u y).aP d f (fun c=>by rcases c with h|h|h|h|h <;> cases h);show Sl w' own' (.nd k j) (P.gn k j) ((Af H.sh s x' k).nd j);by_cases e:k=s
  ·subst e;rw[An,p];exact this
  ·rw[As e];exact this
def PJ.aq {n s g:Nat} {gn:Nat->Nat} {x:Bm} (h:PJ w own n s g gn x) (f:Nat->Nd):PJ w own n s g gn { x with nd:=f }:=by
 obtain⟨v,h⟩:=h;exact⟨v,h.row,h.b6,h.dd,h.cI,h.tab,h.b5,h.sto,h.bF,h.gt⟩
def HI.setNd' (h:HI w own P H) {s:Nat} {p:Nd} (d:Fr (OS own (fun t=>t=.nd s j)) w w') (f:Ext own own' w.heap.size) (v:∀ b,own' b≠B0->b<w'.heap.size)
  (A:Sl w' own' (.nd s j) (P.gn s j) p):HI w' own' P (H.aq s j p):=by
 refine⟨v,h.hs.aP d f (fun t u=>by rintro rfl;rcases u with h|h|h|h <;> cases h),fun k q=>?_,fun k i q z=>?_,fun k D B=>(h.tx k D B).aP d f (by simp) (by simp)⟩
 ·have:=(h.sh k q).aP d f (fun t u=>by rintro rfl;rcases u with h|h|h|h|h <;> cases h);show PJ w' own' H.n k (P.gs k) (P.gn k) (Af H.sh s { H.sh s with nd:=Af (H.sh s).nd j p } k);by_cases e:k=s
  ·subst e;rw[An];exact this.aq _
  ·rw[As e];exact this
 ·show Sl w' own' (.nd k i) (P.gn k i) ((Af H.sh s { H.sh s with nd:=Af (H.sh s).nd j p } k).nd i);by_cases e:k=s
  ·subst e;rw[An];show Sl w' own' (.nd k i) (P.gn k i) (Af (H.sh k).nd j p i);by_cases y:i=j
   ·subst y;rw[An];exact A
   ·rw[As y];exact(h.nd k i q z).aP d f (fun c=>by injection c with _ c;exact y c)
  ·rw[As e];exact(h.nd k i q z).aP d f (fun c=>by injection c with c;exact e c)
def HI.setHs' (h:HI w own P H) {net':AW} {time':Int} (i:Fr (OS own M6) w w') (p:Ext own own' w.heap.size) (d:∀ b,own' b≠B0->b<w'.heap.size)
  (q:HsC w' own' P H.c H.m net' time'):HI w' own' P { H with net:=net',ag:=time' }:=
 ⟨d,q,fun k f=>(h.sh k f).aP i p (fun t s c=>by rcases s with h|h|h|h|h <;> subst h <;> rcases c with h|h|h|h <;> cases h),
  fun k j f u=>(h.nd k j f u).aP i p (fun c=>by rcases c with h|h|h|h <;> cases h),fun k y v=>(h.tx k y v).aP i p (fun c=>by rcases c with h|h|h|h <;> cases h) (fun c=>by rcases c with h|h|h|h <;> cases h)⟩
def HI.cQ (h:HI w own P H) (f:Nat->Bl) (p:∀ i,1<=i->i<=H.m->f i=H.tx i):HI w own P { H with tx:=f }:=
 ⟨h.lt,h.hs,h.sh,h.nd,fun i d c=>by show SU w own i (P.gt i) (f i);rw[p i d c];exact h.tx i d c⟩
end
def names:List Sx:=[[97],[98],[99],[100]]
def Ea (h:x∈names):x.length<=20:=by
 unfold names at h;simp only[X4,XX,or_false] at h;rcases h with rfl|rfl|rfl|rfl <;> decide
structure EA (k:Kx):Prop where
 hold:∀ o m,k.h o=Bs m->1<=o/\o<=60
 wait:∀ w∈k.ws,1<=w.1/\w.1<=60
 sort:k.ws.Pairwise (·.1 < ·.1)
def Da (T:Tb):Prop:=∀ x k,T x=Bs k->x∈names/\EA k
def Da.none_:Da (fun _=>B0):=fun _ _ h=>by cases h
def EA.zero:EA k0:=⟨fun _ _ h=>(nomatch h),fun _ h=>(nomatch h),Yk⟩
def Da.at_ (h:Da T) (x:Sx):EA (Ac T x):=by
 unfold Ac;cases e:T x with
 | none=>exact EA.zero
 | some k=>exact(h x k e).2
def q7t (ok:Int->Prop):∀ (ws left:List (Int×Int)) (h:Int->Option Int),(∀ o m,h o=Bs m->ok o)->(∀ w∈left++ws,ok w.1)->(left++ws).Pairwise (·.1 < ·.1)->
  (∀ o m,(Do h left ws).1 o=Bs m->ok o)/\(∀ w∈(Do h left ws).2.1,w∈left++ws)/\(Do h left ws).2.1.Pairwise (·.1 < ·.1)
 | [],left,h,p,_,i=>by rw[q32];exact⟨p,fun w s=>List.mem_append_left _ s,by simpa using i⟩
 | w::ws,left,h,p,h2,i=>by
  rcases q:Ai h w.1 w.2 left with _|_
  ·rw[q7u q];have e:left++w::ws=(left++[w])++ws:=by simp
   rw[e] at h2 i;obtain⟨a,b,c⟩:=q7t ok ws (left++[w]) h p h2 i;exact⟨a,fun v f=>by rw[e];exact b v f,c⟩
  ·rw[q6g q];have d:(left++ws).Sublist (left++w::ws):=List.Sublist.append_left (List.sublist_cons_self _ _) left;obtain⟨a,b,c⟩:=q7t ok ws left (Au h w.1 w.2) (fun o m e=>by
    unfold Au Be at e;split at e
    ·rename_i u;rw[u];exact h2 w (by simp)
    ·exact p o m e) (fun v f=>h2 v (d.subset f)) (i.sublist d)
   exact⟨a,fun v f=>d.subset (b v f),c⟩
def EA.rel (h:EA k) (tx:Int):EA (B5 k tx).1:=by
 have hs:(AC k.ws tx).Sublist k.ws:=List.filter_sublist;obtain⟨a,b,c⟩:=q7t (fun o=>1<=o/\o<=60) (AC k.ws tx) [] (Be k.h tx B0) (fun o m e=>by
  unfold Be at e;split at e
  ·cases e
  ·exact h.hold o m e) (fun w d=>h.wait w (hs.subset (by simpa using d))) (by simpa using h.sort.sublist hs)
 exact⟨a,fun w d=>h.wait w (hs.subset (by simpa using b w d)),c⟩
def Da.rel (h:Da T) (tx:Int):Da (Bj T tx):=fun x k d=>by
 unfold Bj at d;cases e:T x with
 | none=>rw[e] at d;cases d
 | some k0=>
  rw[e] at d;have c:E2 k0 tx=Bs k:=d;unfold E2 at c;split at c
  ·cases c
  ·injection c with c;rw[<- c];exact⟨(h x k0 e).1,(h x k0 e).2.rel tx⟩
def Da.put (h:Da T) (c:x∈names) (d:EA k):Da (Ao T x (Bs k)):=fun y k' e=>by
 unfold Ao at e;split at e
 ·rename_i f;injection e with e;rw[f,<- e];exact⟨c,d⟩
 ·exact h y k' e
def Da.lock (h:Da T) (p:1<=tx/\tx<=60) (i:x∈names) (mode:Int):Da (Am T tx x mode):=by
 have d:=h.at_ x;unfold Am;rcases f:Ch (Ac T x).ws tx with _|_
 ·rw[if_neg (by simp)];rcases u:Ai (Ac T x).h tx mode (Ac T x).ws with _|_
  ·rw[if_neg (by simp)];split
   ·exact h
   ·refine h.put i ⟨d.hold,fun w c=>?_,q6n d.sort (fun v q=>?_)⟩
    ·rcases q50.1 c with rfl|c
     ·exact p
     ·exact d.wait w c
    ·unfold Ch at f;rw[Xp] at f;have:=f v q;simpa using this
  ·rw[if_pos rfl];refine h.put i ⟨fun o m e=>?_,d.wait,d.sort⟩;have e:Au (Ac T x).h tx mode o=Bs m:=e;unfold Au Be at e;split at e
   ·rename_i s;rw[s];exact p
   ·exact d.hold o m e
 ·rw[if_pos rfl];exact h
def Dq:List Int:=(WS 61).map Int.ofNat
def Px {o:Int} (d:0<=o) (c:o<=60):o∈Dq:=List.mem_map.2 ⟨o.toNat,List.mem_range.2 (by omega),by show(o.toNat:Int)=o;omega⟩
def Tu:Dq.length=61:=by unfold Dq;simp
def bs4:List ByteArray:=names.map fun x=>⟨x.toArray⟩
def Nk (h:sx s∈names):s∈bs4:=List.mem_map.2 ⟨sx s,h,Jl s⟩
section
variable {w w':D0} {base n g off:Nat} {ty:VV} {cs:Array O0}
def AB.tight {mb:Option Nat} {loc:Sx->Ar} {T:Tb} (h:AB w base n g off ty cs mb loc T) (i:Da T):AB w base 100 g off ty cs mb loc T:=by
 refine⟨h.ak,h.c0,?_,fun x k p=>?_,h.apart,h.small,h.ne,h.cN,h.cd,h.bg⟩
 ·have f:=h.map;unfold J9 at f ⊢;rcases mb with _|b
  ·exact f
  ·refine(Ab.tight (C:=kS) f bs4 (fun s _ hs=>Nk ?_)).mono (by decide);unfold Bf at hs;cases e:T (sx s) with
   | none=>rw[e] at hs;exact absurd rfl hs
   | some k=>exact(i _ _ e).1
 ·have c:=h.keys x k p;have d:=(i x k p).2;refine⟨c.ak,(c.holds.tight Dq (fun o _ q=>?_)).mono (by rw[Tu];omega),c.row,c.log,c.loh,c.cY,c.okw,c.len⟩;cases e:k.h o with
  | none=>exact absurd (by unfold hM;rw[e];rfl) q
  | some m=>have:=d.hold o m e;exact Px (by omega) this.2
def Db (K:Kp):Prop:=∀ x v,v∈K x->x∈names/\0<=v.t/\v.t<=60
def Db.none_:Db (fun _=>[]):=fun _ _ h=>by cases h
def Db.len {K:Kp} (h:Db K) (hs:∀ x,FF (K x)) (x:Sx):(K x).length<=61:=by
 have d:((K x).map (·.t)).length<=Dq.length:=by
  refine WI ?_ (fun t f=>?_)
  ·rw[Yw,W8];exact(hs x).imp (fun h e=>by omega)
  ·obtain⟨v,c,rfl⟩:=List.mem_map.1 f;exact Px (h x v c).2.1 (h x v c).2.2
 rw[We,Tu] at d;exact d
def BY.tight {mb:Option Nat} {loc:Sx->O0} {K:Kp} {low:Int} (h:BY w base n g off ty cs mb loc K low) (d:Db K):BY w base 100 g off ty cs mb loc K low:=by
 refine⟨h.ak,h.c0,h.c1,h.ne,?_,h.rows,h.apart,h.small,h.times,h.sorted,fun x=>VO (d.len h.sorted x) (by omega),h.cU,h.dj,h.cN,h.lo⟩;have c:=h.map;unfold VB at c ⊢;rcases mb with _|b
 ·exact c
 ·refine(Ab.tight (C:=kV) c bs4 (fun s _ hs=>Nk ?_)).mono (by decide);unfold D5 at hs;rcases e:K (sx s) with _|⟨v,l⟩
  ·rw[e] at hs;exact absurd rfl hs
  ·exact(d (sx s) v (by rw[e];exact VH ..)).1
def Db.put {K:Kp} (h:Db K) {r:Rx} (d:r.key∈names) (i:0<=r.t) (f:r.t<=60):Db (Cv K 0 r).2:=by
 unfold Cv;split
 ·exact h
 ·split
  ·exact h
  ·split
   ·exact h
   ·split
    ·exact h
    ·intro x v c;have c:v∈BS K r.key (Cn (K r.key) (Ii r)) x:=c;unfold BS at c;split at c
     ·rename_i e;rw[e];rcases q79.1 c with rfl|c
      ·exact⟨d,i,f⟩
      ·exact h _ v c
     ·exact h x v c
def Sc (p:Pr):Prop:=sx p.key∈names/\p.val.size<=40
def Db.puts {t:Int} (d:0<=t) (c:t<=60):∀ (ps:List Pr) {K:Kp},Db K->(∀ p∈ps,Sc p)->Db (CM K t ps)
 | [],_,h,_=>h
 | p::ps,K,h,hp=>Db.puts d c ps (h.put (r:=⟨sx p.key,sx p.val,p.gone,t⟩) (hp p (VH ..)).1 d c) (fun q f=>hp q (VI _ f))
structure DO (c:Cm):Prop where
 tx:1<=c.tx/\c.tx<=60
 ag:0<=c.ag/\c.ag<=60
 br:c.ad.length<=20
 ps:∀ p∈c.ad,Sc p
def Db.comm {c:Cm} (d:DO c):∀ (l:List Cm) {K:Kp},Db K->(∀ a∈l,DO a)->Db (Bk K l c)
 | [],_,h,_=>h
 | a::l,K,h,hl=>by
  show Db (Bk (if a.ai=2/\a.tx=c.tx then CM K c.ag a.ad else K) l c);refine Db.comm d l ?_ (fun b f=>hl b (VI _ f));split
  ·exact Db.puts d.ag.1 d.ag.2 _ h (hl a (VH ..)).ps
  ·exact h
def Da.prep {tx:Int} (c:1<=tx/\tx<=60):∀ (ps:List Pr) {T:Tb},Da T->(∀ p∈ps,Sc p)->Da (Cx T tx ps)
 | [],_,h,_=>h
 | p::ps,T,h,hp=>Da.prep c ps (h.lock c (hp p (VH ..)).1 2) (fun q d=>hp q (VI _ d))
def FH {i:Int} (p:-1000000<=i) (f:i<=1000000):EW i:=by
 simp only[EW,Lit.wf,Bool.and_eq_true,decide_eq_true_eq];have d:IntKind.i64.min = -9223372036854775808:=by decide
 have c:IntKind.i64.max=9223372036854775807:=by decide
 rw[d,c];omega
end
end Go.Proofs.YtccahlhdifadfaaGreatDoor
