/- Part 2 of the texts that the claim rests on (of 9): Ch6, Ch7, Ch8, Ch9, Net4, Net5, Net6, Net7, Net8, LkP, MvP, RangeG, InsV, Mv1, BsfV, Lk1, Lk2, Lk3, Lk4, Lk5, InsW, BsfW, Lk6. -/
import Derived.Test.YtccahlhdifadfaaGreatDoorPk00
import Derived.StillTailTactics
import Derived.Laws.Cover3
import Derived.Carry
import Derived.IntWalk
import Derived.Test.YtccahlhdifadfaaGreatDoorRows
import Derived.Deep.CutBlock
import Derived.Lib.Hide
import Derived.Deep.QuietTactic
import Derived.BigQuiet
namespace Go.Proofs.YtccahlhdifadfaaGreatDoor
open Go.RowKit
open _root_.And renaming intro → Wm
open _root_.Array renaming getElem?_setIfInBounds_ne → We, length_toList → Ws, getElem?_eq_none → WX
open _root_.Bool renaming false → Jx, true → T2, and_eq_true → Wq, eq_iff_iff → XI, not_eq_true → XX, false_eq_true → XY, true_and → YD
open _root_.Classical renaming byContradiction → Wl
open _root_.Go renaming World → B1, Value → Hi, TypeId → VQ, Calls → VX, maxLen → VZ, Ending → WA, Program → WQ, Addr → Xb, callFunc → XP, zeroValue → X5, wpList → Yb
open _root_.Go.Act renaming eval → Xg, put → Xj
open _root_.Go.Addr renaming add_lit → WJ
open _root_.Go.Addr.mk renaming injEq → W7
open _root_.Go.Instr renaming lookup → XH, slice → Yw
open _root_.Go.IntWalk renaming i64_in → V8
open _root_.Go.Result renaming andThen → WV
open _root_.Go.RowKit renaming Below → VJ, wrap64 → Xa, run_makeMap → YK
open _root_.Go.RowKit.Below renaming refl → S2
open _root_.Go.Value renaming ownBlock → V4, int → Wi, slice → WI
open _root_.Go.World renaming ownsRow_nil → VY, block_lt_of_cell? → V0, setCell_alloc_past → Yl, drew → Ym
open _root_.Int renaming le_refl → Xk, toNat_natCast → XD
open _root_.List renaming getElem?_cons_zero → D0, getElem?_toArray → Ft, getElem?_eq_getElem → K0, getElem?_cons_succ → N2, mem_of_getElem? → O0, flatMap_cons → VI, mem_cons_self → VL, mem_cons_of_mem → VM, length_append → VP, findIdx?_eq_some_iff_getElem → VR, getElem?_map → VT, take_of_length_le → VU, take_add_one → VV, mem_singleton → VW, getElem?_append_left → Wc, getElem?_append_right → Wd, findIdx?_eq_none_iff → Wk, flatMap_append → Wx, length_take → Wz, mem_of_mem_take → WB, length_filter_le → WD, range' → WG, takeWhile_append_dropWhile → WK, append_nil → WM, take_succ_cons → WU, length_drop → W8, drop_succ_cons → Xd, drop_drop → Xi, takeWhile_prefix → Xm, mem_append → Xs, mem_take_iff_getElem → Xy, any_eq_false → XC, mem_cons → XZ, mem_of_mem_drop → X0, drop_of_length_le → Ya, getElem?_drop → Yd, takeWhile_cons → Yp, pairwise_cons → Yx, mergeSort_perm → YT
open _root_.List.Pairwise renaming filter → X1
open _root_.Nat renaming le_refl → L1, lt_of_lt_of_le → VH, zero_le → VK, le_trans → VO, zero_add → Wg, add_sub_cancel → W1, lt_or_ge → W9, sub_mul → YJ
open _root_.Option renaming some → Bs, none → B0
open _root_.Option.some renaming injEq → VN, inj → Wj
set_option linter.all false
set_option maxRecDepth 100000
set_option maxHeartbeats 16000000
def CP (x:Int) (l:List Int):Int:=match l.findIdx? (fun y=>x == y) with|some i=>(i:Int)|none=>-1
def IxRel (x:Int) (L:List Int) (n:Nat) (w:B1) (v:Hi) (wr:B1):Prop:=∃ j:Nat,v=.int .i64 j/\j<=n/\(∀ y∈L.take j,(x == y)=Jx)/\w=wr
theorem rd1 {w:B1} {B n j:Nat} {A:Option Xb} {l:List Int} (h:Rd w B 1 A n (l.map (Wi .i64))) (i:j<n):∃ g off x,A=Bs ⟨g,off,B0⟩/\g<B/\l[j]? = Bs x/\w.cell? ⟨g,off+j,B0⟩=Bs (.int .i64 x):=by
 obtain⟨g,off,u,q,k,c,p⟩:=h.bQ i;rw[VT] at c;rcases f:l[j]? with _|x
 ·rw[f] at c;cases c
 ·rw[f] at c;obtain rfl:=Wj c;exact⟨g,off,x,q,k,rfl,p⟩
theorem Mi (x:Int) (A:Option Xb) (n k:Nat) (L:List Int) (w:B1) (H:Rd w w.heap.size 1 A n (L.map (Wi .i64))) (R:L.length=n) (O:n<=100000) :
  VX Tryz.prog 106 #[.slice A n k,.int .i64 x] w fun e w'=>e=.returned (.int .i64 (CP x L))/\w=w':=by
 have M:=LH H;clear H;go_enter Tryz.func106,Tryz.ntmps106;go_wp2_with fail;go_loopw [8] (IxRel x L n w) (fun v _=>n-(intOf v).toNat)
 case atStart=>exact⟨0,rfl,VK _,(fun y I=>by simp at I),rfl⟩
 case round=>
  obtain⟨j,rfl,S,s,rfl⟩:=hrel;by_cases J:(j:Int)<n
  ·obtain⟨X,N,y,rfl,K,G,W⟩:=rd1 M.o (j:=j) (by omega);have u:j<L.length:=by omega
   have q:(x == y)=T2->CP x L=j:=fun B=>by
    have:L.findIdx? (fun y=>x == y)=Bs j:=by
     rw[VR];refine⟨u,?_,fun i U=>?_⟩
     ·rw[<- Wj ((K0 u).symm.trans G)] at B;exact B
     ·simp only[XX];exact s _ (by rw[Xy];exact⟨i,by omega,rfl⟩)
    unfold CP;rw[this]
   have c:(x == y)=Jx->∀ z∈L.take (j+1),(x == z)=Jx:=fun B z p=>by
    rw[VV,G] at p;rcases List.mem_append.1 p with p|p
    ·exact s z p
    ·rw[Option.toList_some,VW] at p;rw[p];exact B
   have E:=LH q;clear q;have F:=LH c;clear c;cases t:(x == y)
   ·have hs:=F.o t;have h:=LH hs;clear hs F E;go_wp2_with fail;go_roundw
    case rel=>exact⟨j+1,rfl,by omega,h.o,rfl⟩
    case measure=>simp[intOf];omega
   ·have hs:=E.o t;have h:=LH hs;clear hs F E;go_wp2_with fail;go_ret;exact⟨by rw[h.o];rfl,rfl⟩
  ·have f:CP x L = -1:=by
    have:L.findIdx? (fun y=>x == y)=B0:=by
     rw[Wk];intro z p;exact s z (by rw[VU (by omega)];exact p)
    unfold CP;rw[this]
   have h:=LH f;clear f;go_wp2_with fail;go_ret;exact⟨by rw[h.o];rfl,rfl⟩
theorem U8 {P:WQ} {f:FuncId} {i:Func} {c:Code} (j:P.funcs[f]? = Bs i) (h:(i.name == "runtime.NumGoroutine")=Jx) (k:i.body=Bs c):∀ (args:Array Hi) (w:B1),(XP f args).run P w=.ok (.enter f args) w:=by
 intro args w;have p:i.name ≠ "runtime.NumGoroutine" := by simpa using h
 simp[XP,j,p,k,mark]
def CT (l:List Int):Int->Option Hi:=fun i=>if i∈l then Bs (.bool T2) else B0
theorem Ow (l:List Int) (x:Int):AU (CT l) x (Bs (.bool T2))=CT (l++[x]):=by
 funext t;unfold AU CT;by_cases e:t=x
 ·subst e;simp
 ·simp[e]
def TwP (mb n:Nat) (l:List Int) (x:Int) (w:B1) (e:WA) (w':B1):Prop:=e=.returned (.bool Jx)/\Aa BC w' mb (n+1) (CT (l++[x]))/\Fr (fun k=>k=mb) w w'
theorem TY (x:Int) (c mb n:Nat) (l:List Int) (w:B1) (s:w.cell? ⟨c,0,B0⟩=Bs (.map (Bs mb))) (k:Aa BC w mb n (CT l)) (q:E3 x) (z:n<1000000) (j:x ∉ l) :
  VX Tryz.prog 125 #[.int .i64 x,.pointer (Bs ⟨c,0,B0⟩)] w (TwP mb n l x w):=by
 have p:(X5 4).run Tryz.prog w=.ok (.bool Jx) w:=by kernel_rfl
 have h:=(k.look Tryz.underlying60 p (x:=x) q).2;rw[show CT l x=B0 from if_neg j,show BC.val x=Wi .i64 x from rfl] at h;simp only[Option.getD_none] at h;have u:=V0 w _ s;have v:=LH k;clear k;clear p;go_enter Tryz.func125,Tryz.ntmps125;go_wp2_with (at_mapUpdate;refine stop ?_)
 refine Cn ?_;refine TF (C:=BC) rfl 60 4 Tryz.underlying60 (.tmp 8) (.tmp 9) _ rfl rfl v.o (by unfold VZ;omega) x (.bool T2) rfl rfl q ?_;intro t f i;rw[Ow] at f;have y:=LH (show TwP mb n l x w (.returned (.bool Jx)) t from⟨rfl,f,i⟩);clear f i h s;go_wp2_with fail;go_ret;exact y.o
def SV (L:List Int) (n c mb:Nat) (w:B1) (v:Hi) (wr:B1):Prop:=∃ j:Nat,v=.int .i64 j/\j<=n/\Aa BC wr mb j (CT (L.take j))/\Fr (fun k=>k=mb) w wr
theorem TW (A:Option Xb) (n k c mb:Nat) (L:List Int) (w:B1) (W:Rd w w.heap.size 1 A n (L.map (Wi .i64))) (hl:L.length=n) (hn:n<=1000) (X:w.cell? ⟨c,0,B0⟩=Bs (.map (Bs mb))) (t:Aa BC w mb 0 (CT [])) (B:L.Nodup) (u:∀ x∈L,E3 x) (Y:∀ g o,A=Bs ⟨g,o,B0⟩->0<n->g≠mb) (M:c≠mb) :
  VX Tryz.prog 143 #[.slice A n k,.func (.func 125) #[] #[.pointer (Bs ⟨c,0,B0⟩)]] w fun e w'=>e=.returned (.int .i64 (-1))/\Fr (fun k=>k=mb) w w':=by
 have HR:=LH W;clear W;have J:=LH (show SV L n c mb w (.int .i64 (0:Nat)) w from⟨0,rfl,VK _,by simpa using t,Fr.refl _ _⟩);have eg:=U8 Tryz.func125 (by kernel_rfl) rfl;have R:=LH u;clear u;have S:=LH B;clear B;have HA:=LH Y;clear Y;have HC:=LH X;clear X;clear t;go_enter Tryz.func143,Tryz.ntmps143;go_wp2_with fail;go_loopw [8] (SV L n c mb w) (fun v _=>n-(intOf v).toNat)
 case atStart=>exact J.o
 case round=>
  clear J;obtain⟨j,rfl,hj,t,q⟩:=hrel;by_cases a0:(j:Int)<n
  ·obtain⟨O,U,y,rfl,F,K,h0⟩:=rd1 HR.o (j:=j) (by omega);have a1:O<wr.heap.size:=VH F q.size;have N:=(q.cell (p:=⟨O,U+j,B0⟩) F (HA.o O U rfl (by omega))).trans h0;have H:=V0 w _ HC.o;have I:=(q.cell (p:=⟨c,0,B0⟩) H M).trans HC.o;have z:y ∉ L.take j:=fun hy=>by
    have Z:(L.take (j+1)).Nodup:=S.o.sublist (List.take_sublist _ _);rw[VV,K] at Z;exact(List.nodup_append.1 Z).2.2 y hy y (by simp) rfl
   have h:=TY y c mb j (L.take j) wr I t (R.o y (O0 K)) (by omega) z;have i:=LH h;clear h h0 I H;have HX:=LH K;clear K z;have s:=LH q;clear q t;go_wp2_with fail;refine i.o.mono ?_;rintro e w2 ⟨rfl,E,G⟩;have f:SV L n c mb w (.int .i64 ((j+1:Nat):Int)) w2:=⟨j+1,rfl,by omega,by rw[VV,HX.o];exact E,s.o.trans G⟩
   have HF:=LH f;clear f E G N i;go_wp2_with fail;go_roundw
   ·exact HF.o
   ·simp[intOf];omega
  ·have s:=LH q;clear q t;go_wp2_with fail;go_ret;exact⟨rfl,s.o⟩
theorem TX (A:Option Xb) (n k c mb:Nat) (L:List Int) (w:B1) (p:Rd w w.heap.size 1 A n (L.map (Wi .i64))) (v:L.length=n) (u:n<=1000) (s:w.cell? ⟨c,0,B0⟩=Bs (.map (Bs mb))) (q:Aa BC w mb 0 (CT [])) (h:L.Nodup) (f:∀ x∈L,E3 x) (t:∀ g o,A=Bs ⟨g,o,B0⟩->0<n->g≠mb) (i:c≠mb) :
  VX Tryz.prog 124 #[.slice A n k,.func (.func 125) #[] #[.pointer (Bs ⟨c,0,B0⟩)]] w fun e w'=>e=.returned (.bool Jx)/\Fr (fun k=>k=mb) w w':=by
 have y:=LH (TW A n k c mb L w p v u s q h f t i);clear p s q h f t;go_enter Tryz.func124,Tryz.ntmps124;go_wp2_with fail;refine y.o.mono ?_;rintro e z ⟨rfl,j⟩;go_wp2_with fail;go_ret;exact⟨rfl,j⟩
theorem Od (A:Option Xb) (n k:Nat) (L:List Int) (w:B1) (v:Rd w w.heap.size 1 A n (L.map (Wi .i64))) (F:L.length=n) (B:n<=1000) (j:L.Nodup) (f:∀ x∈L,E3 x) :
  VX Tryz.prog 104 #[.slice A n k] w fun e w'=>e=.returned (.bool Jx)/\VJ w.heap.size w w':=by
 have E:=@YK Tryz.prog;have z:∀ g o,A=Bs ⟨g,o,B0⟩->0<n->g≠w.heap.size:=fun g o e G=>by obtain⟨K,J,u,h,_⟩:=v.2 G;rw[e] at u;injection u with u;injection u with e1 e2;omega
 have c:VJ w.heap.size w ((w.alloc (.map #[] 0)).alloc (.cells #[.map (Bs w.heap.size)] 60)):=((S2 _ _).alloc (L1 _) _).alloc (by simp) _;have p:Aa BC ((w.alloc (.map #[] 0)).alloc (.cells #[.map (Bs w.heap.size)] 60)) w.heap.size 0 (CT []):=by
  have:=(Aa.made BC w).alloc (.cells #[.map (Bs w.heap.size)] 60);rw[show CT []=fun _=>B0 from by funext i;simp[CT]];exact this
 have q:Ab ((w.alloc (.map #[] 0)).alloc (.cells #[.map (Bs w.heap.size)] 60)) (w.heap.size+1) 60 #[.map (Bs w.heap.size)]:=by
  have:=Ab.new (w.alloc (.map #[] 0)) 60 #[.map (Bs w.heap.size)];rw[show(w.alloc (.map #[] 0)).heap.size=w.heap.size+1 by simp] at this;exact this
 have H:=LH (TX A n k (w.heap.size+1) w.heap.size L _ ((v.below c).more c.size) F B (q.cell 0) p j f z (by omega));have t:=LH c;clear c p q z j f v;go_enter Tryz.func104,Tryz.ntmps104;go_wp2_with fail;refine H.o.mono ?_;rintro e I ⟨rfl,s⟩;have y:=LH (t.o.trans (s.below (fun b (e:b=w.heap.size)=>by omega) t.o.size));clear s;go_wp2_with fail;go_ret;exact⟨rfl,y.o⟩
def Nd.fresh (id:Int):Nd:=⟨id,0,[],-1,[],0⟩
theorem UF (base:Nat) (id:Int) (w:B1) (f:base<=w.heap.size):VX Tryz.prog 44 #[.int .i64 id] w fun e w'=>e=.returned (.pointer (Bs ⟨w.heap.size,0,B0⟩))/\BI w' base w.heap.size (.slice B0 0 0) (.slice B0 0 0) [] (Nd.fresh id)/\VJ w.heap.size w w'/\w'.heap.size=w.heap.size+1:=by
 have c:BI (w.alloc (.cells #[.int .i64 id,.int .i64 0,.slice B0 0 0,.int .i64 (-1),.slice B0 0 0,.int .i64 0] 150)) base w.heap.size (.slice B0 0 0) (.slice B0 0 0) [] (Nd.fresh id):=
  ⟨Ab.new w _ _,VY _ _ _ _,VY _ _ _ _,fun _ h=>(nomatch h),rfl,VK _,VK _,Xk _,(show(-1:Int)<((0:Nat):Int) by decide),Xk _,(show(0:Int)<=500 by decide),f⟩
 have i:=LH c;clear c;have j:=LH (show VJ w.heap.size w (w.alloc (.cells #[.int .i64 id,.int .i64 0,.slice B0 0 0,.int .i64 (-1),.slice B0 0 0,.int .i64 0] 150)) from(S2 _ _).alloc (L1 _) _);go_enter Tryz.func44,Tryz.ntmps44;go_wp2_with fail;go_ret;exact⟨rfl,i.o,j.o,by simp⟩
structure E6 (w:B1) (base g:Nat) (C V:Hi) (L:List Bt) (d:Nd):Prop where
 ah:Ab w g 150 #[.int .i64 d.id,.int .i64 d.ab,C,.int .i64 d.at_,V,.int .i64 d.ao]
 bw:w.ownsRow base 3 1 C d.nodes.length (d.nodes.map (Wi .i64))
 row:w.ownsRow base 69 4 V L.length (L.flatMap DX)
 own:∀ x∈L,EJ w base x
 log:AM L=d.log
 len:L.length<=500
 bf:d.nodes.length<=6
 st0:0<=d.ao
 st1:d.ao<=500
 lo:base<=g
section
variable {w w':B1} {base g:Nat} {C C' V:Hi} {L:List Bt} {d:Nd}
theorem BI.toJ (h:BI w base g C V L d):E6 w base g C V L d:=⟨h.ah,h.bw,h.row,h.own,h.log,h.len,h.bf,h.st0,h.st1,h.lo⟩
theorem E6.toI (h:E6 w base g C V L d) (f:-1<=d.at_) (c:d.at_<d.nodes.length):BI w base g C V L d:=⟨h.ah,h.bw,h.row,h.own,h.log,h.len,h.bf,f,c,h.st0,h.st1,h.lo⟩
theorem E6.fr {S:Nat->Prop} (h:E6 w base g C V L d) (i:Fr S w w') (f:∀ b,CJ g C V L b->¬S b):E6 w' base g C V L d:=
 ⟨i.ah h.ah (f g (.inl rfl)),i.own h.bw (fun b c=>f b (.inr (.inl c))),i.own h.row (fun b c=>f b (.inr (.inr (.inl c)))),
  fun x j=>⟨i.own (h.own x j).1 (fun b c=>f b (.inr (.inr (.inr ⟨x,j,c⟩)))),(h.own x j).2⟩,h.log,h.len,h.bf,h.st0,h.st1,h.lo⟩
theorem E6.av (h:E6 w base g C V L d) {b:Nat} (c:CJ g C V L b):base<=b/\b<w.heap.size:=by
 rcases c with rfl|c|c|⟨x,f,c⟩
 ·exact⟨h.lo,h.ah.lt⟩
 ·exact h.bw.lt b c
 ·exact h.row.lt b c
 ·exact(h.own x f).1.lt b c
theorem E6.a8 (h:E6 w base g C V L d) (c:VJ w.heap.size w w'):E6 w' base g C V L d:=
 h.fr (S:=fun b=>w.heap.size<=b) ⟨c.os,c.tape,c.output,c.size,fun i _ j=>c.block i (by omega)⟩ (fun b f k=>by have:=(h.av f).2;omega)
theorem E6.bS (h:E6 w base g C V L d) {b:Nat} (c:C.ownBlock=Bs b\/V.ownBlock=Bs b\/∃ x∈L,(WI x.A x.n x.k).ownBlock=Bs b):b≠g:=by
 rintro rfl;rcases c with c|c|⟨x,f,c⟩
 ·exact Be h.bw h.ah (by decide) c
 ·exact Be h.row h.ah (by decide) c
 ·exact Be (h.own x f).1 h.ah (by decide) c
theorem E6.conf_ (h:E6 w base g C V L d) (e:Int) (f:List Int) (p:w.ownsRow base 3 1 C' f.length (f.map (Wi .i64))) (q:f.length<=6) :
  E6 ((w.setCell ⟨g,1,B0⟩ (.int .i64 e)).setCell ⟨g,2,B0⟩ C') base g C' V L { d with ab:=e,nodes:=f }:=by
 have j:Fr (fun k=>k=g) w ((w.setCell ⟨g,1,B0⟩ (.int .i64 e)).setCell ⟨g,2,B0⟩ C'):=(Fr.ax g w 1 _).trans (Fr.ax g _ 2 _);refine⟨by simpa using (h.ah.aC 1 (.int .i64 e)).aC 2 C',j.own p (fun b c e=>Be p h.ah (by decide) (e▸c)),j.own h.row (fun b c e=>h.bS (.inr (.inl c)) e),fun x i=>⟨j.own (h.own x i).1 (fun b c e=>h.bS (.inr (.inr ⟨x,i,c⟩)) e),(h.own x i).2⟩,h.log,h.len,q,h.st0,h.st1,h.lo⟩
theorem E6.at' (h:E6 w base g C V L d) (a:Int):E6 (w.setCell ⟨g,3,B0⟩ (.int .i64 a)) base g C V L { d with at_:=a }:=by
 have i:=Fr.ax g w 3 (.int .i64 a);refine⟨by simpa using h.ah.aC 3 (.int .i64 a),i.own h.bw (fun b c e=>h.bS (.inl c) e),i.own h.row (fun b c e=>h.bS (.inr (.inl c)) e),fun x f=>⟨i.own (h.own x f).1 (fun b c e=>h.bS (.inr (.inr ⟨x,f,c⟩)) e),(h.own x f).2⟩,h.log,h.len,h.bf,h.st0,h.st1,h.lo⟩
theorem E6.clear_ (h:E6 w base g C V L d):E6 ((w.setCell ⟨g,4,B0⟩ (.slice B0 0 0)).setCell ⟨g,5,B0⟩ (.int .i64 0)) base g C (.slice B0 0 0) [] { d with log:=[],ao:=0 }:=by
 have f:Fr (fun k=>k=g) w ((w.setCell ⟨g,4,B0⟩ (.slice B0 0 0)).setCell ⟨g,5,B0⟩ (.int .i64 0)):=(Fr.ax g w 4 _).trans (Fr.ax g _ 5 _);refine⟨by simpa using (h.ah.aC 4 (.slice B0 0 0)).aC 5 (.int .i64 0),f.own h.bw (fun b i e=>h.bS (.inl i) e),VY _ _ _ _,fun x c=>(nomatch c),rfl,VK _,h.bf,Xk _,(show(0:Int)<=500 by decide),h.lo⟩
end
def Nd.join (d:Nd) (e:Int) (c:List Int):Nd:=if d.at_<0 then⟨d.id,e,c,CP d.id c,[],0⟩ else⟨d.id,e,c,CP d.id c,d.log,d.ao⟩
theorem UV {x:Int} {l:List Int} (h:x∈l):0<=CP x l/\CP x l<l.length:=by
 unfold CP;rcases c:l.findIdx? (fun y=>x == y) with _|i
 ·rw[Wk] at c;have:=c x h;simp at this
 ·rw[VR] at c;obtain⟨f,_⟩:=c;simp only;omega
section
variable {w w':B1} {base g:Nat} {C V:Hi} {L:List Bt} {d:Nd}
def BecP (base g:Nat) (C V:Hi) (L:List Bt) (d:Nd) (e:Int) (c:List Int) (w:B1) (k:WA) (w':B1):Prop:=
 ∃ h j f i,k=.returned (.tuple #[h,.nilIface])/\By w.heap.size (d.join e c).tick.2 h w'/\BI w' base g j f i (d.join e c).tick.1/\Fr (CJ g C V L) w w'/\∀ q,CJ g j f i q->CJ g C V L q\/w.heap.size<=q
theorem MK (h:BI w base g C V L d) (e:Int) (f:List Int) (A:Option Xb) (k:Nat) (hc:w.ownsRow base 3 1 (.slice A f.length k) f.length (f.map (Wi .i64))) (he:d.ab<e) (aK:f.length<=6) (ap:f.Nodup) (an:∀ x∈f,E3 x) (a9:d.id∈f) :
  VX Tryz.prog 75 #[.pointer (Bs ⟨g,0,B0⟩),.agg #[.int .i64 e,.slice A f.length k]] w (BecP base g C V L d e f w):=by
 have aV:0<f.length:=by rcases f with _|⟨a,l⟩;cases a9;simp
 have a5:VJ w.heap.size w (w.alloc (.cells #[.int .i64 e,.slice A f.length k] 148)):=(S2 _ _).alloc (L1 _) _;have h1:=h.a8 a5;have ar:=(Below.fr a5 (fun _=>False)).own hc (fun _ _ h=>h);have R:Ab (w.alloc (.cells #[.int .i64 e,.slice A f.length k] 148)) w.heap.size 148 #[.int .i64 e,.slice A f.length k]:=Ab.new w _ _;obtain⟨c0,c1,c2,c3,_,_,kl⟩:=h1.cells;have y0:=R.cell 0;have F:=R.cell 1;have yl:=R.lt;simp only[Ft,D0,N2] at y0 F;have aL:decide (e<=d.ab)=Jx:=decide_eq_false (by omega);have aP:=LH (fun q (E:CJ g C V L q)=>h.av E);clear h;have ai:=LH R;clear R;have aH:=LH ar;clear ar hc;have am:=LH a5;clear a5;have az:=LH h1;clear h1;have aN:=LH ap;clear ap;have aM:=LH an;clear an;have aO:=LH a9;clear a9;have aJ:(w.alloc (.cells #[.int .i64 e,.slice A f.length k] 148)).heap.size=w.heap.size+1:=by simp
 generalize ao:f.length=n at *;have B:=LH ao;clear ao;have aT:¬(n:Int)=0:=by omega
 have aU:¬(n:Int) > 6:=by omega
 go_enter Tryz.func75,Tryz.ntmps75;go_upto_region 1 with (fail)
 generalize (w.alloc _)=w1 at *;go_quiet (fail);have W:VJ w1.heap.size w1 (w1.drewN nq):=Cr (S2 _ _) _;have aq:=az.o.a8 W;have a2:=ai.o.below W ai.o.lt;have ac:=(Below.fr W (fun _=>False)).own aH.o (fun _ _ h=>h);have al:=LH (am.o.trans (W.mono am.o.size));clear c0 c1 c2 c3 y0 F yl kl ai aH az am aL W;generalize w1.drewN nq=w2 at *;clear aJ;have av:=LH (Od A n k f w2 (Rd.au ac) B.o (by omega) aN.o aM.o);have F:=a2.cell 1;have yl:=a2.lt;simp only[Ft,D0,N2] at F;have ay:=LH aq;clear aq;have ah:=LH a2;clear a2;have aG:=LH ac;clear ac;go_wp2_with fail;refine av.o.mono ?_;rintro en w3 ⟨rfl,X⟩;have a0:=ay.o.a8 X;have O:=ah.o.below X ah.o.lt;have ab:=(Below.fr X (fun _=>False)).own aG.o (fun _ _ h=>h);have ak:=LH (al.o.trans (X.mono al.o.size));clear F yl av ay ah aG al X;obtain⟨_,_,_,c3,_,_,kl⟩:=a0.cells;have y0:=O.cell 0;have F:=O.cell 1;have yl:=O.lt;simp only[Ft,D0,N2] at y0 F;have aD:=LH (MH base n (.slice A n k) f w3.drew ((Below.fr (S2 w3.heap.size w3).drew (fun _=>False)).own ab (fun _ _ h=>h)) (show base<=w3.heap.size by have:=a0.lo;omega) (by omega));have ax:=LH a0;clear a0;have ag:=LH O;clear O;have aF:=LH ab;clear ab;go_wp2_with fail;refine nW ?_;refine CU (fun w'=>w'.cell? ⟨w.heap.size,0,B0⟩=Bs (.int .i64 e)/\w'.cell? ⟨w.heap.size,1,B0⟩=Bs (.slice A n k)) 7 (fun _ _ _ _ _ h=>h) (fun j=>?_);have c:w3.drew.cell? ⟨w.heap.size,0,B0⟩=Bs (.int .i64 e)/\w3.drew.cell? ⟨w.heap.size,1,B0⟩=Bs (.slice A n k):=⟨y0,F⟩
 refine nF 0 j c ?_;refine nF 1 j c ?_;refine nB 2 rfl rfl j c (fun w' z=>by obtain⟨q0,q1⟩:=z;go_simp;rfl) ?_;refine nF 3 j c ?_;refine nB 4 rfl rfl j c (fun w' z=>by obtain⟨q0,q1⟩:=z;go_simp;rfl) ?_;refine nG 5 (fun y p=>?_);go_simp;refine aD.o.mono ?_;rintro en w4 ⟨A4,k4,rfl,H,au,M⟩;have v:VJ w3.heap.size w3 w4:=(S2 _ _).drew.trans au;have t:=ax.o.toJ.a8 v;have a1:=ag.o.below v ag.o.lt;have aa:=(Below.fr v (fun _=>False)).own aF.o (fun _ _ h=>h);have aQ:=LH (ak.o.trans (v.mono ak.o.size));have G:=LH (t.conf_ e f (by rw[B.o];exact H) (by rw[B.o];exact aK));have z1:=t.ah.cell 1;have z2:=t.ah.cell 2;have v1:=t.ah.frozen 1;have v2:=t.ah.frozen 2;have zl:=t.ah.lt;simp only[Ft,D0,N2] at z1 z2;have a4:Fr (fun k=>k=g) w4 ((w4.setCell ⟨g,1,B0⟩ (.int .i64 e)).setCell ⟨g,2,B0⟩ (.slice A4 n k4)):=(Fr.ax g w4 1 _).trans (Fr.ax g _ 2 _);have aI:w.heap.size≠g:=by have:=(aP.o g (.inl rfl)).2;omega
 have af:=LH (a4.ah a1 aI);have aE:=LH (a4.own aa (fun b hb (e:b=g)=>Be aa t.ah (by decide) (e▸hb)));have aC:=LH ((Below.fr aQ.o (CJ g C V L)).trans (a4.mono (fun i _ e=>.inl e)));have K:∀ b,(WI A4 n k4).ownBlock=Bs b->w.heap.size<=b:=fun b hb=>by have h1:w3.heap.size<=b:=M b hb;have:=ak.o.size;omega
 have aw:=LH K;have ad:=Wm (a1.cell 0) (a1.cell 1);clear t a4 M K au v H aa a1 aD c;go_simp;refine p _ _ (fun _=>ad) ?_;clear p y;refine nG 6 (fun y p=>?_);go_simp;refine p _ _ (fun _=>ad) ?_;clear p y;refine nG 7 (fun y p=>?_);go_simp;refine p _ _ nZ ?_;clear p y;refine nG 8 (fun y p=>?_);go_simp;refine p _ _ nZ ?_;clear p y;refine nG 9 (fun y p=>?_);go_simp;refine p _ _ nZ ?_;clear p y;refine nX ?_;clear j z1 z2 v1 v2 zl c3 kl y0 F yl ax ag aF ad;go_wp2_with fail;generalize ((w4.setCell _ _).setCell _ _)=w5 at *;have g0:=G.o.ah.cell 0;have F:=af.o.cell 1;have yl:=af.o.lt;have kl:=G.o.ah.lt;simp only[Ft,D0,N2] at g0 F;have aA:=LH (Mi d.id A n k f w5.drew (show Rd w5 w5.heap.size 1 A n (f.map (Wi .i64)) from Rd.au aE.o) B.o (by omega));have a3:=UV aO.o;rw[B.o] at a3;refine nW ?_;refine CU (fun w'=>w'.cell? ⟨g,0,B0⟩=Bs (.int .i64 d.id)/\w'.cell? ⟨w.heap.size,1,B0⟩=Bs (.slice A n k)) 8 (fun _ _ _ _ _ h=>h) (fun j=>?_);have c:w5.drew.cell? ⟨g,0,B0⟩=Bs (.int .i64 d.id)/\w5.drew.cell? ⟨w.heap.size,1,B0⟩=Bs (.slice A n k):=⟨g0,F⟩
 refine nF 0 j c ?_;refine nF 1 j c ?_;refine nB 2 rfl rfl j c (fun w' z=>by obtain⟨q0,q1⟩:=z;go_simp;rfl) ?_;refine nF 3 j c ?_;refine nF 4 j c ?_;refine nF 5 j c ?_;refine nB 6 rfl rfl j c (fun w' z=>by obtain⟨q0,q1⟩:=z;go_simp;rfl) ?_;refine nG 7 (fun y p=>?_);go_simp;refine aA.o.mono ?_;rintro en w6 ⟨rfl,rfl⟩;go_simp;refine p _ _ (fun _=>c) ?_;clear p y;have z3:=G.o.ah.cell 3;have v3:=G.o.ah.frozen 3;simp only[Ft,D0,N2] at z3;refine nG 8 (fun y p=>?_);go_simp;refine p _ _ nZ ?_;clear p y;refine nG 9 (fun y p=>?_);go_simp;refine p _ _ nZ ?_;clear p y;refine nG 10 (fun y p=>?_);go_simp;refine p _ _ nZ ?_;clear p y;refine nX ?_;clear j c aA g0 F yl af aE;have s:=LH ((G.o.at' (CP d.id f)).a8 (S2 _ _).drew);have aj:=LH ((aC.o.trans ((Fr.ax g w5 3 (.int .i64 (CP d.id f))).mono (fun i _ e=>.inl e))).drew);clear G aC z3 v3 kl;generalize a7:CP d.id f=ix at *;have a8:=LH a7;clear a7;have I:∀ q (V2:Hi) (L2:List Bt),(V2=V/\L2=L\/V2=.slice B0 0 0/\L2=[])->CJ g (.slice A4 n k4) V2 L2 q->CJ g C V L q\/w.heap.size<=q:=by
  rintro q V2 L2 hv (E|E|E|⟨x,hx,E⟩)
  ·exact .inl (.inl E)
  ·exact .inr (aw.o q E)
  ·rcases hv with ⟨rfl,rfl⟩|⟨rfl,rfl⟩
   ·exact .inl (.inr (.inr (.inl E)))
   ·cases E
  ·rcases hv with ⟨rfl,rfl⟩|⟨rfl,rfl⟩
   ·exact .inl (.inr (.inr (.inr ⟨x,hx,E⟩)))
   ·cases hx
 have Y:=LH I;clear I;generalize (World.setCell w5 _ _).drew=w6 at *;have z3:=s.o.ah.cell 3;have z4:=s.o.ah.cell 4;have z5:=s.o.ah.cell 5;have v4:=s.o.ah.frozen 4;have v5:=s.o.ah.frozen 5;have kl:=s.o.ah.lt;simp only[Ft,D0,N2] at z3 z4 z5;have aS:ix>=0:=a3.1;have aR:¬ix<0:=by omega
 by_cases a6:d.at_<0
 ·have S:d.join e f=⟨d.id,e,f,ix,[],0⟩:=by unfold Nd.join;rw[if_pos a6,a8.o]
  have Z:=LH (s.o.clear_.toI (show -1<=ix by omega) (show ix<f.length by rw[B.o];exact a3.2));have aB:=LH (aj.o.trans (((Fr.ax g w6 4 (.slice B0 0 0)).trans (Fr.ax g _ 5 (.int .i64 0))).mono (fun i _ e=>.inl e)));go_upto_region 10 with (fail)
  clear z3 z4 z5 v4 v5 kl s;generalize ((w6.setCell _ _).setCell _ _)=w7 at *;have z3:=Z.o.ah.cell 3;have kl:=Z.o.ah.lt;simp only[Ft,D0,N2] at z3;have ae:=LH (q89 Z.o);go_wp2_with fail;refine ae.o.mono ?_;rintro en w8 ⟨V1,rfl,J,N,U⟩;have u:BecP base g C V L d e f w (.returned (.tuple #[V1,.nilIface])) w8:=⟨V1,_,_,_,rfl,by rw[S];exact J.lower aB.o.size,by rw[S];exact N,aB.o.trans (U.mono (fun i _ e=>.inl e)),fun q E=>Y.o q _ _ (.inr ⟨rfl,rfl⟩) E⟩
  have HF:=LH u;clear u J N U;go_wp2_with fail;go_ret2;exact HF.o
 ·have S:d.join e f=⟨d.id,e,f,ix,d.log,d.ao⟩:=by unfold Nd.join;rw[if_neg a6,a8.o]
  have Z:=LH (s.o.toI (show -1<=ix by omega) (show ix<f.length by rw[B.o];exact a3.2));have ae:=LH (q89 Z.o);go_wp2_with fail;refine ae.o.mono ?_;rintro en w8 ⟨V1,rfl,J,N,U⟩;have u:BecP base g C V L d e f w (.returned (.tuple #[V1,.nilIface])) w8:=⟨V1,_,_,_,rfl,by rw[S];exact J.lower aj.o.size,by rw[S];exact N,aj.o.trans (U.mono (fun i _ e=>.inl e)),fun q E=>Y.o q _ _ (.inl ⟨rfl,rfl⟩) E⟩
  have HF:=LH u;clear u J N U;go_wp2_with fail;go_ret2;exact HF.o
def BU (base g:Nat) (C V:Hi) (L:List Bt) (d:Nd) (m:Ms) (w:B1) (e:WA) (w':B1):Prop:=
 ∃ f c h,e=.returned f/\By w.heap.size (d.step m).2 f w'/\BI w' base g C c h (d.step m).1/\Fr (CJ g C V L) w w'/\∀ q,CJ g C c h q->CJ g C V L q\/w.heap.size<=q
theorem BU.of {m:Ms} {nd:Nd} {ms:List Ms} {f c:Hi} {h:List Bt} (i:d.step m=(nd,ms)) (k:By w.heap.size ms f w') (p:BI w' base g C c h nd) (s:Fr (CJ g C V L) w w') (j:∀ q,CJ g C c h q->CJ g C V L q\/w.heap.size<=q) :
  BU base g C V L d m w (.returned f) w':=⟨f,c,h,rfl,by rw[i];exact k,by rw[i];exact p,s,j⟩
theorem By.snoc {B A n k:_} {ms:List Ms} {M:List AT} {V v':Hi} {w u:B1} {m:Ms} (s:AH M=ms) (i:∀ x∈M,D5 w B x/\x.n<=100000) (j:w.ownsRow B 116 9 V M.length (M.flatMap CD)) (q:w.ownsRow B 45 3 (.slice A n k) n (m.cmd.aa.flatMap C9)) (E:m.cmd.aa.length=n) (z:n<=100000)
  (p:u.ownsRow B 116 9 v' (M.length+1) (M.flatMap CD++(Bq m A n k).toList)) (y:Aq w u V.ownBlock v'.ownBlock):By B (ms++[m]) v' u:=by
 obtain⟨G,c,rfl,_,_⟩:=AK p;have t:(ms++[m]).length=M.length+1:=by rw[<- s];simp[AH]
 have f:∀ x:AT,D5 w B x->D5 u B x:=fun x i=>⟨y.1.own i.1 (fun b F e=>E0 i.1 j (by decide) F e.symm),i.2⟩
 refine⟨G,c,M++[⟨m,A,n,k⟩],by rw[t],?_,by rw[<- s];simp[AH],fun x v=>?_⟩
 ·rw[VP,Wx];simpa [CD] using p
 ·rcases List.mem_append.1 v with h|h
  ·exact⟨f x (i x h).1,(i x h).2⟩
  ·rw[VW] at h;subst h;exact⟨f _ ⟨q,E⟩,z⟩
def FwRel (d:Nd) (a:Nat) (c:B1) (B:Nat) (h f:Hi) (wr:B1):Prop:=∃ j:Nat,f=.int .i64 ((a+j:Nat):Int)/\(j=0\/a+j<=d.log.length)/\By B ((WG a j).map d.forward) h wr/\VJ c.heap.size c wr
theorem U5 (d:Nd) (a j:Nat):(WG a (j+1)).map d.forward=(WG a j).map d.forward++[d.forward (a+j)]:=by rw[List.range'_concat,List.map_append];simp
theorem Np (h:BI w base g C V L d) (f:0<=d.at_) (c:d.tail=Jx):d.at_+1<d.nodes.length:=by
 have:=h.bQ;rcases(show d.at_+1<d.nodes.length\/d.at_=(d.nodes.length:Int)-1 by omega) with h1|h1
 ·exact h1
 ·exfalso;unfold Nd.tail at c;rw[decide_eq_true (show d.at_>=0 by omega),YD,h1] at c;simp at c
def Nd.ahead (d:Nd) (f:Int):Bool:=decide (d.at_ > 0) && f == d.a4 (-1)
def Nd.next (d:Nd) (f:Int):Bool:=!d.tail && f == d.a4 1
theorem qbw (d:Nd) (m:Ms):d.step m=if d.at_<0\/m.ab≠d.ab\/m.a4≠d.id then(d,[]) else
 if m.ag=1/\d.ahead m.from_=T2 then(d,[d.msg 2 (-1) d.log.length]) else
 if m.ag=2/\d.next m.from_=T2/\0<=m.n then(d,(WG m.n.toNat (d.log.length-m.n.toNat)).map d.forward) else
 if m.ag=3/\d.ahead m.from_=T2/\m.n=d.log.length/\m.n<500 then d.grow m.cmd else
 if m.ag=4/\d.next m.from_=T2/\0<=m.n/\m.n<=d.log.length then
  ({ d with ao:=max d.ao m.n },if d.at_ > 0 then [d.msg 4 (-1) (max d.ao m.n)] else []) else(d,[]):=rfl
theorem nbr (h:BI w base g C V L d) (b:Int) (y:0<=d.at_+b) (v:d.at_+b<d.nodes.length):∃ f i c j,C=.slice (Bs ⟨f,i,B0⟩) d.nodes.length c/\(d.at_+b=(j:Nat))/\(j:Int)<d.nodes.length/\f<w.heap.size/\w.cell? ⟨f,i+j,B0⟩=Bs (.int .i64 (d.a4 b))/\IntKind.i64.wrap (d.at_+b)=(j:Int):=by
 obtain⟨A,c,rfl⟩:=h.df;have u:=h.bf;obtain⟨j,p⟩:∃ j:Nat,d.at_+b=j:=⟨(d.at_+b).toNat,by omega⟩
 obtain⟨f,i,x,rfl,q,t,s⟩:=rd1 (Rd.au h.bw) (j:=j) (by omega);have k:d.a4 b=x:=by unfold Nd.a4;rw[p];simp[t]
 exact⟨f,i,c,j,rfl,p,by omega,q,by rw[k];exact s,by rw[V8 _ ⟨by omega,by omega⟩,p]⟩
theorem qbx {d:Nd} {m:Ms} {f c:Bool} {k j i h:Nd×List Ms} (t:¬(m.ag=1/\f=T2)) (s:¬(m.ag=2/\c=T2/\0<=m.n)) (q:¬(m.ag=3/\f=T2/\m.n=d.log.length/\m.n<500)) (p:¬(m.ag=4/\c=T2/\0<=m.n/\m.n<=d.log.length)) :
  (if m.ag=1/\f=T2 then k else if m.ag=2/\c=T2/\0<=m.n then j else if m.ag=3/\f=T2/\m.n=d.log.length/\m.n<500 then i else if m.ag=4/\c=T2/\0<=m.n/\m.n<=d.log.length then h else(d,[]))=(d,[]):=by
 rw[if_neg t,if_neg s,if_neg q,if_neg p]
theorem QW (h:BI w base g C V L d) (m:Ms) (A:Option Xb) (n k:Nat) (hR:FA w w.heap.size A n m.cmd.aa) (hk:A=B0->k=0) (hn:n<=100000) :
  VX Tryz.prog 51 #[.pointer (Bs ⟨g,0,B0⟩),.agg #[.int .i64 m.ag,.int .i64 m.from_,.int .i64 m.a4,.int .i64 m.ab,.int .i64 m.n,.int .i64 m.cmd.ag,.int .i64 m.cmd.tx,.int .i64 m.cmd.ae,.slice A n k]] w (BU base g C V L d m w):=by
 have ap:VJ w.heap.size w (w.alloc (.cells (Bq m A n k) 116)):=(S2 _ _).alloc (L1 _) _;have u:=h.a8 ap;have aE:Ab (w.alloc (.cells (Bq m A n k) 116)) w.heap.size 116 (Bq m A n k):=Ab.new w _ _;have ad:∀ B,VJ w.heap.size w B/\Ab B w.heap.size 116 (Bq m A n k)->BI B base g C V L d/\B.cell? ⟨w.heap.size,0,B0⟩=Bs (.int .i64 m.ag)/\B.cell? ⟨w.heap.size,1,B0⟩=Bs (.int .i64 m.from_)/\B.cell? ⟨w.heap.size,2,B0⟩=Bs (.int .i64 m.a4)/\B.cell? ⟨w.heap.size,3,B0⟩=Bs (.int .i64 m.ab)/\B.cell? ⟨w.heap.size,4,B0⟩=Bs (.int .i64 m.n)/\
   B.cell? ⟨w.heap.size,5,B0⟩=Bs (.int .i64 m.cmd.ag)/\B.cell? ⟨w.heap.size,6,B0⟩=Bs (.int .i64 m.cmd.tx)/\B.cell? ⟨w.heap.size,7,B0⟩=Bs (.int .i64 m.cmd.ae)/\B.cell? ⟨w.heap.size,8,B0⟩=Bs (.slice A n k)/\w.heap.size<B.heap.size:=fun B ⟨hW,hB⟩=>⟨h.a8 hW,hB.cell 0,hB.cell 1,hB.cell 2,hB.cell 3,hB.cell 4,hB.cell 5,hB.cell 6,hB.cell 7,hB.cell 8,hB.lt⟩
 have N:=LH ad;clear ad;have aX:=LH (fun B (hW:VJ w.heap.size w B)=>(⟨hR.1,(hR.2.below hW).more hW.size⟩:FA B B.heap.size A n m.cmd.aa));clear hR;have aI:=LH h;have Z:=LH (show VJ w.heap.size w (w.alloc (.cells (Bq m A n k) 116))/\Ab (w.alloc (.cells (Bq m A n k) 116)) w.heap.size 116 (Bq m A n k) from⟨ap,aE⟩);clear ap aE u;have a6:=h.bz;have b9:=h.len;have b7:=h.bQ;have b8:=h.lo;have ba:=h.ah.lt;clear h;unfold Bq at Z N;obtain⟨S,e0,e1,e2,e3,e4,_,_,_,_,el⟩:=N.o _ Z.o;obtain⟨c0,c1,_,c3,_,_,kl⟩:=S.cells;clear S;by_cases E:d.at_<0\/m.ab≠d.ab\/m.a4≠d.id
 ·have t:d.step m=(d,[]):=by rw[qbw,if_pos E]
  have HF:=LH (fun B (hW:VJ w.heap.size w B)=>(BU.of t (By.nil _ _) (aI.o.a8 hW) (Below.fr hW _) (fun _ h=>.inl h):BU base g C V L d m w (.returned (.slice B0 0 0)) B));clear t;have aq:=LH Z.o.1;by_cases b1:d.at_<0
  ·have d1:decide (d.at_<0)=T2:=decide_eq_true b1;go_enter Tryz.func51,Tryz.ntmps51;go_upto_region 1 with (fail)
   go_quiet (fail);go_wp2_with fail;go_ret;exact HF.o _ (Cr aq.o _)
  ·have d1:decide (d.at_<0)=Jx:=decide_eq_false b1;by_cases b2:m.ab=d.ab
   ·have d2:(m.ab != d.ab)=Jx:=by simpa using b2
    have b3:m.a4≠d.id:=by rcases E with h|h|h;exact absurd h b1;exact absurd b2 h;exact h
    have d3:(m.a4 != d.id)=T2:=by simpa using b3
    clear b2;go_enter Tryz.func51,Tryz.ntmps51;go_upto_region 1 with (fail)
    go_quiet (fail);go_wp2_with fail;go_ret;exact HF.o _ (Cr aq.o _)
   ·have d2:(m.ab != d.ab)=T2:=by simpa using b2
    go_enter Tryz.func51,Tryz.ntmps51;go_upto_region 1 with (fail)
    go_quiet (fail);go_wp2_with fail;go_ret;exact HF.o _ (Cr aq.o _)
 ·obtain⟨b1,b2,b3⟩:¬d.at_<0/\m.ab=d.ab/\m.a4=d.id:=⟨fun h=>E (.inl h),Wl fun h=>E (.inr (.inl h)),Wl fun h=>E (.inr (.inr h))⟩
  have t:=qbw d m;rw[if_neg E] at t;have z:=LH t;clear t E;have d1:decide (d.at_<0)=Jx:=decide_eq_false b1;have d2:(m.ab != d.ab)=Jx:=by simpa using b2
  have d3:(m.a4 != d.id)=Jx:=by simpa using b3
  have a7:0<=d.at_:=by omega
  clear b2 b3;go_enter Tryz.func51,Tryz.ntmps51;go_upto_region 1 with (fail)
  go_quiet (fail);go_upto_region 3 with (fail)
  have aA:VJ w.heap.size w ((w.alloc (.cells #[.int .i64 m.ag,.int .i64 m.from_,.int .i64 m.a4,.int .i64 m.ab,.int .i64 m.n,.int .i64 m.cmd.ag,.int .i64 m.cmd.tx,.int .i64 m.cmd.ae,.slice A n k] 116)).drewN nq)/\Ab ((w.alloc (.cells #[.int .i64 m.ag,.int .i64 m.from_,.int .i64 m.a4,.int .i64 m.ab,.int .i64 m.n,.int .i64 m.cmd.ag,.int .i64 m.cmd.tx,.int .i64 m.cmd.ae,.slice A n k] 116)).drewN nq) w.heap.size 116 #[.int .i64 m.ag,.int .i64 m.from_,.int .i64 m.a4,.int .i64 m.ab,.int .i64 m.n,.int .i64 m.cmd.ag,.int .i64 m.cmd.tx,.int .i64 m.cmd.ae,.slice A n k]:=⟨Cr Z.o.1 _,Z.o.2⟩
  clear e0 e1 e2 e3 e4 el c0 c1 c3 kl Z d1 d2 d3;generalize ((w.alloc _).drewN nq)=w2 at *;have a1:=LH aA;clear aA;go_cut [5] (fun v5 wx=>v5=.bool (d.ahead m.from_)/\(VJ w.heap.size w wx/\Ab wx w.heap.size 116 #[.int .i64 m.ag,.int .i64 m.from_,.int .i64 m.a4,.int .i64 m.ab,.int .i64 m.n,.int .i64 m.cmd.ag,.int .i64 m.cmd.tx,.int .i64 m.cmd.ae,.slice A n k]))
  case first=>
   obtain⟨S,_,e1,_,_,_,_,_,_,_,el⟩:=N.o _ a1.o;by_cases hp:d.at_ > 0
   ·obtain⟨gc,oc,c,j,rfl,hj,aS,aT,aU,af⟩:=nbr S (-1) (by omega) (by omega);obtain⟨_,_,c2,c3,_,_,kl⟩:=S.cells;have d1:decide (0<d.at_)=T2:=decide_eq_true hp;have av:=LH (show d.ahead m.from_=(m.from_ == d.a4 (-1)) by unfold Nd.ahead;rw[decide_eq_true hp,YD]);have b5:IntKind.i64.wrap (d.at_-1)=(j:Int):=af;clear S af hj;go_quiet (fail);go_wp2_with fail;go_meet;exact⟨by rw[av.o],Cr a1.o.1 _,a1.o.2⟩
   ·have d1:decide (0<d.at_)=Jx:=decide_eq_false hp;obtain⟨_,_,_,c3,_,_,kl⟩:=S.cells;have av:=LH (show d.ahead m.from_=Jx by unfold Nd.ahead;rw[decide_eq_false hp,Bool.false_and]);clear S;go_quiet (fail);go_wp2_with fail;go_meet;exact⟨by rw[av.o],Cr a1.o.1 _,a1.o.2⟩
  case rest=>
   obtain⟨rfl,az⟩:=hcut;clear a1;rename B1=>w3
   have a0:=LH az;clear az;go_upto_region 4 with (fail)
   go_cut [6] (fun v6 wx=>v6=.bool (d.next m.from_)/\(VJ w.heap.size w wx/\Ab wx w.heap.size 116 #[.int .i64 m.ag,.int .i64 m.from_,.int .i64 m.a4,.int .i64 m.ab,.int .i64 m.n,.int .i64 m.cmd.ag,.int .i64 m.cmd.tx,.int .i64 m.cmd.ae,.slice A n k]))
   case first=>
    obtain⟨S,_,e1,_,_,_,_,_,_,_,el⟩:=N.o _ a0.o;have a8:=LH (fun nq=>QN (S.a8 (Cr (S2 w3.heap.size w3) nq)));cases ht:d.tail
    ·have bb:=Np S a7 ht;rw[ht] at a8;obtain⟨gc,oc,c,j,rfl,hj,aS,aT,aU,af⟩:=nbr S 1 (by omega) (by omega);obtain⟨_,_,c2,c3,_,_,kl⟩:=S.cells;have au:=LH (show d.next m.from_=(m.from_ == d.a4 1) by unfold Nd.next;rw[ht];rfl);clear S ht hj;go_quiet ((go_at_call 58;exact Calls.quiet_of (a8.o _)));go_wp2_with fail;go_meet;exact⟨by rw[au.o],Cr a0.o.1 _,a0.o.2⟩
    ·rw[ht] at a8;have au:=LH (show d.next m.from_=Jx by unfold Nd.next;rw[ht];rfl);clear S ht;go_quiet ((go_at_call 58;exact Calls.quiet_of (a8.o _)));go_wp2_with fail;go_meet;exact⟨by rw[au.o],Cr a0.o.1 _,a0.o.2⟩
   case rest=>
    obtain⟨rfl,f⟩:=hcut;clear a0;rename B1=>w4
    obtain⟨a4,e0,e1,e2,e3,e4,e5,e6,e7,e8,el⟩:=N.o _ f;have a9:=LH f;have aV:d.ahead m.from_=T2->d.at_ > 0:=fun h=>by unfold Nd.ahead at h;simp only[Wq,decide_eq_true_eq] at h;exact h.1
    have aP:d.next m.from_=T2->d.at_+1<d.nodes.length:=fun h=>Np a4 a7 (by unfold Nd.next at h;simp only[Wq,Bool.not_eq_true'] at h;exact h.1)
    generalize d.ahead m.from_=ah at *;generalize d.next m.from_=nx at *;have y:=LH (fun B (hW:VJ w.heap.size w B) (t:d.step m=(d,[]))=>(BU.of t (By.nil _ _) (aI.o.a8 hW) (Below.fr hW _) (fun _ h=>.inl h):BU base g C V L d m w (.returned (.slice B0 0 0)) B));obtain⟨_,_,c2,c3,c4,c5,kl⟩:=a4.cells;obtain⟨AL,cL,rfl⟩:=a4.c4;have I:=LH a4;clear a4;have f:=a9.o;clear w2;by_cases k1:m.ag=1
    ·rw[k1] at e0;cases ah
     ·have HH:=LH f;clear f;have f:=HH.o;go_wp2_with fail;go_quiet (fail);go_wp2_with fail;go_quiet (fail);go_wp2_with fail;go_ret;exact y.o _ (Cr (Cr (f.1) _) _) (by rw[z.o];exact qbx (by rintro ⟨h,p⟩;first|omega|(exact absurd p (by simp))|(obtain⟨u,_⟩:=p;exact absurd u (by simp))|(obtain⟨_,W,U⟩:=p;omega)) (by rintro ⟨h,p⟩;first|omega|(exact absurd p (by simp))|(obtain⟨u,_⟩:=p;exact absurd u (by simp))|(obtain⟨_,W,U⟩:=p;omega)) (by rintro ⟨h,p⟩;first|omega|(exact absurd p (by simp))|(obtain⟨u,_⟩:=p;exact absurd u (by simp))|(obtain⟨_,W,U⟩:=p;omega)) (by rintro ⟨h,p⟩;first|omega|(exact absurd p (by simp))|(obtain⟨u,_⟩:=p;exact absurd u (by simp))|(obtain⟨_,W,U⟩:=p;omega)))
     ·have b6:=aV rfl;have HM:=LH (q6r I.o 2 (-1) L.length (by omega) (by omega));go_wp2_with fail;refine HM.o.mono ?_;rintro e w5 ⟨rfl,F⟩;have t:d.step m=(d,[d.msg 2 (-1) d.log.length]):=by rw[z.o];simp[k1]
      unfold Dr;have an:VJ w5.heap.size w5 (w5.alloc (.cells (Bq (d.msg 2 (-1) d.log.length) B0 0 0) 116)):=(S2 _ _).alloc (L1 _) _;have K:=f.1.trans (F.mono f.1.size);have s:BU base g C (.slice AL L.length cL) L d m w (.returned (.slice (Bs ⟨w5.heap.size,0,B0⟩) 1 1)) (w5.alloc (.cells (Bq (d.msg 2 (-1) d.log.length) B0 0 0) 116)):=
       BU.of t (q9k (A:=B0) (n:=0) (k:=0) (Lw (GZ w5 _ _ 9 rfl) K.size) (VY _ _ _ _) rfl (by omega)) ((I.o.a8 F).a8 an) (Below.fr (K.trans (an.mono K.size)) _) (fun _ h=>.inl h)
      unfold Bq at s;rw[a6] at s;have HF:=LH s;clear s an K F t;go_wp2_with fail;go_ret;exact HF.o
    ·have f1:(m.ag == 1)=Jx:=by simpa using k1
     by_cases k2:m.ag=2
     ·rw[k2] at e0;cases nx
      ·have f:=f;go_wp2_with fail;go_quiet (fail);go_wp2_with fail;go_quiet (fail);go_wp2_with fail;go_ret;exact y.o _ (Cr (Cr (f.1) _) _) (by rw[z.o];exact qbx (by rintro ⟨h,p⟩;first|omega|(exact absurd p (by simp))|(obtain⟨u,_⟩:=p;exact absurd u (by simp))|(obtain⟨_,W,U⟩:=p;omega)) (by rintro ⟨h,p⟩;first|omega|(exact absurd p (by simp))|(obtain⟨u,_⟩:=p;exact absurd u (by simp))|(obtain⟨_,W,U⟩:=p;omega)) (by rintro ⟨h,p⟩;first|omega|(exact absurd p (by simp))|(obtain⟨u,_⟩:=p;exact absurd u (by simp))|(obtain⟨_,W,U⟩:=p;omega)) (by rintro ⟨h,p⟩;first|omega|(exact absurd p (by simp))|(obtain⟨u,_⟩:=p;exact absurd u (by simp))|(obtain⟨_,W,U⟩:=p;omega)))
      ·by_cases r1:0<=m.n
       ·obtain⟨a,ha⟩:∃ a:Nat,m.n=a:=⟨m.n.toNat,by omega⟩
        have d1:decide (0<=m.n)=T2:=decide_eq_true r1;have t:d.step m=(d,(WG a (d.log.length-a)).map d.forward):=by
         rw[z.o,if_neg (fun h=>by have:=h.1;omega),if_pos (by refine⟨k2,?_,r1⟩;simp),show m.n.toNat=a by omega]
        have Y:=LH t;clear t;rw[ha] at e4 d1;clear c2 c5 e1 e2 e3 e5 e6 e7 e8;go_wp2_with fail;go_loopw [7,8] (FwRel d a w4 w4.heap.size) (fun _ v _=>d.log.length-(intOf v).toNat)
        case atStart=>exact⟨0,rfl,.inl rfl,By.nil _ _,S2 _ _⟩
        case round=>
         obtain⟨j,rfl,hj,X,hb⟩:=hrel;have R:=I.o.a8 hb;obtain⟨_,_,_,_,c4,_,kl⟩:=R.cells;obtain⟨q,hq⟩:∃ q:Nat,a+j=q:=⟨_,rfl⟩
         rw[hq] at hj ⊢;by_cases aQ:q<L.length
         ·have dl:decide ((q:Int)<(L.length:Int))=T2:=decide_eq_true (by omega);have HX:=LH (show L[q]? = Bs L[q] from K0 aQ);have aJ:=LH (q9w R q _ HX.o a7 (aP trivial));have aH:=LH (R.own _ (O0 HX.o));have b0:=LH (show(d.forward q).cmd=L[q].c by unfold Nd.forward;rw[<- R.log,AM,VT,HX.o];rfl);have ae:=LH X;clear X;have ab:=LH hb;clear hb R;have aK:=LH (U5 d a j);rw[hq] at aK;generalize L[q]=x at *;generalize d.forward q=fm at *;go_wp2_with fail;refine aJ.o.mono ?_;rintro e w5 ⟨A1,aN,rfl,G,F⟩;have K:=ab.o.trans (F.mono ab.o.size);have aO:w4.heap.size<=w5.heap.size:=K.size;obtain⟨A7,c7,M,rfl,a2,ai,aw⟩:=ae.o.a8 F;have ak:((WG a j).map d.forward).length=M.length:=by rw[<- ai];simp[AH]
          have bc:M.length<=500:=by rw[<- ak];simp;omega
          have G:=Lw G ab.o.size;rw[ak] at a2 ⊢;have a5:=LH a2;clear a2;have aW:=LH aw;clear aw;have aZ:=LH ai;clear ai ak;have aG:=LH G;clear G;have aM:=LH K;clear K F aJ ae ab;unfold Dr;go_wp2_with (at_builtin;refine stop ?_)
          refine Cn ?_;refine Nf w5 _ rfl (.tmp 113) (.tmp 117) 86 rfl w4.heap.size 116 _ 9 88 Tryz.underlying86 q6t rfl (by decide) _ _ _ (Bq fm A1 x.n aN) rfl a5.o 1 rfl _ rfl rfl (by unfold Bq;simp[Value.oneCell']) (by unfold VZ;omega) (by omega) aO ?_;intro v' w9 aB aj;have ay:=By.snoc aZ.o aW.o a5.o aG.o (by rw[b0.o];exact aH.o.2.1) aH.o.2.2 aB aj;have a3:FwRel d a w4 w4.heap.size v' (.int .i64 ((q+1:Nat):Int)) w9:=by
           refine⟨j+1,by rw[show a+(j+1)=q+1 by omega],.inr (by omega),by rw[aK.o];exact ay,aM.o.trans (aj.below (fun b hb=>?_) aM.o.size)⟩;exact(a5.o.lt b hb).1
          have HR:=LH a3;clear a3 ay aB aj;clear dl;go_wp2_with fail;go_roundw
          ·exact HR.o
          ·simp[intOf];omega
         ·have dl:decide ((q:Int)<(L.length:Int))=Jx:=decide_eq_false (by omega);have s:BU base g C (.slice AL L.length cL) L d m w (.returned u7) wr:=by
           refine BU.of Y.o ?_ R ?_ (fun _ h=>.inl h)
           ·rw[show d.log.length-a=j by omega];exact X.lower a9.o.1.size
           ·exact Below.fr (a9.o.1.trans (hb.mono a9.o.1.size)) _
          have HF:=LH s;clear s hb X R;go_wp2_with fail;go_ret;exact HF.o
       ·have d1:decide (0<=m.n)=Jx:=decide_eq_false (by omega);go_wp2_with fail;go_quiet (fail);go_wp2_with fail;go_quiet (fail);go_wp2_with fail;go_ret;exact y.o _ (Cr (Cr (f.1) _) _) (by rw[z.o,if_neg (fun h=>by have:=h.1;omega),if_neg (fun h=>by have:=h.2.2;omega),if_neg (fun h=>by have:=h.1;omega),if_neg (fun h=>by have:=h.1;omega)])
     ·by_cases k3:m.ag=3
      ·rw[k3] at e0;cases ah
       ·have f:=f;go_wp2_with fail;go_quiet (fail);go_wp2_with fail;go_quiet (fail);go_wp2_with fail;go_ret;exact y.o _ (Cr (Cr (f.1) _) _) (by rw[z.o];exact qbx (by rintro ⟨h,p⟩;first|omega|(exact absurd p (by simp))|(obtain⟨u,_⟩:=p;exact absurd u (by simp))|(obtain⟨_,W,U⟩:=p;omega)) (by rintro ⟨h,p⟩;first|omega|(exact absurd p (by simp))|(obtain⟨u,_⟩:=p;exact absurd u (by simp))|(obtain⟨_,W,U⟩:=p;omega)) (by rintro ⟨h,p⟩;first|omega|(exact absurd p (by simp))|(obtain⟨u,_⟩:=p;exact absurd u (by simp))|(obtain⟨_,W,U⟩:=p;omega)) (by rintro ⟨h,p⟩;first|omega|(exact absurd p (by simp))|(obtain⟨u,_⟩:=p;exact absurd u (by simp))|(obtain⟨_,W,U⟩:=p;omega)))
       ·by_cases q1:m.n=d.log.length
        ·by_cases q2:m.n<500
         ·have d2:decide (m.n<500)=T2:=decide_eq_true q2;have d3:(m.n == (L.length:Int))=T2:=by rw[q1,a6];simp
          go_wp2_with fail;go_quiet (fail);have aR:L.length<500:=by omega
          have HG:=LH (JW (I.o.a8 (Cr (S2 w4.heap.size w4) nq)) ⟨m.cmd,A,n,k⟩ (aX.o _ (Cr f.1 nq)) hk hn aR a7);go_wp2_with fail;refine HG.o.mono ?_;rintro e w5 ⟨V1,V2,x2,rfl,_,ho,O,aF,ac⟩;have t:d.step m=((d.grow m.cmd).1,(d.grow m.cmd).2):=by
           rw[z.o,if_neg (fun h=>by have:=h.1;omega),if_neg (fun h=>by have:=h.1;omega),if_pos (by refine⟨k3,?_,q1,q2⟩;simp)]
          have s:BU base g C (.slice AL L.length cL) L d m w (.returned V1) w5:=BU.of t (ho.lower f.1.size) O ((Below.fr (Cr f.1 nq) _).trans aF) (fun q hq=>(ac q hq).imp id (fun h=>VO f.1.size h));have HF:=LH s;clear s ho O aF ac t;go_wp2_with fail;go_ret;exact HF.o
         ·have d2:decide (m.n<500)=Jx:=decide_eq_false q2;have d3:(m.n == (L.length:Int))=T2:=by rw[q1,a6];simp
          go_wp2_with fail;go_quiet (fail);go_wp2_with fail;go_quiet (fail);go_wp2_with fail;go_ret;exact y.o _ (Cr (Cr (f.1) _) _) (by rw[z.o,if_neg (fun h=>by have:=h.1;omega),if_neg (fun h=>by have:=h.1;omega),if_neg (fun h=>by have:=h.2.2.2;omega),if_neg (fun h=>by have:=h.1;omega)])
        ·have d3:(m.n == (L.length:Int))=Jx:=by rw[<- a6];simpa using q1
         go_wp2_with fail;go_quiet (fail);go_wp2_with fail;go_quiet (fail);go_wp2_with fail;go_ret;exact y.o _ (Cr (Cr (f.1) _) _) (by rw[z.o,if_neg (fun h=>by have:=h.1;omega),if_neg (fun h=>by have:=h.1;omega),if_neg (fun h=>by have:=h.2.2.1;omega),if_neg (fun h=>by have:=h.1;omega)])
      ·by_cases k4:m.ag=4
       ·rw[k4] at e0;cases nx
        ·have f:=f;go_wp2_with fail;go_quiet (fail);go_wp2_with fail;go_quiet (fail);go_wp2_with fail;go_ret;exact y.o _ (Cr (Cr (f.1) _) _) (by rw[z.o,if_neg (fun h=>by have:=h.1;omega),if_neg (fun h=>by have:=h.1;omega),if_neg (fun h=>by have:=h.1;omega),if_neg (fun h=>by have:=h.2.1;simp at this)])
        ·by_cases r1:0<=m.n
         ·by_cases r2:m.n<=d.log.length
          ·
           have d1:decide (0<=m.n)=T2:=decide_eq_true r1;have d2:decide (m.n<=(L.length:Int))=T2:=decide_eq_true (by omega);go_wp2_with fail;go_quiet (fail);go_wp2_with fail;go_quiet (fail);have f5:=I.o.ah.frozen 5;have aC:=I.o.b9 (k:=max d.ao m.n) (by have:=I.o.st0;omega) (by have:=I.o.st1;omega);have aY:=LH aC;clear aC;go_upto_region 17 with (fail)
           refine nW ?_;refine CU (fun w'=>w'.cell? ⟨g,5,B0⟩=Bs (.int .i64 d.ao)/\w'.cell? ⟨w.heap.size,4,B0⟩=Bs (.int .i64 m.n)) 8 (fun _ _ _ _ _ h=>h) (fun H=>?_);have J:=Wm c5 e4;refine nF 0 H J ?_;refine nF 1 H J ?_;refine nF 2 H J ?_;refine nF 3 H J ?_;refine nB 4 rfl rfl H J (fun w' ag=>by obtain⟨q0,q1⟩:=ag;go_simp;rfl) ?_;refine nF 5 H J ?_;refine nB 6 rfl rfl H J (fun w' ag=>by obtain⟨q0,q1⟩:=ag;go_simp;rfl) ?_;refine nF 7 H J ?_;refine nG 8 (fun KK hK=>?_);go_simp;refine hK _ _ nZ ?_;clear hK KK;refine nG 9 (fun KK hK=>?_);go_simp;refine hK _ _ nZ ?_;clear hK KK;refine nG 10 (fun KK hK=>?_);go_simp;refine hK _ _ nZ ?_;clear hK KK;refine nX ?_;clear H J;have aD:(if d.ao<m.n then m.n else d.ao)=max d.ao m.n:=by split <;> omega
           try rw[aD]
           have t:d.step m=({ d with ao:=max d.ao m.n },if d.at_ > 0 then [d.msg 4 (-1) (max d.ao m.n)] else []):=by
            rw[z.o,if_neg (fun h=>by have:=h.1;omega),if_neg (fun h=>by have:=h.1;omega),if_neg (fun h=>by have:=h.1;omega),if_pos (by refine⟨k4,?_,r1,r2⟩;simp)]
           have Y:=LH t;clear t aD;generalize ax:w4.drewN _=w5;have F:VJ w4.heap.size w4 w5:=ax▸Cr (S2 _ _) _;have O:=I.o.a8 F;have aa:=LH (O.b9 (k:=max d.ao m.n) (by have:=O.st0;omega) (by have:=O.st1;omega));have b4:=LH (f.1.trans (F.mono f.1.size));have aL:=LH ((Below.fr b4.o (CJ g C (.slice AL L.length cL) L)).trans ((Fr.ax g w5 5 (.int .i64 (max d.ao m.n))).mono (fun i _ e=>.inl e)));clear ax O F f c2 c3 c4 c5 kl f5 aY e0 e1 e2 e3 e4 e5 e6 e7 e8 el;generalize max d.ao m.n=ks at *;generalize (w5.setCell _ _)=w7 at *;obtain⟨_,_,_,c3,_,c5,kl⟩:=aa.o.cells;by_cases hp:d.at_ > 0
           ·have HM:=LH (q6r aa.o 4 (-1) ks (show 0<=d.at_ + -1 by omega) (show d.at_ + -1<d.nodes.length by omega));go_wp2_with fail;refine HM.o.mono ?_;rintro e w8 ⟨rfl,am⟩;unfold Dr;have al:VJ w8.heap.size w8 (w8.alloc (.cells (Bq (d.msg 4 (-1) ks) B0 0 0) 116)):=(S2 _ _).alloc (L1 _) _;have ar:=aL.o.trans (Below.fr am (CJ g C (.slice AL L.length cL) L));have s:BU base g C (.slice AL L.length cL) L d m w (.returned (.slice (Bs ⟨w8.heap.size,0,B0⟩) 1 1)) (w8.alloc (.cells (Bq (d.msg 4 (-1) ks) B0 0 0) 116)):=
             BU.of (by rw[Y.o,if_pos hp]) (q9k (A:=B0) (n:=0) (k:=0) (Lw (GZ w8 _ _ 9 rfl) ar.size) (VY _ _ _ _) rfl (by omega)) ((aa.o.a8 am).a8 al) (ar.trans (Below.fr al _)) (fun _ h=>.inl h)
            unfold Bq at s;have HF:=LH s;clear s al ar am;go_wp2_with fail;go_ret;exact HF.o
           ·have s:BU base g C (.slice AL L.length cL) L d m w (.returned (.slice B0 0 0)) w7:=BU.of (by rw[Y.o,if_neg hp]) (By.nil _ _) aa.o aL.o (fun _ h=>.inl h);have HF:=LH s;clear s;go_wp2_with fail;go_ret;exact HF.o
          ·have d1:decide (0<=m.n)=T2:=decide_eq_true r1;have d2:decide (m.n<=(L.length:Int))=Jx:=decide_eq_false (by omega);go_wp2_with fail;go_quiet (fail);go_wp2_with fail;go_quiet (fail);go_wp2_with fail;go_ret;exact y.o _ (Cr (Cr (f.1) _) _) (by rw[z.o,if_neg (fun h=>by have:=h.1;omega),if_neg (fun h=>by have:=h.1;omega),if_neg (fun h=>by have:=h.1;omega),if_neg (fun h=>by have:=h.2.2.2;omega)])
         ·have d1:decide (0<=m.n)=Jx:=decide_eq_false r1;go_wp2_with fail;go_quiet (fail);go_wp2_with fail;go_quiet (fail);go_wp2_with fail;go_ret;exact y.o _ (Cr (Cr (f.1) _) _) (by rw[z.o,if_neg (fun h=>by have:=h.1;omega),if_neg (fun h=>by have:=h.1;omega),if_neg (fun h=>by have:=h.1;omega),if_neg (fun h=>by have:=h.2.2.1;omega)])
       ·have f2:(m.ag == 2)=Jx:=by simpa using k2
        have f3:(m.ag == 3)=Jx:=by simpa using k3
        have f4:(m.ag == 4)=Jx:=by simpa using k4
        go_wp2_with fail;go_quiet (fail);go_wp2_with fail;go_quiet (fail);go_wp2_with fail;go_ret;exact y.o _ (Cr (Cr (f.1) _) _) (by rw[z.o];exact qbx (by rintro ⟨h,p⟩;first|omega|(exact absurd p (by simp))|(obtain⟨u,_⟩:=p;exact absurd u (by simp))|(obtain⟨_,W,U⟩:=p;omega)) (by rintro ⟨h,p⟩;first|omega|(exact absurd p (by simp))|(obtain⟨u,_⟩:=p;exact absurd u (by simp))|(obtain⟨_,W,U⟩:=p;omega)) (by rintro ⟨h,p⟩;first|omega|(exact absurd p (by simp))|(obtain⟨u,_⟩:=p;exact absurd u (by simp))|(obtain⟨_,W,U⟩:=p;omega)) (by rintro ⟨h,p⟩;first|omega|(exact absurd p (by simp))|(obtain⟨u,_⟩:=p;exact absurd u (by simp))|(obtain⟨_,W,U⟩:=p;omega)))
end
section
variable (base g off nd:Nat) (T:VQ) (cs:Array Hi) (V:Hi) (D:Option Nat) (L:List AT) (dead:Int->Bool) (lost:Int) (w:B1)
theorem Jw (hI:AJ w base g off T cs V D nd L dead lost):VX Tryz.prog 39 #[.pointer (Bs ⟨g,off,B0⟩)] w fun e w'=>e=.returned (.int .i64 L.length)/\w=w':=by
 obtain⟨k,j,c,f,h⟩:=AK hI.row;have i:=(hI.ah.cell off).trans hI.c0;rw[c] at i;clear hI c;go_enter Tryz.func39,Tryz.ntmps39;go_wp2_with fail;go_ret;exact⟨rfl,rfl⟩
def NU (base g off nd:Nat) (T:VQ) (cs:Array Hi) (V:Hi) (D:Option Nat) (L:List AT) (dead:Int->Bool) (lost:Int) (k:Nat) (w:B1) (e:WA) (w':B1):Prop:=
 ∃ V' lost',e=.returned .nilIface/\AJ w' base g off T ((cs.setIfInBounds off V').setIfInBounds (off+2) (.int .i64 lost')) V' D nd (L.eraseIdx k) dead lost'/\Fr (BR g V D) w w'/\V'.ownBlock=V.ownBlock
theorem Jn {w:B1} {base g off nd:Nat} {T:VQ} {cs:Array Hi} {V:Hi} {D:Option Nat} {L:List AT} {dead:Int->Bool} {lost:Int} (hI:AJ w base g off T cs V D nd L dead lost) (n:Int) :
  AJ (w.setCell ⟨g,off+2,B0⟩ (.int .i64 n)) base g off T (cs.setIfInBounds (off+2) (.int .i64 n)) V D nd L dead n:=by
 have c:=Fr.ax g w (off+2) (.int .i64 n);have j:off+2<cs.size:=by
  have:=hI.c2;rcases W9 (off+2) cs.size with h|h
  ·exact h
  ·rw[WX (by simpa using h)] at this;cases this
 refine⟨hI.ah.aC _ _,?_,?_,by simp[j],c.own hI.row (fun b f e=>by subst e;exact Be hI.row hI.ah (fun e=>hI.ne.1 e.symm) f),fun x i=>⟨c.own (hI.own x i).1 (fun b f e=>by subst e;exact Be (hI.own x i).1 hI.ah (fun e=>hI.ne.2 e.symm) f),(hI.own x i).2⟩,hI.down.fr c (fun b f e=>by subst e;exact hI.down.a6 hI.ah f),hI.len,hI.ne,VO hI.bg c.size⟩
 ·rw[We (by omega)];exact hI.c0
 ·rw[We (by omega)];exact hI.c1
theorem RT (k:Nat) (hI:AJ w base g off T cs V D nd L dead lost) (z:k<L.length) :
  VX Tryz.prog 53 #[.pointer (Bs ⟨g,off,B0⟩),.int .i64 k] w (NU base g off nd T cs V D L dead lost k w):=by
 have HI:=LH hI;clear hI;go_enter Tryz.func53,Tryz.ntmps53;go_wp2_with fail;refine(IS base g off nd T cs V D L dead lost k w HI.o z).mono ?_;rintro e j ⟨V',x,y,rfl,s,A,t,q⟩;have f:∀ o,AJ (j.alloc o) base g off T (cs.setIfInBounds off V') V' D nd (L.eraseIdx k) dead lost:=fun o=>s.fr ((Fr.refl (fun _=>False) _).alloc _) (fun h=>h) (fun _ _ h=>h) (fun _ _ h=>h) (fun _ _ _ _ _ h=>h)
 have v:=fun o=>((f o).ah.cell (off+2)).trans (f o).c2
 have u:=fun o=>(f o).ah.frozen (off+2)
 have c:∀ o,NU base g off nd T cs V D L dead lost k w (.returned .nilIface) ((j.alloc o).setCell ⟨g,off+2,B0⟩ (.int .i64 (Xa (lost+1)))):=fun o=>
  ⟨V',_,rfl,Jn (f o) (Xa (lost+1)),(t.alloc o).setCell (p:=⟨g,off+2,B0⟩) (.inl (.inl rfl)) _,q⟩
 have i:=LH c;clear c f s A t q y HI;unfold UM Dr;have E:=v (.cells #[.int .i64 x.m.ag,.int .i64 x.m.from_,.int .i64 x.m.a4,.int .i64 x.m.ab,.int .i64 x.m.n,.int .i64 x.m.cmd.ag,.int .i64 x.m.cmd.tx,.int .i64 x.m.cmd.ae,.slice x.A x.n x.k] 116);have B:=u (.cells #[.int .i64 x.m.ag,.int .i64 x.m.from_,.int .i64 x.m.a4,.int .i64 x.m.ab,.int .i64 x.m.n,.int .i64 x.m.cmd.ag,.int .i64 x.m.cmd.tx,.int .i64 x.m.cmd.ae,.slice x.A x.n x.k] 116);clear v u;go_wp2_with fail;go_ret;exact i.o _
end
def Sr (k:Int):Hi:=.iface 79 (.int .i64 k)
def Kq (base g off nd:Nat) (T:VQ) (cs:Array Hi) (V:Hi) (D:Option Nat) (L:List AT) (dead:Int->Bool) (lost:Int) (x:AT) (w:B1) (e:WA) (w':B1):Prop:=
 ∃ V' L' lost',e=.returned .nilIface/\(∀ y∈L',y∈L\/Ky w.heap.size y)/\AJ w' base g off T ((cs.setIfInBounds off V').setIfInBounds (off+2) (.int .i64 lost')) V' D nd L' dead lost'/\BA ⟨AH L,dead⟩ x.m=⟨AH L',dead⟩/\Fr (BR g V D) w w'/\(V'.ownBlock=V.ownBlock\/∃ b,V'.ownBlock=Bs b/\w.heap.size<=b)
section
variable (base g off nd:Nat) (T:VQ) (cs:Array Hi) (V:Hi) (D:Option Nat) (L:List AT) (dead:Int->Bool) (lost:Int) (w:B1)
theorem KX (k:Nat) (hI:AJ w base g off T cs V D nd L dead lost) (q:k<L.length) (h:L.length=200) :
  VX Tryz.prog 54 #[.pointer (Bs ⟨g,off,B0⟩),.int .i64 k] w fun e w'=>e=.returned (Sr 4)/\w=w':=by
 obtain⟨u,t,c,f,s⟩:=AK hI.row;have i:=(hI.ah.cell off).trans hI.c0;rw[c] at i;clear hI c;rw[h] at i q;unfold Sr;have p:¬(k:Int)<0:=by omega
 have j:(k:Int)<200:=by omega
 clear h f;go_enter Tryz.func54,Tryz.ntmps54;go_wp2_with fail;go_ret;exact⟨rfl,rfl⟩
theorem Oc (k:Nat) (x:AT) (hI:AJ w base g off T cs V D nd L dead lost) (J:L[k]? = Bs x) (hL:L.length<200) (q:E3 x.m.from_/\E3 x.m.a4/\x.n<=100000) :
  VX Tryz.prog 54 #[.pointer (Bs ⟨g,off,B0⟩),.int .i64 k] w (Kq base g off nd T cs V D L dead lost x w):=by
 have hk:k<L.length:=(List.getElem?_eq_some_iff.1 J).1;obtain⟨gv,cap,M,a0,X⟩:=LI hI.row (by omega);have F:=Rd.au (by rw[<- M];exact hI.row:w.ownsRow base 116 9 (.slice (Bs ⟨gv,0,B0⟩) L.length cap) L.length (L.flatMap CD));obtain⟨g',o',x',S,_,A,h0,h1,h2,h3,h4,h5,h6,h7,h8⟩:=F.bD rfl hk;simp only[VN,W7,and_true] at S;obtain⟨rfl,rfl⟩:=S;rw[J] at A;obtain rfl:=Wj A;rw[Wg] at h0 h1 h2 h3 h4 h5 h6 h7 h8;have c0:=(hI.ah.cell off).trans hI.c0;rw[M] at c0;have W:((L.length:Int) == 200)=Jx:=by simpa using (by omega:¬(L.length:Int)=200)
 have j:Fr (fun _=>False) w (w.alloc (.cells (Bq x.m x.A x.n x.k) 116)):=(Fr.refl _ _).alloc _;have p:=hI.fr j (fun h=>h) (fun _ _ h=>h) (fun _ _ h=>h) (fun _ _ _ _ _ h=>h);have E:=Rd.lit w (Bq x.m x.A x.n x.k) 116 1 9 rfl;have s:=hI.own x (O0 J);have c:=j.own s.1 (fun _ _ h=>h);have B:MW (w.alloc (.cells (Bq x.m x.A x.n x.k) 116)) (BR g V D) (Bs ⟨w.heap.size,0,B0⟩) 1 [x]:=by
  refine⟨rfl,by have:=E.more (B':=(w.alloc (.cells (Bq x.m x.A x.n x.k) 116)).heap.size) (by simp);simpa [CD] using this,fun b o e _=>?_,fun y v=>?_⟩
  ·simp only[VN,W7,and_true] at e;obtain⟨rfl,rfl⟩:=e;rintro (h|h|h)
   ·have:=hI.ah.lt;omega
   ·have:=hI.vlt h.symm;omega
   ·have:=hI.down;rw[<- h] at this;have:=this.lt;omega
  ·rw[List.mem_singleton.1 v];refine⟨⟨s.2,Rd.au c⟩,fun b o e _=>?_⟩;have u:V4 (.slice x.A x.n x.k)=Bs b:=by rw[e];rfl
   rintro (h|h|h)
   ·subst h;exact Be c p.ah (fun e=>hI.ne.2 e.symm) u
   ·exact E0 c p.row (by decide) u h.symm
   ·exact p.down.aG c h.symm u
 have z:x.A=B0->x.k=0:=fun e=>by
  rcases s.1.2 with ⟨h,_⟩|⟨_,_,_,h,_⟩
  ·injection h
  ·rw[e] at h;cases h
 have f:=I4 base g off nd 1 1 T cs V D L dead lost (Bs ⟨w.heap.size,0,B0⟩) [x] _ p B (by omega) (fun y v=>by rw[List.mem_singleton.1 v];exact⟨q.1,q.2.1,q.2.2,z⟩);unfold Bq at f j;have HS:=LH f;clear f;have N:=LH j;clear j;have Y:(k:Int)<L.length:=by omega
 have Z:¬(k:Int)<0:=by omega
 clear hI p B E s c z F M q J;go_enter Tryz.func54,Tryz.ntmps54;go_wp2_with fail;refine HS.o.mono ?_;rintro e U ⟨V',L',lost',d,rfl,G,O,hs,R,H⟩;have t:Kq base g off nd T cs V D L dead lost x w (.returned .nilIface) U:=⟨V',L',lost',rfl,(fun y v=>(G y v).imp id (fun h b K=>VO N.o.size (h b K))),O,hs,(N.o.mono (T:=BR g V D) (fun i _ h=>h.elim)).trans' R (fun i _ h=>h),by
  rcases H with h|⟨b,h,K⟩
  ·exact .inl h
  ·exact .inr ⟨b,h,VO N.o.size K⟩⟩
 have I:=LH t;clear t O hs R H G;go_wp2_with fail;go_ret;exact I.o
end
def Dx (b:Nat):Hi:=.func (.func 110) #[] #[.pointer (Bs ⟨b,0,B0⟩)]
theorem JY (b:Nat) (id:Int) (x:AT) (w:B1) (s:w.cell? ⟨b,0,B0⟩=Bs (.int .i64 id)) :
  VX Tryz.prog 110 #[UM x,.pointer (Bs ⟨b,0,B0⟩)] w fun e w'=>e=.returned (.bool (gone id x.m))/\VJ w.heap.size w w':=by
 have q:=V0 w _ s;have i:∀ o,VJ w.heap.size w (w.alloc o):=fun o=>(S2 _ _).alloc (L1 _) _
 have j:=LH i;clear i;unfold UM Dr;have k:gone id x.m=(decide (x.m.from_=id) || decide (x.m.a4=id)):=rfl;by_cases f:x.m.from_=id
 ·have d1:(x.m.from_ == id)=T2:=by simpa using f
  have c:gone id x.m=T2:=by rw[k,decide_eq_true f];rfl
  have p:=LH c;clear c k f;go_enter Tryz.func110,Tryz.ntmps110;go_wp2_with fail;go_ret;rw[p.o];exact⟨rfl,j.o _⟩
 ·have d1:(x.m.from_ == id)=Jx:=by simpa using f
  have c:gone id x.m=(x.m.a4 == id):=by rw[k,decide_eq_false f];by_cases h:x.m.a4=id <;> simp[h]
  have p:=LH c;clear c k f;go_enter Tryz.func110,Tryz.ntmps110;go_wp2_with fail;go_ret;rw[p.o];exact⟨rfl,j.o _⟩
def Ej (p:Ms->Bool) (L:List AT):Int:=match L.findIdx? (fun x=>p x.m) with|some i=>(i:Int)|none=>-1
def ixRel (p:Ms->Bool) (L:List AT) (n:Nat) (w:B1) (v:Hi) (wr:B1):Prop:=∃ j:Nat,v=.int .i64 j/\j<=n/\(∀ x∈L.take j,p x.m=Jx)/\VJ w.heap.size w wr
theorem Pm (b g off k n:Nat) (id:Int) (L:List AT) (w:B1) (I:w.cell? ⟨b,0,B0⟩=Bs (.int .i64 id)) (N:Rd w w.heap.size 9 (Bs ⟨g,off,B0⟩) n (L.flatMap CD)) (U:L.length=n) (hn:n<=100000) :
  VX Tryz.prog 128 #[.slice (Bs ⟨g,off,B0⟩) n k,Dx b] w fun e w'=>e=.returned (.int .i64 (Ej (gone id) L))/\VJ w.heap.size w w':=by
 unfold Dx;have X:=LH N;clear N;go_enter Tryz.func128,Tryz.ntmps128;go_wp2_with fail;go_loopw [8] (ixRel (gone id) L n w) (fun v _=>n-(intOf v).toNat)
 case atStart=>exact⟨0,rfl,VK _,(fun x z=>by simp at z),S2 _ _⟩
 case round=>
  obtain⟨j,rfl,hj,c,f⟩:=hrel;by_cases S:(j:Int)<n
  ·obtain⟨g',o',x,O,J,z,h0,h1,h2,h3,h4,h5,h6,h7,h8⟩:=(X.o.below f).bD U (j:=j) (by omega);simp only[VN,W7,and_true] at O;obtain⟨rfl,rfl⟩:=O;have W:g<wr.heap.size:=VH J f.size;have s:=JY b id x wr ((f.cell (p:=⟨b,0,B0⟩) (V0 w _ I)).trans I);have F:j<L.length:=by omega
   have u:gone id x.m=T2->Ej (gone id) L=j:=fun t=>by
    have:L.findIdx? (fun x=>gone id x.m)=Bs j:=by
     rw[VR];refine⟨F,?_,fun i hi=>?_⟩
     ·rw[<- Wj ((K0 F).symm.trans z)] at t;exact t
     ·simp only[XX];exact c _ (by rw[Xy];exact⟨i,by omega,rfl⟩)
    unfold Ej;rw[this]
   have h:gone id x.m=Jx->∀ y∈L.take (j+1),gone id y.m=Jx:=fun t y B=>by
    rw[VV,z] at B;rcases List.mem_append.1 B with B|B
    ·exact c y B
    ·simp at B;rw[B];exact t
   have G:=LH u;clear u;have E:=LH h;clear h;have Y:=LH c;clear c;have R:=LH s;clear s;have HX:=LH z;clear z;clear I;unfold UM Dr at R;go_wp2_with fail;refine R.o.mono ?_;rintro e w2 ⟨rfl,K⟩;have A:=f.trans (K.mono f.size);have H:=LH A;clear A;rcases t:gone id x.m with _|_
   ·have M:=LH t;clear t;go_wp2_with fail;go_roundw
    case rel=>exact⟨j+1,rfl,by omega,E.o M.o,H.o⟩
    case measure=>simp[intOf];omega
   ·have M:=LH t;clear t;go_wp2_with fail;go_ret;exact⟨by rw[G.o M.o];rfl,H.o⟩
  ·obtain rfl:j=n:=by omega
   have q:Ej (gone id) L = -1:=by
    have:L.findIdx? (fun x=>gone id x.m)=B0:=by
     rw[Wk];intro x z;exact c x (by rw[VU (by omega)];exact z)
    unfold Ej;rw[this]
   have Z:=LH q;clear q c I;go_wp2_with fail;go_ret;rw[Z.o];exact⟨rfl,f⟩
def ND (w:B1) (g o:Nat) (x:AT):B1:=
 ((((((((w.setCell ⟨g,o,B0⟩ (.int .i64 x.m.ag)).setCell ⟨g,o+1,B0⟩ (.int .i64 x.m.from_)).setCell ⟨g,o+2,B0⟩ (.int .i64 x.m.a4)).setCell ⟨g,o+3,B0⟩ (.int .i64 x.m.ab)).setCell ⟨g,o+4,B0⟩ (.int .i64 x.m.n)).setCell ⟨g,o+5,B0⟩ (.int .i64 x.m.cmd.ag)).setCell ⟨g,o+6,B0⟩ (.int .i64 x.m.cmd.tx)).setCell ⟨g,o+7,B0⟩ (.int .i64 x.m.cmd.ae)).setCell ⟨g,o+8,B0⟩ (.slice x.A x.n x.k)
theorem So (w:B1) (g o:Nat) (x:AT):Fr (fun i=>i=g) w (ND w g o x):=
 (((((((((Fr.refl (fun i=>i=g) w).setCell (p:=⟨g,o,B0⟩) (.inl rfl) _).setCell (p:=⟨g,o+1,B0⟩) (.inl rfl) _).setCell (p:=⟨g,o+2,B0⟩) (.inl rfl) _).setCell (p:=⟨g,o+3,B0⟩) (.inl rfl) _).setCell (p:=⟨g,o+4,B0⟩) (.inl rfl) _).setCell (p:=⟨g,o+5,B0⟩) (.inl rfl) _).setCell (p:=⟨g,o+6,B0⟩) (.inl rfl) _).setCell (p:=⟨g,o+7,B0⟩) (.inl rfl) _).setCell (p:=⟨g,o+8,B0⟩) (.inl rfl) _
theorem set9:∀ (M:List AT) (i:Nat) (x:AT),i<M.length->
  (((((((((M.flatMap CD).set (i*9) (.int .i64 x.m.ag)).set (i*9+1) (.int .i64 x.m.from_)).set (i*9+2) (.int .i64 x.m.a4)).set (i*9+3) (.int .i64 x.m.ab)).set (i*9+4) (.int .i64 x.m.n)).set (i*9+5) (.int .i64 x.m.cmd.ag)).set (i*9+6) (.int .i64 x.m.cmd.tx)).set (i*9+7) (.int .i64 x.m.cmd.ae)).set (i*9+8) (.slice x.A x.n x.k)=(M.set i x).flatMap CD
 | [],i,x,h=>by simp at h
 | y::M,0,x,_=>by simp[CD,Bq]
 | y::M,i+1,x,h=>by
  have c:=set9 M i x (by simpa using h);have e:∀ k,(i+1)*9+k=i*9+k+9:=fun k=>by omega
  have f:(i+1)*9=i*9+9:=by omega
  rw[f,List.set_cons_succ,VI,VI,<- c];simp[CD,Bq,Nat.add_right_comm]
theorem RB {w:B1} {base g n cap i:Nat} {M:List AT} (h:w.ownsRow base 116 9 (.slice (Bs ⟨g,0,B0⟩) n cap) n (M.flatMap CD)) (x:AT) (c:i<M.length) :
  (ND w g (i*9) x).ownsRow base 116 9 (.slice (Bs ⟨g,0,B0⟩) n cap) n ((M.set i x).flatMap CD):=by
 rw[<- set9 M i x c];exact(((((((((h.stored _ _).1.stored _ _).1.stored _ _).1.stored _ _).1.stored _ _).1.stored _ _).1.stored _ _).1.stored _ _).1.stored _ _).1
def Bj (id:Int) (L:List AT):List AT:=L.filter (fun x=>!gone id x.m)
theorem q9j {w w':B1} {base e size n:Nat} {v:Hi} {xs:List Hi} (h:w.ownsRow base e size v n xs) (f:VJ w.heap.size w w'):w'.ownsRow base e size v n xs:=
 (DV f).own h (fun g c (i:w.heap.size<=g)=>by have:=(h.lt g c).2;omega)
def N4 (base c n cap:Nat) (id:Int) (L:List AT) (w:B1) (u v:Hi) (wr:B1):Prop:=
 ∃ (i j:Nat) (M:List AT),u=.int .i64 i/\v=.int .i64 j/\i<j/\j<=n/\M.length=n/\M.take i=Bj id (L.take j)/\M.drop j=L.drop j/\wr.ownsRow base 116 9 (.slice (Bs ⟨c,0,B0⟩) n cap) n (M.flatMap CD)/\Fr (fun k=>k=c) w wr
def EN (base c cap:Nat) (n:Nat) (l:List AT) (w:B1) (e:WA) (w':B1):Prop:=
 e=.returned (.slice (Bs ⟨c,0,B0⟩) l.length cap)/\w'.ownsRow base 116 9 (.slice (Bs ⟨c,0,B0⟩) l.length cap) l.length (l.flatMap CD)/\Fr (fun k=>k=c) w w'/\l.length<=n
theorem q9r {id:Int} {L:List AT} {j:Nat} {x:AT} (h:L[j]? = Bs x):Bj id (L.take (j+1))=if gone id x.m then Bj id (L.take j) else Bj id (L.take j)++[x]:=by
 unfold Bj;rw[VV,h,List.filter_append];rcases c:gone id x.m with _|_ <;> simp[c]
theorem Mf {id:Int} {L:List AT} {i:Nat} (h:Ej (gone id) L=i):i<L.length/\L.take i=Bj id (L.take (i+1)):=by
 unfold Ej at h;rcases c:L.findIdx? (fun x=>gone id x.m) with _|j
 ·rw[c] at h;simp only at h;omega
 ·rw[c] at h;have e:j=i:=by have u:(j:Int)=i:=h;omega
  subst e;rw[VR] at c;obtain⟨f,s,q⟩:=c;refine⟨f,?_⟩;rw[q9r (K0 f),if_pos s];unfold Bj;rw[List.filter_eq_self.2];intro x p;obtain⟨k,t,rfl⟩:=List.mem_take_iff_getElem.1 p;simpa using q k (by omega)
theorem R3 {id:Int} {L:List AT} (h:Ej (gone id) L = -1):Bj id L=L:=by
 unfold Ej at h;rcases c:L.findIdx? (fun x=>gone id x.m) with _|j
 ·unfold Bj;rw[List.filter_eq_self.2];intro x f;rw[Wk] at c;simpa using c x f
 ·rw[c] at h;simp only at h;omega
theorem My (id:Int) (L:List AT):Ej (gone id) L = -1\/∃ i:Nat,Ej (gone id) L=i:=by
 unfold Ej;split
 ·exact .inr ⟨_,rfl⟩
 ·exact .inl rfl
theorem Ke (base z n cap b:Nat) (id:Int) (L:List AT) (w:B1) (q:w.ownsRow base 116 9 (.slice (Bs ⟨z,0,B0⟩) n cap) n (L.flatMap CD)) (hl:L.length=n) (hn:n<=100000)
  (hb:w.cell? ⟨b,0,B0⟩=Bs (.int .i64 id)) (ah:b≠z):VX Tryz.prog 109 #[.slice (Bs ⟨z,0,B0⟩) n cap,Dx b] w (EN base z cap n (Bj id L) w):=by
 have a7:=Pm b z 0 cap n id L w hb (Rd.au q) hl hn;have a9:=V0 w _ hb;have W:=LH a7;clear a7;have Z:=LH q;clear q;have HB:=LH hb;clear hb;unfold Dx at *;rcases My id L with hf|⟨i0,hf⟩
 ·rw[hf] at W;go_enter Tryz.func109,Tryz.ntmps109;go_wp2_with fail;refine W.o.mono ?_;rintro e w1 ⟨rfl,s⟩;have A:EN base z cap n (Bj id L) w (.returned (.slice (Bs ⟨z,0,B0⟩) n cap)) w1:=by
   rw[R3 hf];unfold EN;rw[hl];exact⟨rfl,q9j Z.o s,⟨s.os,s.tape,s.output,s.size,fun k hk _=>s.block k hk⟩,L1 _⟩
  have O:=LH A;clear A;go_wp2_with fail;go_ret;exact O.o
 ·rw[hf] at W;obtain⟨ai,a6⟩:=Mf hf;have a4:((i0:Int) == -1)=Jx:=by rw[beq_eq_false_iff_ne];omega
  go_enter Tryz.func109,Tryz.ntmps109;go_wp2_with fail;refine W.o.mono ?_;rintro e w1 ⟨rfl,s⟩;have E:N4 base z n cap id L w (.int .i64 i0) (.int .i64 ((i0:Int)+1)) w1:=⟨i0,i0+1,L,rfl,rfl,by omega,by omega,hl,a6,rfl,q9j Z.o s,⟨s.os,s.tape,s.output,s.size,fun k hk _=>s.block k hk⟩⟩
  have aj:=LH E;clear E;clear hf a6;go_wp2_with fail;clear a4 ai s;go_loopw [5,6] (N4 base z n cap id L w) (fun _ v _=>n-(intOf v).toNat)
  case atStart=>exact aj.o
  case round=>
   obtain⟨i,j,M,rfl,rfl,an,hj,hM,H,U,q,G⟩:=hrel;by_cases am:(j:Int)<n
   ·have hx:M[j]? = L[j]?:=by
     have:=congrArg (fun l=>l[0]?) U;simpa using this
    obtain⟨g',o',x,hA,ap,a2,h0,h1,h2,h3,h4,h5,h6,h7,h8⟩:=(Rd.au q).bD hM (j:=j) (by omega);simp only[VN,W7,and_true] at hA;obtain⟨rfl,rfl⟩:=hA;rw[Wg] at h0 h1 h2 h3 h4 h5 h6 h7 h8;have a3:L[j]? = Bs x:=hx▸a2;have S:Fr (fun _=>False) wr (wr.alloc (.cells (Bq x.m x.A x.n x.k) 116)):=(Fr.refl _ _).alloc _;have a8:=(S.cell (p:=⟨b,0,B0⟩) (VH a9 G.size) (fun h=>h)).trans ((G.cell (p:=⟨b,0,B0⟩) a9 ah).trans HB.o);have N:=JY b id x _ a8;have aa:Ab (wr.alloc (.cells (Bq x.m x.A x.n x.k) 116)) wr.heap.size 116 (Bq x.m x.A x.n x.k):=Ab.new wr _ _;have I:=S.own q (fun _ _ h=>h);unfold UM Dr Bq at *;have HC:=LH N;clear N;have ag:=LH aa;clear aa;have ak:=LH I;clear I;have ae:=LH (G.trans' S (fun _ _ h=>h.elim));clear G S;have ac:=LH H;clear H;have ad:=LH U;clear U;have ab:=LH a3;clear a3 hx a2 a8;have HM:=LH hM;clear hM;go_wp2_with fail;refine HC.o.mono ?_;rintro e R ⟨rfl,a1⟩;have K:Fr (fun k=>k=z) w R:=ae.o.trans' (DV a1) (fun i hi (h:_<=i)=>by have:=ae.o.size;simp at h this;omega);have f:=q9j ak.o a1;have u:Ab R wr.heap.size 116 #[.int .i64 x.m.ag,.int .i64 x.m.from_,.int .i64 x.m.a4,.int .i64 x.m.ab,.int .i64 x.m.n,.int .i64 x.m.cmd.ag,.int .i64 x.m.cmd.tx,.int .i64 x.m.cmd.ae,.slice x.A x.n x.k]:=ag.o.below a1 ag.o.lt;have af:=LH K;clear K;rcases hp:gone id x.m with _|_
    ·have B:=q9r (id:=id) ab.o;rw[hp,if_neg (by simp)] at B;have a0:i<M.length:=by rw[HM.o];omega
     have q0:=u.cell 0;have q1:=u.cell 1;have q2:=u.cell 2;have q3:=u.cell 3;have q4:=u.cell 4;have q5:=u.cell 5;have q6:=u.cell 6;have q7:=u.cell 7;have q8:=u.cell 8;simp only[Ft,N2,D0] at q0 q1 q2 q3 q4 q5 q6 q7 q8;obtain⟨g',o',y,hA,_,_,p0,p1,p2,p3,p4,p5,p6,p7,p8⟩:=(Rd.au f).bD HM.o (j:=i) (by omega);simp only[VN,W7,and_true] at hA;obtain⟨rfl,rfl⟩:=hA;rw[Wg] at p0 p1 p2 p3 p4 p5 p6 p7 p8;have f0:=f.frozenAt (i*9);have f1:=f.frozenAt (i*9+1);have f2:=f.frozenAt (i*9+2);have f3:=f.frozenAt (i*9+3);have f4:=f.frozenAt (i*9+4);have f5:=f.frozenAt (i*9+5);have f6:=f.frozenAt (i*9+6);have f7:=f.frozenAt (i*9+7);have f8:=f.frozenAt (i*9+8);have ao:z<R.heap.size:=(f.lt z rfl).2;have X:=RB f x a0;have t:N4 base z n cap id L w (.int .i64 ((i:Int)+1)) (.int .i64 ((j:Int)+1)) (ND R z (i*9) x):=by
      refine⟨i+1,j+1,M.set i x,rfl,rfl,by omega,by omega,by rw[List.length_set];exact HM.o,?_,?_,X,af.o.trans (So R z (i*9) x)⟩
      ·rw[B,<- ac.o,VV,List.take_set,List.getElem?_set_self a0,List.set_eq_of_length_le (by rw[Wz];omega)];simp
      ·rw[List.drop_set_of_lt (by omega),<- Xi,ad.o,Xi]
     have F:=LH t;clear t X B a0;have HP:=LH hp;clear hp;have ar:=LH f;clear f;clear u h0 h1 h2 h3 h4 h5 h6 h7 h8;unfold ND at F;go_wp2_with fail;go_roundw
     ·exact F.o
     ·simp[intOf];omega
    ·have B:=q9r (id:=id) ab.o;rw[hp,if_pos rfl] at B;have t:N4 base z n cap id L w (.int .i64 i) (.int .i64 ((j:Int)+1)) R:=
      ⟨i,j+1,M,rfl,rfl,by omega,by omega,HM.o,by rw[ac.o,B],by rw[<- Xi,ad.o,Xi],f,af.o⟩
     have F:=LH t;clear t B f;have HP:=LH hp;clear hp u h0 h1 h2 h3 h4 h5 h6 h7 h8;go_wp2_with fail;go_roundw
     ·exact F.o
     ·simp[intOf];omega
   ·obtain rfl:j=n:=by omega
    have al:=(G1 q).1;have Y:L.take j=L:=VU (by omega);rw[Y] at H;have a5:(Bj id L).length=i:=by rw[<- H,Wz];omega
    have J:=qb7 q (i:=i) (by omega);rw[q7s,H] at J;obtain⟨R,aq,f,K⟩:=q5u 86 Qj Tryz.underlying86 Ip (by rfl) (by decide) J (m:=j-i) (c:=cap-i) (by omega);have s1:=q93 (size:=9) 86 q6h q6l wr z j cap i (i:Int) rfl (by omega);have s2:=Fs (size:=9) 86 q6h q6l R z j cap i (i:Int) rfl (by omega);have A:EN base z cap j (Bj id L) w (.returned (.slice (Bs ⟨z,0,B0⟩) i cap)) R:=by
     unfold EN;rw[a5];exact⟨rfl,f,G.trans K,by omega⟩
    have O:=LH A;clear A f K J q H U hM G a5 Y;go_wp2_with fail;go_ret;exact O.o
theorem J8 {P:WQ} (w:B1) (t k e:VQ) (m:Option Nat) (h:P.underlying t=Bs (.map k e)):(binOp .eql t (.map m) (.map B0)).run P w=.ok (.bool m.isNone) w:=by
 simp only[binOp];simp[run_equal_map_nil w t k e m h]
theorem Pk (b:Nat) (w:B1):VX Tryz.prog 128 #[.slice B0 0 0,Dx b] w fun e w'=>e=.returned (.int .i64 (-1))/\w=w':=by
 unfold Dx;go_enter Tryz.func128,Tryz.ntmps128;go_wp2_with fail;go_loopw [8] (fun v wr=>v=.int .i64 0/\wr=w) (fun _ _=>0)
 case atStart=>exact⟨rfl,rfl⟩
 case round=>
  obtain⟨rfl,rfl⟩:=hrel;go_wp2_with fail;go_ret;exact⟨rfl,rfl⟩
theorem Kc (b:Nat) (w:B1):VX Tryz.prog 109 #[.slice B0 0 0,Dx b] w fun e w'=>e=.returned (.slice B0 0 0)/\w=w':=by
 have c:=Pk b w;unfold Dx at *;have f:=LH c;clear c;go_enter Tryz.func109,Tryz.ntmps109;go_wp2_with fail;refine f.o.mono ?_;rintro e h ⟨rfl,rfl⟩;go_wp2_with fail;go_ret;exact⟨rfl,rfl⟩
def DfNet (base:Nat) (V:Hi) (l:List AT) (w:B1) (e:WA) (w':B1):Prop:=
 ∃ V',e=.returned V'/\(∃ A n c,V'=.slice A n c)/\w'.ownsRow base 116 9 V' l.length (l.flatMap CD)/\Fr (fun k=>Bs k=V.ownBlock) w w'/\V'.ownBlock=V.ownBlock
theorem Kd (base b n:Nat) (V:Hi) (id:Int) (L:List AT) (w:B1) (c:w.ownsRow base 116 9 V n (L.flatMap CD)) (k:L.length=n) (q:n<=100000) (s:w.cell? ⟨b,0,B0⟩=Bs (.int .i64 id)) (f:V.ownBlock≠Bs b) :
  VX Tryz.prog 109 #[V,Dx b] w (DfNet base V (Bj id L) w):=by
 rcases c.2 with ⟨rfl,v⟩|⟨p,cap,x,rfl,_⟩
 ·subst v;have j:L=[]:=List.eq_nil_of_length_eq_zero k;subst j;refine(Kc b w).mono ?_;rintro e w' ⟨rfl,rfl⟩;exact⟨_,rfl,⟨_,_,_,rfl⟩,c,Fr.refl _ _,rfl⟩
 ·refine(Ke base p n cap b id L w c k q s (fun e=>f (by rw[e];rfl))).mono ?_;rintro e w' ⟨rfl,u,t,_⟩;exact⟨_,rfl,⟨_,_,_,rfl⟩,u,t.mono (fun i _ (h:i=p)=>by rw[h];rfl),rfl⟩
def DNew (D c:Option Nat) (n:Nat):Prop:=c=D\/∃ b,c=Bs b/\n<=b
def KC (base g off:Nat) (T:VQ) (cs:Array Hi) (V:Hi) (D:Option Nat) (nd:Nat) (L:List AT) (dead:Int->Bool) (lost id:Int) (w:B1) (e:WA) (w':B1):Prop:=
 ∃ V' c d lost',e=.returned (.int .i64 d)/\d=(L.length:Int)-(Bj id L).length/\AJ w' base g off T (((cs.setIfInBounds (off+1) (.map c)).setIfInBounds off V').setIfInBounds (off+2) (.int .i64 lost')) V' c (nd+1) (Bj id L) (fun i=>decide (i=id) || dead i) lost'/\
  Fr (BR g V D) w w'/\V'.ownBlock=V.ownBlock/\DNew D c w.heap.size
theorem Sw {w':B1} {nd b:Nat} {dead:Int->Bool} {id:Int} (h:Aa BC w' b (nd+1) (AU (fun i=>if dead i then Bs (.bool T2) else B0) id (Bs (.bool T2)))):Bl w' (nd+1) (Bs b) (fun i=>decide (i=id) || dead i):=by
 have e:(AU (fun i=>if dead i then Bs (.bool T2) else B0) id (Bs (.bool T2)):Int->Option Hi)=fun i=>if (decide (i=id) || dead i) then Bs (.bool T2) else B0:=by
  funext i;by_cases c:i=id
  ·subst c;rw[q9d];simp
  ·rw[GU c];simp[c]
 unfold Bl;rw[e] at h;exact h
theorem LM {w w':B1} {base g off nd b:Nat} {T:VQ} {cs:Array Hi} {V:Hi} {L:List AT} {dead:Int->Bool} {lost id:Int}
  (h:AJ w base g off T cs V (Bs b) nd L dead lost) (p:Aa BC w' b (nd+1) (AU (fun i=>if dead i then Bs (.bool T2) else B0) id (Bs (.bool T2)))) (c:Fr (fun k=>k=b) w w') :
  AJ w' base g off T cs V (Bs b) (nd+1) L (fun i=>decide (i=id) || dead i) lost:=
 ⟨c.ah h.ah (fun e=>h.down.a6 h.ah (by rw[e])),h.c0,h.c1,h.c2,c.own h.row (fun k j (e:k=b)=>by subst e;exact h.down.aG h.row rfl j),fun x f=>⟨c.own (h.own x f).1 (fun k j (e:k=b)=>by subst e;exact h.down.aG (h.own x f).1 rfl j),(h.own x f).2⟩,Sw p,h.len,h.ne,VO h.bg c.size⟩
theorem RK {w:B1} {base g off nd:Nat} {T:VQ} {cs:Array Hi} {V:Hi} {L:List AT} {dead:Int->Bool} {lost:Int} (h:AJ w base g off T cs V B0 nd L dead lost) :
  AJ ((w.alloc (.map #[] 0)).setCell ⟨g,off+1,B0⟩ (.map (Bs w.heap.size))) base g off T (cs.setIfInBounds (off+1) (.map (Bs w.heap.size))) V (Bs w.heap.size) nd L dead lost:=by
 have k:off+1<cs.size:=by
  have:=h.c1;rcases W9 (off+1) cs.size with h|h
  ·exact h
  ·rw[WX (by simpa using h)] at this;cases this
 have f:=h.fr ((Fr.refl (fun _=>False) w).alloc (.map #[] 0)) (fun h=>h) (fun _ _ h=>h) (fun _ _ h=>h) (fun _ _ _ _ _ h=>h);have c:=Fr.ax g (w.alloc (.map #[] 0)) (off+1) (.map (Bs w.heap.size));have q:Aa BC (w.alloc (.map #[] 0)) w.heap.size nd (fun i=>if dead i then Bs (.bool T2) else B0):=by
  have e:(fun i=>if dead i then Bs (.bool T2) else B0:Int->Option Hi)=fun _=>B0:=by funext i;rw[h.down i];rfl
  rw[e];exact(Aa.made BC w).mono (VK _)
 refine⟨f.ah.aC _ _,?_,by simp[k],?_,c.own f.row (fun b p e=>by subst e;exact Be f.row f.ah (fun e=>h.ne.1 e.symm) p),fun x j=>⟨c.own (f.own x j).1 (fun b p e=>by subst e;exact Be (f.own x j).1 f.ah (fun e=>h.ne.2 e.symm) p),(f.own x j).2⟩,?_,h.len,h.ne,VO f.bg c.size⟩
 ·rw[We (by omega)];exact h.c0
 ·rw[We (by omega)];exact h.c2
 ·exact Aa.fr q c (fun e=>Aa.a6 q f.ah e)
theorem LL {w w5:B1} {base g off nd:Nat} {T:VQ} {cs:Array Hi} {V V':Hi} {D:Option Nat} {L l:List AT} {dead:Int->Bool} {lost:Int}
  (h:AJ w base g off T cs V D nd L dead lost) (i:w5.ownsRow base 116 9 V' l.length (l.flatMap CD)) (s:Fr (fun k=>Bs k=V.ownBlock) w w5) (E:V'.ownBlock=V.ownBlock) (B:∀ x∈l,x∈L) (q:l.length<=200:=by omega) :
  AJ (w5.setCell ⟨g,off,B0⟩ V') base g off T (cs.setIfInBounds off V') V' D nd l dead lost:=by
 have t:¬Bs g=V.ownBlock:=fun e=>Be h.row h.ah (fun e=>h.ne.1 e.symm) e.symm
 have j:Ab w5 g T cs:=s.ah h.ah t;have c:Fr (fun k=>k=g) w5 (w5.setCell ⟨g,off,B0⟩ V'):=Fr.ax g w5 off V';have p:off<cs.size:=by
  rcases W9 off cs.size with v|v
  ·exact v
  ·have:=h.c0;rw[WX v] at this;cases this
 refine⟨j.aC _ _,by simp[p],?_,?_,c.own i (fun b f e=>by subst e;exact Be i j (fun e=>h.ne.1 e.symm) f),fun y A=>?_,?_,q,h.ne,VO h.bg (VO s.size c.size)⟩
 ·rw[We (by omega)];exact h.c1
 ·rw[We (by omega)];exact h.c2
 ·have u:=h.own y (B y A);have z:=s.own u.1 (fun b f e=>E0 u.1 h.row (by decide) f e.symm);exact⟨c.own z (fun b f e=>by subst e;exact Be z j (fun e=>h.ne.2 e.symm) f),u.2⟩
 ·refine(h.down.fr s (fun b f e=>?_)).fr c (fun b f e=>?_)
  ·exact h.down.aG h.row f e.symm
  ·subst e;exact h.down.a6 h.ah f
theorem Sv (base g off nd:Nat) (T:VQ) (cs:Array Hi) (V:Hi) (D:Option Nat) (L:List AT) (dead:Int->Bool) (lost id:Int) (w:B1)
  (hI:AJ w base g off T cs V D nd L dead lost) (al:E3 id) (aq:nd<1000000) :
  VX Tryz.prog 83 #[.pointer (Bs ⟨g,off,B0⟩),.int .i64 id] w (KC base g off T cs V D nd L dead lost id w):=by
 have a0:Fr (fun _=>False) w (w.alloc (.cells #[.int .i64 id] 3)):=(Fr.refl _ _).alloc _;have G:=hI.fr a0 (fun h=>h) (fun _ _ h=>h) (fun _ _ h=>h) (fun _ _ _ _ _ h=>h);have ae:Ab (w.alloc (.cells #[.int .i64 id] 3)) w.heap.size 3 #[.int .i64 id]:=Ab.new w _ _;have av:=hI.ah.lt;have c1:=(G.ah.cell (off+1)).trans G.c1;have f1:=G.ah.frozen (off+1);have HI:=LH hI;clear hI;have x:=LH G;clear G;have a5:=LH ae;clear ae;have am:=LH a0;clear a0;have aj:=fun W=>J8 W 60 _ _ D Tryz.underlying60
 rcases D with _|b
 case' none=>
  have ak:=@YK Tryz.prog;have u:=RK x.o;have a8:=((x.o.fr ((Fr.refl (fun _=>False) _).alloc (.map #[] 0)) (fun h=>h) (fun _ _ h=>h) (fun _ _ h=>h) (fun _ _ _ _ _ h=>h)).ah.cell (off+1)).trans x.o.c1;have a7:=(x.o.fr ((Fr.refl (fun _=>False) _).alloc (.map #[] 0)) (fun h=>h) (fun _ _ h=>h) (fun _ _ h=>h) (fun _ _ _ _ _ h=>h)).ah.frozen (off+1);have E:=(Fr.ax g ((w.alloc (.cells #[.int .i64 id] 3)).alloc (.map #[] 0)) (off+1) (.map (Bs (w.heap.size+1)))).ah (a5.o.alloc (.map #[] 0)) (fun h=>by omega);have z:Fr (BR g V B0) w (((w.alloc (.cells #[.int .i64 id] 3)).alloc (.map #[] 0)).setCell ⟨g,off+1,B0⟩ (.map (Bs (w.heap.size+1)))):=(((Fr.refl _ _).alloc _).alloc _).setCell (p:=⟨g,off+1,B0⟩) (.inl (.inl rfl)) _;simp only[World.size_alloc] at u;have B:((w.alloc (.cells #[.int .i64 id] 3)).alloc (.map #[] 0)).setCell ⟨g,off+1,B0⟩ (.map (Bs (w.heap.size+1)))=((w.setCell ⟨g,off+1,B0⟩ (.map (Bs (w.heap.size+1)))).alloc (.cells #[.int .i64 id] 3)).alloc (.map #[] 0):=by
   rw[Yl _ _ _ _ (by simp;omega),Yl _ _ _ _ (by omega)]
  rw[B] at u E z;clear B;have v:=LH u;clear u;have I:=LH E;clear E;have a3:=LH z;clear z;have a4:=LH (show DNew B0 (Bs (w.heap.size+1)) w.heap.size from .inr ⟨_,rfl,by omega⟩);have a2:=LH (show ∀ i,i<w.heap.size->BR g V (Bs (w.heap.size+1)) i->BR g V B0 i from fun i hi h=>by
   rcases h with h|h|h
   ·exact .inl h
   ·exact .inr (.inl h)
   ·injection h with h;omega)
  go_enter Tryz.func83,Tryz.ntmps83;go_upto_region 3 with (fail)
  clear a8 a7 ak;generalize hb:w.heap.size+1=b at *;generalize ((w.setCell ⟨g,off+1,B0⟩ (.map (Bs b))).alloc (.cells #[.int .i64 id] 3)).alloc (.map #[] 0)=w3 at *
 case' some=>
  have u:AJ (w.alloc (.cells #[.int .i64 id] 3)) base g off T (cs.setIfInBounds (off+1) (.map (Bs b))) V (Bs b) nd L dead lost:=by rw[q5g x.o.c1];exact x.o
  have z:Fr (BR g V (Bs b)) w (w.alloc (.cells #[.int .i64 id] 3)):=(Fr.refl _ _).alloc _;have v:=LH u;clear u;have I:=LH a5.o;have a3:=LH z;clear z;have a4:=LH (show DNew (Bs b) (Bs b) w.heap.size from .inl rfl);have a2:=LH (show ∀ i,i<w.heap.size->BR g V (Bs b) i->BR g V (Bs b) i from fun i _ h=>h);go_enter Tryz.func83,Tryz.ntmps83;go_upto_region 3 with (fail)
  generalize w.alloc (.cells #[.int .i64 id] 3)=w3 at *
 all_goals
  clear aj c1 f1 x a5 am;have n1:=(v.o.ah.cell (off+1)).trans v.o.c1;have i0:=I.o.cell 0;simp only[Ft,D0] at i0;refine nW ?_;refine Tr (fun w'=>w'.cell? ⟨g,off+1,B0⟩=Bs (.map (Bs b))/\w'.cell? ⟨w.heap.size,0,B0⟩=Bs (.int .i64 id)) 5 ?_;have A:=Wm n1 i0;refine nE 0 A ?_;refine nE 1 A ?_;refine nE 2 A ?_;refine nC 3 rfl (fun _ _ _ h=>h) A (fun w' a1=>by obtain⟨h0,h1⟩:=a1;go_simp;rfl) ?_;refine nC 4 rfl (fun _ _ _ h=>h) A (fun w' a1=>by obtain⟨h0,h1⟩:=a1;go_simp;rfl) ?_;refine nG 5 (fun K hK=>?_);refine Gw (C:=BC) 60 4 Tryz.underlying60 (.tmp 18) (.tmp 19) _ rfl rfl (show Aa BC w3.drew b nd _ from v.o.down) (by unfold VZ;omega) id (.bool T2) rfl rfl al ?_;intro w4 a9 f;have f:Fr (fun k=>k=b) w3 w4:=⟨f.os,f.tape,f.output,f.size,f.block⟩
  have ac:=LM v.o a9 f;have R:=f.ah I.o (fun e=>v.o.down.a6 I.o (by rw[e]));have U:Fr (BR g V (Bs b)) w3 w4:=f.mono (fun i _ (h:i=b)=>.inr (.inr (by rw[h])));have c:=LH ac;clear ac;have H:=LH R;clear R;have Z:=LH U;clear U a9 f n1 i0 A v I;refine hK _ _ nZ ?_;clear hK K;refine nX ?_;obtain⟨A',c',N,ax,_⟩:=AK c.o.row;have n0:=(c.o.ah.cell off).trans c.o.c0;have n2:=c.o.ah.frozen off;rw[N] at n0;have i0:=H.o.cell 0;simp only[Ft,D0] at i0;have J:=Kd base w.heap.size L.length V id L w4 c.o.row rfl (by have:=c.o.len;omega) i0 (fun e=>Be c.o.row H.o (by decide) e);unfold Dx at J;rw[N] at J;have ai:=LH J;clear J;have af:=LH N;clear N;have ap:=c.o.ah.lt;go_wp2_with fail;refine ai.o.mono ?_;rintro e w5 ⟨V',rfl,_,t,F,j⟩;rw[<- af.o] at F j;have ab:=LL c.o t F j (fun y hy=>(List.mem_filter.1 hy).1) (VO (WD _ _) c.o.len);obtain⟨A5,c5,rfl,aw,_⟩:=AK t;have au:(Bj id L).length<=L.length:=WD _ _;have ar:=c.o.len;have aa:¬Bs g=V.ownBlock:=fun e=>Be c.o.row c.o.ah (fun e=>c.o.ne.1 e.symm) e.symm
  have M:=F.ah c.o.ah aa;have y0:=M.cell off;have y1:=M.frozen off;rw[c.o.c0,af.o] at y0;have ao:=M.lt;have q:Fr (fun k=>k=g) w5 (w5.setCell ⟨g,off,B0⟩ (.slice A5 (Bj id L).length c5)):=Fr.ax g w5 off _;have ad:Fr (BR g V (Bs b)) w4 (w5.setCell ⟨g,off,B0⟩ (.slice A5 (Bj id L).length c5)):=(F.mono (T:=BR g V (Bs b)) (fun i _ h=>.inr (.inl h))).trans' q (fun i _ h=>.inl h);have s:=LH ab;clear ab;have ah:=LH ad;clear ad;have Y:=LH j;clear j;clear M q aa t F n0 n2 i0;go_upto_region 6 with (fail)
  generalize w5.setCell ⟨g,off,B0⟩ (.slice A5 (Bj id L).length c5)=w6 at *;have z0:=(s.o.ah.cell off).trans s.o.c0;have z2:=(s.o.ah.cell (off+2)).trans s.o.c2;have zf:=s.o.ah.frozen (off+2);have an:=s.o.ah.lt;have S:=a3.o.trans' (Z.o.trans ah.o) a2.o;have q:=Fr.ax g w6 (off+2) (.int .i64 (Xa (lost+((L.length:Int)-(Bj id L).length))));have O:=Jn s.o (Xa (lost+((L.length:Int)-(Bj id L).length)));have X:KC base g off T cs V _ nd L dead lost id w (.returned (.int .i64 ((L.length:Int)-(Bj id L).length))) (w6.setCell ⟨g,off+2,B0⟩ (.int .i64 (Xa (lost+((L.length:Int)-(Bj id L).length))))).drew:=
   ⟨_,Bs b,_,_,rfl,rfl,O.fr ((Fr.refl (fun _=>False) _).drew) (fun h=>h) (fun _ _ h=>h) (fun _ _ h=>h) (fun _ _ _ _ _ h=>h),(S.trans' q (fun i _ h=>.inl h)).drew,Y.o,a4.o⟩
  have q0:=(O.ah.cell off).trans O.c0;have ag:=LH X;clear X S q O s a3 Z ah a2 a4 Y c H ai;have a6:IntKind.i64.wrap ((L.length:Int)-(Bj id L).length)=(L.length:Int)-(Bj id L).length:=V8 _ ⟨by omega,by omega⟩;refine wp_region_still_tail 12 (by kernel_rfl) (by kernel_rfl) ?_;change wpStill _ _ (Ym _) _ _ _;simp only[WU,List.take_zero,Xd,List.drop_zero]
  repeat still_step
  clear a6;refine wpStill_nil ?_;change Yb _ _ _ _ _ (Ym _);go_wp2_with fail;go_ret;exact ag.o
abbrev Sx:=List UInt8
structure Kx where
 h:Int->Option Int
 ws:List (Int×Int)
abbrev Tb:=Sx->Option Kx
structure Ak where
 tx:Int
 key:Sx
 mode:Int
deriving DecidableEq
def AN (m mode:Int):Bool:=decide (m=2) || decide (mode=2)
def Ax (h:Int->Option Int) (tx:Int):Int:=(h tx).getD 0
def N0 (h:Int->Option Int) (tx mode:Int):Prop:=∀ o m,h o=Bs m->o≠tx->AN m mode=Jx
def qbm (c:List (Int×Int)) (tx mode:Int):Bool:=c.any fun w=>decide (w.1<tx) && AN w.2 mode
def Cq (h:Int->Option Int) (tx mode:Int) (c:List (Int×Int)):Prop:=mode<=Ax h tx\/(N0 h tx mode/\qbm c tx mode=Jx)
open Classical in
noncomputable def As (h:Int->Option Int) (tx mode:Int) (c:List (Int×Int)):Bool:=decide (Cq h tx mode c)
def AW (h:Int->Option Int) (tx:Int) (v:Option Int):Int->Option Int:=fun o=>if o=tx then v else h o
def Aj (h:Int->Option Int) (tx mode:Int):Int->Option Int:=AW h tx (Bs (max (Ax h tx) mode))
def BY (c:List (Int×Int)) (w:Int×Int):List (Int×Int):=c.takeWhile (fun x=>decide (x.1<w.1))++w::c.dropWhile (fun x=>decide (x.1<w.1))
def HJ (h:Int->Option Int) (tx mode:Int) (l:List Int):Prop:=l.Pairwise (· < ·)/\∀ o,o∈l↔(tx<o/\∃ m,h o=Bs m/\AN m mode=T2)
noncomputable def DU:(Int->Option Int)->List (Int×Int)->List (Int×Int)->(Int->Option Int)×List (Int×Int)×List (Int×Int)
 | h,left,[]=>(h,left,[])
 | h,left,w::ws=>if As h w.1 w.2 left then
   ((DU (Aj h w.1 w.2) left ws).1,(DU (Aj h w.1 w.2) left ws).2.1,w::(DU (Aj h w.1 w.2) left ws).2.2)
  else DU h (left++[w]) ws
def AC (c:List (Int×Int)) (tx:Int):List (Int×Int):=c.filter fun w=>!decide (w.1=tx)
noncomputable def BV (k:Kx) (tx:Int):Kx×List (Int×Int):=
 (⟨(DU (AW k.h tx B0) [] (AC k.ws tx)).1,(DU (AW k.h tx B0) [] (AC k.ws tx)).2.1⟩,(DU (AW k.h tx B0) [] (AC k.ws tx)).2.2)
def qae (k:Kx):Prop:=(∀ o,k.h o=B0)/\k.ws=[]
open Classical in
noncomputable def Eh (k:Kx) (tx:Int):Option Kx:=if qae (BV k tx).1 then B0 else Bs (BV k tx).1
noncomputable def Bh (T:Tb) (tx:Int):Tb:=fun x=>(T x).bind fun k=>Eh k tx
noncomputable def Lu (T:Tb) (tx:Int) (x:Sx):List Ak:=match T x with
 | none=>[]
 | some k=>(BV k tx).2.map fun g=>⟨g.1,x,g.2⟩
def Gr (T:Tb) (ks:List Sx):Prop:=ks.Pairwise (· < ·)/\∀ x,x∈ks↔T x≠B0
open Classical in
noncomputable def Ap (T:Tb) (x:Sx) (k:Option Kx):Tb:=fun y=>if y=x then k else T y
def k0:Kx:=⟨fun _=>B0,[]⟩
def Ac (T:Tb) (x:Sx):Kx:=(T x).getD k0
theorem Fp {α:Type} {lt:α->α->Prop} (j:∀ a,¬lt a a) (k:∀ a b c,lt a b->lt b c->lt a c) {l m:List α} (i:l.Pairwise lt) (f:m.Pairwise lt) (p:∀ a,a∈l↔a∈m):l=m:=by
 have nd:∀ {l:List α},l.Pairwise lt->l.Nodup:=fun h=>List.Pairwise.imp (R:=lt) (by intro a b h e;subst e;exact j _ h) h
 exact List.Perm.eq_of_pairwise (le:=lt) (fun a b _ _ s q=>absurd (k _ _ _ s q) (j a)) i f ((List.perm_ext_iff_of_nodup (nd i) (nd f)).2 p)
theorem Li {l m:List Int} (f:l.Pairwise (· < ·)) (c:m.Pairwise (· < ·)) (h:∀ a,a∈l↔a∈m):l=m:=
 Fp (fun a=>Int.lt_irrefl a) (fun _ _ _ j i=>Int.lt_trans j i) f c h
def DL (l:List Int):List Int:=l.mergeSort (fun x y=>decide (x<=y))
def IY (l:List Sx):List Sx:=l.mergeSort (fun x y=>decide (x<=y))
theorem IZ {l:List Int} (h:l.Nodup):(DL l).Pairwise (· < ·):=by
 have c:=List.pairwise_mergeSort (le:=fun x y:Int=>decide (x<=y)) (fun _ _ _ c f=>by simp at *;omega) (fun a b=>by simp;omega) l;have f:(DL l).Nodup:=((YT l _).nodup_iff).2 h;exact c.imp₂ (fun a b c (f:a≠b)=>by simp at c;omega) f
theorem Q0 {l:List Sx} (h:l.Nodup):(IY l).Pairwise (· < ·):=by
 have f:=List.pairwise_mergeSort (le:=fun x y:Sx=>decide (x<=y)) (fun a b c f i=>by simp only[decide_eq_true_eq] at *;exact List.le_trans f i) (fun a b=>by simpa using List.le_total a b) l;have i:(IY l).Nodup:=((YT l _).nodup_iff).2 h;refine f.imp₂ (fun a b f (i:a≠b)=>?_) i;simp only[decide_eq_true_eq] at f;exact Wl fun h=>i (List.le_antisymm f (List.not_lt.1 h))
theorem FR {l:List Int} {a:Int} : a∈DL l↔a∈l:=(YT l _).mem_iff
theorem O6 {l:List Sx} {a:Sx} : a∈IY l↔a∈l:=(YT l _).mem_iff
def BW (m:Int):Prop:=m=1\/m=2
theorem TA {h:Int->Option Int} {tx mode:Int} {c:List (Int×Int)} : As h tx mode c=T2↔Cq h tx mode c:=by classical (unfold As;exact decide_eq_true_iff)
theorem q9v {h:Int->Option Int} {tx mode:Int} {c:List (Int×Int)} : As h tx mode c=Jx↔¬Cq h tx mode c:=by classical (unfold As;exact decide_eq_false_iff_not)
theorem Jg {c:List (Int×Int)} (h:c.Pairwise (·.1 < ·.1)) (tx:Int):(AC c tx).Pairwise (·.1 < ·.1):=X1 _ h
theorem q2h (h:Int->Option Int) (left:List (Int×Int)):DU h left []=(h,left,[]):=by simp[DU]
theorem relK0 (tx:Int):(BV k0 tx).1.h=(fun _=>B0)/\(BV k0 tx).1.ws=[]:=by
 have e:AW (fun _=>B0) tx B0=fun _=>B0:=by funext o;unfold AW;split <;> rfl
 unfold BV k0;simp[AC,q2h,e]
def CC (c:List (Int×Int)) (tx:Int):Bool:=c.any fun w=>decide (w.1=tx)
inductive DA (T:Tb) (x:Ak):Bool->List Int->Int->Tb->Prop where
 | arg (h:¬BW x.mode):DA T x Jx [] 1 T
 | long (h:BW x.mode) (hl:20<x.key.length):DA T x Jx [] 4 T
 | twice (h:BW x.mode) (hl:x.key.length<=20) (hw:CC (Ac T x.key).ws x.tx=T2):DA T x Jx [] 9 T
 | got (h:BW x.mode) (hl:x.key.length<=20) (hw:CC (Ac T x.key).ws x.tx=Jx) (hf:As (Ac T x.key).h x.tx x.mode (Ac T x.key).ws=T2) :
   DA T x T2 [] 0 (Ap T x.key (Bs ⟨Aj (Ac T x.key).h x.tx x.mode,(Ac T x.key).ws⟩))
 | full (h:BW x.mode) (hl:x.key.length<=20) (hw:CC (Ac T x.key).ws x.tx=Jx) (hf:As (Ac T x.key).h x.tx x.mode (Ac T x.key).ws=Jx) (h50:(Ac T x.key).ws.length=50):DA T x Jx [] 4 T
 | waits (h:BW x.mode) (hl:x.key.length<=20) (hw:CC (Ac T x.key).ws x.tx=Jx) (hf:As (Ac T x.key).h x.tx x.mode (Ac T x.key).ws=Jx) (h50:(Ac T x.key).ws.length≠50)
   {l:List Int} (hl:HJ (Ac T x.key).h x.tx x.mode l):DA T x Jx l 0 (Ap T x.key (Bs ⟨(Ac T x.key).h,BY (Ac T x.key).ws (x.tx,x.mode)⟩))
theorem Hk (tx mode:Int):As k0.h tx mode k0.ws=T2:=TA.2 (.inr ⟨fun _ _ h=>(by cases h),rfl⟩)
theorem qcn (T:Tb) (x y:Sx) (k:Kx):Ac (Ap T x (Bs k)) y=if y=x then k else Ac T y:=by
 unfold Ac Ap;split <;> rfl
theorem q4r {c:List (Int×Int)} {w v:Int×Int} : v∈BY c w↔v=w\/v∈c:=by
 unfold BY;have:v∈c↔v∈c.takeWhile (fun x=>decide (x.1<w.1))\/v∈c.dropWhile (fun x=>decide (x.1<w.1)):=by
  rw[<- Xs,WK]
 rw[this,Xs,XZ];constructor
 ·rintro (h|h|h)
  ·exact .inr (.inl h)
  ·exact .inl h
  ·exact .inr (.inr h)
 ·rintro (h|h|h)
  ·exact .inr (.inl h)
  ·exact .inl h
  ·exact .inr (.inr h)
theorem q6a {w:Int×Int} : ∀ {f:List (Int×Int)},f.Pairwise (·.1 < ·.1)->(∀ v∈f,v.1≠w.1)->(BY f w).Pairwise (·.1 < ·.1)
 | [],_,_=>by simp[BY]
 | v::f,h,hn=>by
  rw[Yx] at h;have i:=q6a h.2 (fun u c=>hn u (VM _ c));have j:=hn v VL;by_cases e:v.1<w.1
  ·have e1:BY (v::f) w=v::BY f w:=by simp[BY,e]
   rw[e1,Yx];refine⟨fun u c=>?_,i⟩;rcases q4r.1 c with rfl|c
   ·exact e
   ·exact h.1 u c
  ·have e1:BY (v::f) w=w::v::f:=by simp[BY,e]
   rw[e1,Yx,Yx];refine⟨fun u c=>?_,h⟩;rcases List.mem_cons.1 c with rfl|c
   ·omega
   ·have:=h.1 u c;omega
theorem JO (c:List (Int×Int)) (w:Int×Int):(BY c w).length=c.length+1:=by
 have:(c.takeWhile (fun x=>decide (x.1<w.1))).length+(c.dropWhile (fun x=>decide (x.1<w.1))).length=c.length:=by
  rw[<- VP,WK]
 unfold BY;simp;omega
structure Vx where
 t:Int
 v:Sx
 g:Bool
deriving DecidableEq
structure Rx where
 key:Sx
 v:Sx
 g:Bool
 t:Int
deriving DecidableEq
abbrev Kp:=Sx->List Vx
def AB (l:List Vx) (t:Int):List Vx:=l.takeWhile (fun x=>decide (x.t<t))
def Dc (l:List Vx) (t:Int):Bool:=l.any (fun x=>decide (x.t=t))
def Cu (l:List Vx) (v:Vx):List Vx:=AB l v.t++v::l.drop (AB l v.t).length
def Cf (l:List Vx) (t:Int):Option Vx:=(l.takeWhile (fun x=>decide (x.t<=t))).getLast?
def BL (o:Option Vx):Sx×Bool:=match o with
 | none=>([],Jx)
 | some x=>if x.g then([],Jx) else(x.v,T2)
abbrev FB (l:List Vx):Prop:=l.Pairwise (·.t < ·.t)
theorem q2x {α:Type} {p:α->Bool} {l:List α} {a:α} (h:a∈l.takeWhile p):p a=T2:=by
 induction l with
 | nil=>cases h
 | cons b l c=>
  rw[Yp] at h;split at h
  ·rcases List.mem_cons.1 h with rfl|h
   ·assumption
   ·exact c h
  ·cases h
theorem q2w {l:List Vx} (hs:FB l) (t:Int) (a:Vx):a∈l.takeWhile (fun x=>decide (x.t<=t))↔a∈l/\a.t<=t:=by
 constructor
 ·intro h;exact⟨(Xm _).subset h,by simpa using q2x h⟩
 ·rintro ⟨c,i⟩;induction l with
  | nil=>cases c
  | cons b l f=>
   have hs:=List.pairwise_cons.1 hs;rw[Yp];rcases List.mem_cons.1 c with rfl|c
   ·rw[if_pos (by simpa using i)];exact VL
   ·have:=hs.1 a c;rw[if_pos (by simp;omega)];exact VM _ (f hs.2 c)
theorem Jv {l:List Vx} (hs:FB l) (t:Int) (a:Vx):a∈AB l t↔a∈l/\a.t<t:=by
 unfold AB;constructor
 ·intro h;exact⟨(Xm _).subset h,by simpa using q2x h⟩
 ·rintro ⟨c,i⟩;induction l with
  | nil=>cases c
  | cons b l f=>
   have hs:=List.pairwise_cons.1 hs;rw[Yp];rcases List.mem_cons.1 c with rfl|c
   ·rw[if_pos (by simpa using i)];exact VL
   ·have:=hs.1 a c;rw[if_pos (by simp;omega)];exact VM _ (f hs.2 c)
theorem F9 {l:List Vx} (hs:FB l) {t:Int} {x:Vx} : Cf l t=Bs x↔x∈l/\x.t<=t/\∀ y∈l,y.t<=t->y.t<=x.t:=by
 have c:FB (l.takeWhile (fun x=>decide (x.t<=t))):=hs.sublist (Xm _).sublist;unfold Cf;constructor
 ·intro h;have i:=List.mem_of_getLast? h;have p:=(q2w hs t x).1 i;refine⟨p.1,p.2,fun y s q=>?_⟩;have f:=(q2w hs t y).2 ⟨s,q⟩;obtain⟨u,e⟩:=List.getLast?_eq_some_iff.1 h;rw[e] at f c;rcases List.mem_append.1 f with j|j
  ·have:=(List.pairwise_append.1 c).2.2 y j x (by simp);omega
  ·rw[VW] at j;rw[j];omega
 ·rintro ⟨v,p,j⟩;have i:=(q2w hs t x).2 ⟨v,p⟩;cases e:(l.takeWhile (fun x=>decide (x.t<=t))).getLast? with
  | none=>rw[List.getLast?_eq_none_iff] at e;rw[e] at i;cases i
  | some y=>
   have s:=List.mem_of_getLast? e;have f:=(q2w hs t y).1 s;have A:=j y f.1 f.2;obtain⟨u,z⟩:=List.getLast?_eq_some_iff.1 e;rw[z] at i c;rcases List.mem_append.1 i with k|k
   ·have:=(List.pairwise_append.1 c).2.2 x k y (by simp);omega
   ·rw[VW] at k;rw[k]
theorem Pw {l:List Vx} (hs:FB l) {t:Int} : Cf l t=B0↔∀ y∈l,¬y.t<=t:=by
 unfold Cf;rw[List.getLast?_eq_none_iff,List.eq_nil_iff_forall_not_mem];constructor
 ·intro h y c f;exact h y ((q2w hs t y).2 ⟨c,f⟩)
 ·intro h y c;have:=(q2w hs t y).1 c;exact h y this.1 this.2
theorem Mu {l:List Vx} (hs:FB l) {t:Int} (h:Dc l t=T2):Cf l t=l[(AB l t).length]?/\(AB l t).length<l.length:=by
 unfold Dc at h;obtain⟨x,q,k⟩:=List.any_eq_true.1 h;simp only[decide_eq_true_eq] at k;have c:=WK (p:=fun x=>decide (x.t<t)) (l:=l);have f:x∈l.dropWhile (fun x=>decide (x.t<t)):=by
  rw[<- c] at q;rcases List.mem_append.1 q with i|i
  ·have:=q2x i;simp at this;omega
  ·exact i
 cases e:l.dropWhile (fun x=>decide (x.t<t)) with
 | nil=>rw[e] at f;cases f
 | cons y r=>
  have A:¬y.t<t:=by
   have:=List.head_dropWhile_not (p:=fun x=>decide (x.t<t)) (l:=l) (by rw[e];simp);simp only[e,List.head_cons] at this;simpa using this
  have j:y=x:=by
   rw[e] at f;rcases List.mem_cons.1 f with i|i
   ·exact i.symm
   ·rw[e] at c;rw[<- c] at hs;have:=(List.pairwise_cons.1 (List.pairwise_append.1 hs).2.1).1 x i;omega
  subst j;rw[e] at c;have s:l=AB l t++y::r:=c.symm;have u:l[(AB l t).length]? = Bs y:=by
   conv=>lhs;rw[s]
   rw[Wd (by exact Nat.le_of_eq (by rw[<- s]))];have B:(AB l t).length-(AB l t).length=0:=by omega
   simp[<- s]
  refine⟨?_,?_⟩
  ·rw[u];exact(F9 hs).2 ⟨q,by omega,fun z _ v=>by omega⟩
  ·exact(List.getElem?_eq_some_iff.1 u).1
theorem L4 {l:List Vx} {t:Int} (h:Dc l t=Jx):l.takeWhile (fun x=>decide (x.t<=t))=AB l t:=by
 unfold AB;unfold Dc at h;rw[XC] at h;induction l with
 | nil=>rfl
 | cons a l c=>
  have i:=h a VL;simp only[decide_eq_true_eq] at i;rw[Yp,Yp,c (fun x f=>h x (VM _ f))];by_cases e:a.t<t
  ·rw[if_pos (by simp;omega),if_pos (by simpa using e)]
  ·rw[if_neg (by simp;omega),if_neg (by simpa using e)]
theorem Mt {l:List Vx} {t:Int} (h:Dc l t=Jx):((AB l t).length=0->Cf l t=B0)/\(0<(AB l t).length->Cf l t=l[(AB l t).length-1]?/\(AB l t).length-1<l.length):=by
 unfold Cf;rw[L4 h];have f:AB l t <+: l:=Xm _;refine⟨fun i=>by rw[List.length_eq_zero_iff.1 i];rfl,fun i=>?_⟩;have j:=f.length_le;refine⟨?_,by omega⟩;rw[List.getLast?_eq_getElem?];obtain⟨r,c⟩:=f
 conv=>rhs;rw[<- c]
 rw[Wc (by rw[c];omega),c]
theorem Gf (l:List Vx) (t:Int):l.drop (AB l t).length=l.dropWhile (fun x=>decide (x.t<t)):=by
 have h:=WK (p:=fun x:Vx=>decide (x.t<t)) (l:=l);unfold AB
 conv=>lhs;arg 2;rw[<- h]
 rw[h];have:=List.drop_left (l₁:=l.takeWhile (fun x=>decide (x.t<t))) (l₂:=l.dropWhile (fun x=>decide (x.t<t)));rw[h] at this;exact this
theorem q6x {l:List Vx} {v x:Vx} : x∈Cu l v↔x=v\/x∈l:=by
 unfold Cu;rw[Gf];have:x∈l↔x∈AB l v.t\/x∈l.dropWhile (fun x=>decide (x.t<v.t)):=by
  rw[<- Xs];unfold AB;rw[WK]
 rw[this,Xs,XZ];constructor
 ·rintro (h|h|h)
  ·exact .inr (.inl h)
  ·exact .inl h
  ·exact .inr (.inr h)
 ·rintro (h|h|h)
  ·exact .inr (.inl h)
  ·exact .inl h
  ·exact .inr (.inr h)
theorem q9s {l:List Vx} {v:Vx} (hs:FB l) (k:Dc l v.t=Jx):FB (Cu l v):=by
 unfold Dc at k;rw[XC] at k;unfold Cu;rw[Gf];have h:=WK (p:=fun x:Vx=>decide (x.t<v.t)) (l:=l);have f:=hs;rw[<- h] at f;have c:=List.pairwise_append.1 f;have t:∀ x∈l.dropWhile (fun x=>decide (x.t<v.t)),v.t<x.t:=fun x i=>by
  have j:=k x ((List.dropWhile_sublist _).subset i);simp only[decide_eq_true_eq] at j;refine Wl (fun u=>?_);have z:x∈AB l v.t:=(Jv hs v.t x).2 ⟨(List.dropWhile_sublist _).subset i,by omega⟩;have:=c.2.2 x z x i;omega
 refine List.pairwise_append.2 ⟨c.1,List.pairwise_cons.2 ⟨t,c.2.1⟩,fun a y b q=>?_⟩;have s:=((Jv hs v.t a).1 y).2;rcases List.mem_cons.1 q with rfl|q
 ·exact s
 ·have:=t b q;omega
theorem qcd (l:List Vx) (v:Vx):(Cu l v).length=l.length+1:=by
 unfold Cu;have:(AB l v.t).length<=l.length:=(Xm _).length_le;simp;omega
def Im (r:Rx):Vx:=⟨r.t,if r.g then [] else r.v,r.g⟩
def BX (K:Kp) (x:Sx) (l:List Vx):Kp:=fun y=>if y=x then l else K y
section
open Go.RowKit Go.Maps Go.WideMaps
section
variable {P:WQ} {kt:VQ} {κ:Type} {C:CQ P kt κ} {w:B1} {ops:Array Oper} {rest:List Oper} {o:Oper} {a:Act} {Q:Exit->Act->B1->Prop} {b r n cnt:Nat} {m:κ->Option Hi} {left:κ->Bool}
theorem DT.left_eq (h:DT C w b r n m left cnt):w.rangeLeft b r=cnt:=by obtain⟨D,l,c,_⟩:=h;exact c.left_eq
theorem q2p (v:o.guard=B0) (j:Operand) (t e:VQ) (h:o.op=Op.range t j) (s:P.underlying t=Bs (.map kt e)) (u:a.eval j=.map (Bs b)) (f:Aa C w b n m)
  (y:∀ w' cnt,DT C w' b w.heap.size n m (fun x=>(m x).isSome) cnt->Fr (fun _=>False) w w'->w'.heap.size=w.heap.size+1->Yb P ops Q rest (a.put o.dst (.pointer (Bs ⟨w.heap.size,0,B0⟩))) w') :
  Yb P ops Q (o::rest) a w:=by
 refine wpList_plain v fun z i=>?_
 obtain⟨w',cnt,c,q,p,k⟩:=f.range s;unfold Oper.wp;simp[execOp,h,u,c,WV];exact i _ _ (y w' cnt q p k)
open Classical in
theorem q35 (I:o.guard=B0) (E:Operand) (p:o.op=Op.next E Jx) (q:a.eval E=.pointer (Bs ⟨r,0,B0⟩)) (h:DT C w b r n m left cnt)
  (j:(∀ x,C.ok x->left x=Jx)->Yb P ops Q rest (a.put o.dst (.tuple #[.bool Jx])) w)
  (i:∀ (x:κ) (v:Hi) (w':B1) (c:Nat),C.ok x->left x=T2->m x=Bs v->DT C w' b r n m (fun y=>left y && !decide (y=x)) c->c<cnt->
   Fr (fun k=>k=r) w w'->w'.heap.size=w.heap.size->(Instr.entry (.pointer (Bs ⟨r,0,B0⟩))).run P w'=.ok (.tuple #[C.val x,v]) w'->Yb P ops Q rest (a.put o.dst (.tuple #[.bool T2,C.val x,v])) w') :
  Yb P ops Q (o::rest) a w:=by
 refine wpList_plain I fun M s=>?_
 unfold Oper.wp;rcases h.next o.type with ⟨K,H,f⟩|⟨x,v,w',c,F,A,G,f,u,z,J,t,B⟩
 ·simp[execOp,p,q,f,WV];exact s _ _ (j H)
 ·simp[execOp,p,q,f,WV];exact s _ _ (i x v w' c F A G u z J t B)
end
end
theorem AV:Tryz.prog.underlying 142=Bs (.slice 145):=Tryz.underlying142
theorem KI:Tryz.prog.elem 142=145:=by kernel_rfl
theorem I8 (w:B1):(sizeOf 145).run Tryz.prog w=.ok 3 w:=by kernel_rfl
theorem GF:(Tryz.prog.info? 145).map (fun i=>(i.zero,i.size,i.bytes))=Bs (Bs (.agg #[.int .i64 0,.string ⟨#[]⟩,.bool Jx]),3,32):=by kernel_rfl
theorem q7f:(Tryz.prog.info? 145).map (·.size)=Bs 3:=by kernel_rfl
def P8 (base n i:Nat) (V:Hi) (c xs:List Hi) (w:B1) (e:WA) (w':B1):Prop:=
 ∃ V',e=.returned V'/\w'.ownsRow base 145 3 V' (n+1) (Cc 3 i c xs)/\Aq w w' V.ownBlock V'.ownBlock
theorem M5 {w:B1} {g:Nat} {cs:Array Hi} {t:VQ} (h:w.heap[g]? = Bs (.cells cs t (0,0))):w.shape? g=Bs (t,cs.size):=by
 unfold World.shape?;rw[h]
theorem IF {w:B1} {g o:Nat} {cs:Array Hi} {t:VQ} (h:w.heap[g]? = Bs (.cells cs t (0,0))):w.frozen? ⟨g,o,B0⟩=Jx:=Ab.frozen (show Ab w g t cs from h) o
theorem QB (base n B G:Nat) (V:Hi) (xs h:List Hi) (w:B1) (f:w.ownsRow base 145 3 V n xs) (S:n<=100000) (q:h.length=3) (s:∀ u∈h,u.oneCell'=T2)
  (p:Ab w B 145 h.toArray) (O:base<=w.heap.size) :
  VX Tryz.prog 108 #[V,.int .i64 n,.slice (Bs ⟨B,0,B0⟩) 1 G] w (P8 base n n V h xs w):=by
 obtain⟨A,c,rfl,N,_⟩:=AK f;obtain⟨K,H⟩:=q1b 142 AV KI I8 w A n c n (L1 _);have t:DR w w.heap.size 3 (Bs ⟨B,0,B0⟩) 1 h:=⟨by rw[q],fun _=>⟨_,rfl,p.lt,fun j u M=>by
  rw[WJ,Wg];exact(p.cell j).trans (by simpa using M)⟩⟩
 have i:Cc 3 n h xs=xs++h:=by
  unfold Cc;rw[VU (by rw[f.1];omega),Ya (by rw[f.1];omega),WM]
 have y:=LH f;clear f;have F:=LH t;clear t;have z:=LH i;clear i;have E:=LH s;clear s;clear p q;go_enter Tryz.func108,Tryz.ntmps108;go_wp2_with (at_builtin;refine q1e w rfl _ _ 142 rfl base 145 _ 3 32 AV GF rfl (by decide) _ n xs rfl y.o _ _ 1 G h rfl F.o E.o (by unfold VZ;omega) (by omega) O ?_;intro I J v x)
 have k:P8 base n n (.slice A n c) h xs w (.returned I) J:=⟨I,rfl,by rw[z.o];exact v,x⟩
 have R:=LH k;clear k v x;go_wp2_with fail;go_ret;exact R.o
theorem KW (base g n c i F N:Nat) (xs J:List Hi) (w:B1) (p:w.ownsRow base 145 3 (.slice (Bs ⟨g,0,B0⟩) n c) n xs) (hi:i<n) (y:n+1<=c) (hn:n<=100000) (M:∀ u∈xs,u.oneCell'=T2) (O:J.length=3) (R:∀ u∈J,u.oneCell'=T2)
  (s:Ab w F 145 J.toArray) (S:F≠g) (hb:base<=w.heap.size) :
  VX Tryz.prog 108 #[.slice (Bs ⟨g,0,B0⟩) n c,.int .i64 i,.slice (Bs ⟨F,0,B0⟩) 1 N] w (P8 base n i (.slice (Bs ⟨g,0,B0⟩) n c) J xs w):=by
 obtain⟨a8,a6⟩:=q1b 142 AV KI I8 w (Bs ⟨g,0,B0⟩) n c i (by omega);obtain⟨ex,Z,A⟩:=FK p y;obtain⟨a3,q1,hg,q2,q3,a0,q4⟩:=q3n p;clear q1 q2 q3 q4;have I:a3.size≠0:=by rw[a0];have:0<c*3:=Nat.mul_pos (by omega) (by decide);omega
 have a1:∀ lb cb,(XP 126 #[.slice (Bs ⟨F,0,B0⟩) 1 N,.slice (Bs ⟨g,(i+1)*3,B0⟩) lb cb]).run Tryz.prog w=.ok (.value (.bool Jx)) w:=fun lb cb=>by
  rw[run_callFunc_extern Tryz.func126 (by kernel_rfl) (by kernel_rfl) (by kernel_rfl) (e:=Extern.SlicesOverlaps.overlaps #[142,142] #[4]) (by kernel_rfl),
   Lib.run_overlaps_apart w 142 4 145 AV 3 I8 ⟨F,0,B0⟩ ⟨g,(i+1)*3,B0⟩ 1 N lb cb S _ _ _ _ (M5 s) (M5 hg) I (IF s) (IF s)]
  rfl
 have E:=p.1;obtain⟨w2,x,z,Y⟩:=TB (w:=w.drew) 142 142 145 AV q7f (show w.drew.ownsRow base 145 3 (.slice (Bs ⟨g,0,B0⟩) (n+1) c) (n+1) (xs++ex) from A) (i:=i+1) (m:=n-i) (by omega) (xs.drop (i*3))
  (by rw[W8,E,YJ]) ⟨g,i*3,B0⟩ (fun j v U=>by
   rw[WJ];rw[Yd] at U;have a2:i*3+j<n*3:=by rw[<- E];exact(List.getElem?_eq_some_iff.1 U).1
   show w.cell? _=_;exact(p.cellAt _ a2).trans U) (fun u hu=>M u (X0 hu)) (n-i) (c-(i+1)) (n+1-i) (c-i) (by show min _ _=_;omega)
 have B:Fr (fun k=>k=g) w w2:=(Fr.refl _ w).drew.trans Y;have G:Ab w2 F 145 J.toArray:=B.ah s S;obtain⟨w3,t,q,X⟩:=TB (w:=w2) 142 142 145 AV q7f z (i:=i) (m:=1) (by omega) J (by rw[O]) ⟨F,0,B0⟩ (fun j v U=>by
   rw[WJ,Wg];exact(G.cell j).trans (by simpa using U)) R (n+1-i) (c-i) 1 N (by show min _ _=_;omega)
 have a7:=(Ur p).2;rw[q9e E hi Z] at q;have H:P8 base n i (.slice (Bs ⟨g,0,B0⟩) n c) J xs w (.returned (.slice (Bs ⟨g,0,B0⟩) (n+1) c)) w3:=
  ⟨_,rfl,q,(B.trans X).mono (fun k _ h=>by rw[h];rfl),.inl rfl⟩
 have s1:=q3k 142 AV KI I8 w g n c (n+1) ((n:Int)+1) (by omega) y;have s2:=fun W=>Qd 142 AV KI I8 W g (n+1) c (i+1) ((i:Int)+1) (by omega) (by omega) (by omega)
 rw[show n+1-(i+1)=n-i by omega] at s2;have s3:=fun W=>Qd 142 AV KI I8 W g (n+1) c i (i:Int) rfl (by omega) (by omega)
 have HF:=LH H;clear H A z q Y X B p s G hg a0 I Z;have aa:IntKind.i64.wrap ((i:Int)+1)=(i:Int)+1:=V8 _ (by omega);have a9:IntKind.i64.wrap ((n:Int)+1)=(n:Int)+1:=V8 _ (by omega);have a5:=LH x;clear x;have a4:=LH t;clear t;have ab:=LH M;clear M;clear R O E;have d1:((i:Int) == (n:Int))=Jx:=by rw[beq_eq_false_iff_ne];omega
 have d2:decide ((c:Int)<(n:Int)+1)=Jx:=by rw[decide_eq_false_iff_not];omega
 go_enter Tryz.func108,Tryz.ntmps108;go_wp2_with (simp only[a1])
 refine nW ?_;refine Tr (fun _=>True) 9 ?_;have f:True:=trivial;refine nE 0 f ?_;refine nE 1 f ?_;refine nE 2 f ?_;refine nE 3 f ?_;refine nE 4 f ?_;refine nE 5 f ?_;refine nE 6 f ?_;refine nE 7 f ?_;refine nG 8 (fun K hK=>?_);refine q2j (.tmp 73) (.tmp 76) 142 142 rfl (.slice (Bs ⟨g,(i+1)*3,B0⟩) (n-i) (c-(i+1))) (.slice (Bs ⟨g,i*3,B0⟩) (n+1-i) (c-i)) _ (by simp[Xg,Xj]) (by simp[Xg,Xj]) (a5.o _) ?_;go_simp;refine hK _ _ (fun _=>f) ?_;clear hK K;refine nX ?_;clear f;go_wp2_with (refine q1p rfl (.tmp 80) (.tmp 81) 142 142 rfl (.slice (Bs ⟨g,i*3,B0⟩) (n+1-i) (c-i)) (.slice (Bs ⟨F,0,B0⟩) 1 N) _ rfl rfl (a4.o _) ?_)
 go_ret;exact HF.o
theorem Ob (base g n c i X vc:Nat) (xs O:List Hi) (w:B1) (p:w.ownsRow base 145 3 (.slice (Bs ⟨g,0,B0⟩) n c) n xs) (hi:i<n) (a5:c<n+1) (hn:n<=100000) (E:∀ u∈xs,u.oneCell'=T2) (R:O.length=3) (Z:∀ u∈O,u.oneCell'=T2)
  (S:Ab w X 145 O.toArray) (hb:base<=w.heap.size) :
  VX Tryz.prog 108 #[.slice (Bs ⟨g,0,B0⟩) n c,.int .i64 i,.slice (Bs ⟨X,0,B0⟩) 1 vc] w (P8 base n i (.slice (Bs ⟨g,0,B0⟩) n c) O xs w):=by
 obtain⟨ac,ab⟩:=q1b 142 AV KI I8 w (Bs ⟨g,0,B0⟩) n c i (by omega);have hc:=Ur p;have F:=p.1;obtain⟨i0,a1,Y,I,M⟩:=info_parts GF;have af:g<w.heap.size:=(p.lt g rfl).2;obtain⟨N,w1,q,s,G,a4⟩:=qb0 (w:=w) 142 3 i0 _ .i64 .i64 AV Tryz.underlying3 a1 Y I rfl (by decide) (q4o p (i:=i) (by omega)) (k:=n+1-i) (by omega) (by omega) (by omega) (by rw[M];decide) (fun u hu=>E u (WB hu)) hb;rw[show i+(n+1-i)=n+1 by omega] at q s;have ag:=(Ur s).1;have H:Ab w1 X 145 O.toArray:=G.ah S (fun h=>h);have A:=G.own p (fun _ _ h=>h);have aa:=S.lt;obtain⟨w2,y,B,U⟩:=TB (w:=w1) 142 142 145 AV q7f s (i:=i) (m:=1) (by omega) O (by rw[R]) ⟨X,0,B0⟩ (fun j v hj=>by
   rw[WJ,Wg];exact(H.cell j).trans (by simpa using hj)) Z (n+1-i) (N-i) 1 vc (by show min _ _=_;omega)
 have z:=U.own A (fun k hk e=>by
   have:g=k:=by simpa [V4] using hk
   omega)
 obtain⟨w3,x,t,a3⟩:=TB (w:=w2.drew) 142 142 145 AV q7f (show w2.drew.ownsRow base 145 3 (.slice (Bs ⟨w.heap.size,0,B0⟩) (n+1) N) (n+1) _ from B) (i:=i+1) (m:=n-i) (by omega) (xs.drop (i*3))
  (by rw[W8,F,YJ]) ⟨g,i*3,B0⟩ (fun j v hj=>by
   rw[WJ];rw[Yd] at hj;have a6:i*3+j<n*3:=by rw[<- F];exact(List.getElem?_eq_some_iff.1 hj).1
   show w2.cell? _=_;exact(z.cellAt _ a6).trans hj) (fun u hu=>E u (X0 hu)) (n-i) (N-(i+1)) (n-i) (c-i) (by show min _ _=_;omega)
 rw[q7o F (by omega) (by rw[Ws,size_zeroCells];rfl) R] at t;have a2:Fr (fun k=>Bs k=V4 (.slice (Bs ⟨g,0,B0⟩) n c)) w w3:=(((G.trans' U (fun k hk (e:k=w.heap.size)=>by omega)).drew).trans' a3 (fun k hk (e:k=w.heap.size)=>by omega)).mono (fun k _ h=>h.elim);have J:P8 base n i (.slice (Bs ⟨g,0,B0⟩) n c) O xs w (.returned (.slice (Bs ⟨w.heap.size,0,B0⟩) (n+1) N)) w3:=
  ⟨_,rfl,t,a2,.inr ⟨_,rfl,L1 _⟩⟩
 have a0:(n:Int)+1-i=((n+1-i:Nat):Int):=by omega
 have s1:=q3k 142 AV KI I8 w g n c i (i:Int) rfl (by omega);have s2:=fun W=>Qd 142 AV KI I8 W w.heap.size (n+1) N i (i:Int) rfl (by omega) (by omega)
 have s3:=fun W=>Qd 142 AV KI I8 W w.heap.size (n+1) N (i+1) ((i:Int)+1) (by omega) (by omega) (by omega)
 rw[show n+1-(i+1)=n-i by omega] at s3;have s4:=fun W=>Qd 142 AV KI I8 W g n c i (i:Int) rfl (by omega) (by omega)
 have HF:=LH J;clear J s B t G U a3 p A z S H a1 Y I M a2 a4;have ae:IntKind.i64.wrap ((i:Int)+1)=(i:Int)+1:=V8 _ (by omega);have ad:IntKind.i64.wrap ((n:Int)+1)=(n:Int)+1:=V8 _ (by omega);rw[<- a0] at q;have a9:=LH q;clear q a0;have a8:=LH y;clear y;have a7:=LH x;clear x;have ah:=LH E;clear E;clear Z R F;have d1:((i:Int) == (n:Int))=Jx:=by rw[beq_eq_false_iff_ne];omega
 have d2:decide ((c:Int)<(n:Int)+1)=T2:=by rw[decide_eq_true_eq];omega
 go_enter Tryz.func108,Tryz.ntmps108;go_wp2_with (first|(refine q1z rfl (.tmp 34) (.tmp 39) 142 3 rfl (.slice (Bs ⟨g,0,B0⟩) i c) (.int .i64 ((n:Int)+1-i)) _ rfl rfl (a9.o _) ?_)|(refine q1p rfl (.tmp 43) (.tmp 44) 142 142 rfl (.slice (Bs ⟨w.heap.size,i*3,B0⟩) (n+1-i) (N-i)) (.slice (Bs ⟨X,0,B0⟩) 1 vc) _ rfl rfl (a8.o _) ?_))
 refine nW ?_;refine Tr (fun _=>True) 9 ?_;have f:True:=trivial;refine nE 0 f ?_;refine nE 1 f ?_;refine nE 2 f ?_;refine nE 3 f ?_;refine nE 4 f ?_;refine nE 5 f ?_;refine nE 6 f ?_;refine nE 7 f ?_;refine nG 8 (fun K hK=>?_);refine q2j (.tmp 50) (.tmp 53) 142 142 rfl (.slice (Bs ⟨w.heap.size,(i+1)*3,B0⟩) (n-i) (N-(i+1))) (.slice (Bs ⟨g,i*3,B0⟩) (n-i) (c-i)) _ (by simp[Xg,Xj]) (by simp[Xg,Xj]) (a7.o _) ?_;go_simp;refine hK _ _ (fun _=>f) ?_;clear hK K;refine nX ?_;clear f;go_wp2_with fail;go_ret;exact HF.o
theorem QD (base n i s v:Nat) (V:Hi) (xs j:List Hi) (w:B1) (f:w.ownsRow base 145 3 V n xs) (E:i<=n) (y:n<=100000) (t:∀ u∈xs,u.oneCell'=T2) (k:j.length=3) (q:∀ u∈j,u.oneCell'=T2)
  (p:Ab w s 145 j.toArray) (x:V.ownBlock≠Bs s) (z:base<=w.heap.size) :
  VX Tryz.prog 108 #[V,.int .i64 i,.slice (Bs ⟨s,0,B0⟩) 1 v] w (P8 base n i V j xs w):=by
 by_cases e:i=n
 ·subst e;exact QB base i s v V xs j w f y k q p z
 ·rcases f.2 with ⟨rfl,F⟩|⟨g,c,B,rfl,_,_,A,_⟩
  ·omega
  ·by_cases h:n+1<=c
   ·exact KW base g n c i s v xs j w f (by omega) h y t k q p (fun e=>x (by rw[e];rfl)) z
   ·exact Ob base g n c i s v xs j w f (by omega) (by omega) y t k q p z
abbrev VxR:=Vx
def Da (x:Vx):List Hi:=[.int .i64 x.t,.string ⟨x.v.toArray⟩,.bool x.g]
def vxV (x:Vx):Hi:=.agg #[.int .i64 x.t,.string ⟨x.v.toArray⟩,.bool x.g]
theorem flatV:∀ (l:List Vx) (j:Nat) (x:Vx),l[j]? = Bs x->∀ i,i<3->(l.flatMap Da)[j*3+i]? = (Da x)[i]?
 | [],j,p,h,i,c=>by simp at h
 | q::l,0,p,h,i,c=>by
  simp at h;subst h;rw[VI,Wc (by show _<3;omega)];simp
 | q::l,j+1,p,h,i,c=>by
  have k:l[j]? = Bs p:=by simpa using h
  have e:(j+1)*3+i=(j*3+i)+3:=by omega
  have f:(Da q).length=3:=rfl;rw[e,VI,Wd (by rw[f];omega),f,W1];exact flatV l j p k i c
theorem q9y (l:List Vx):(l.flatMap Da).length=l.length*3:=by
 induction l with
 | nil=>rfl
 | cons x l c=>rw[VI,VP,c];show 3+_=_;simp only[List.length_cons];omega
theorem qbj:∀ (l:List Vx) (k:Nat),(l.flatMap Da).drop (k*3)=(l.drop k).flatMap Da
 | l,0=>by simp
 | [],k+1=>by simp
 | x::l,k+1=>by
  rw[VI,show(k+1)*3=3+k*3 by omega,<- Xi,List.drop_left' (by rfl),Xd];exact qbj l k
theorem qbi:∀ (l:List Vx) (k:Nat),(l.flatMap Da).take (k*3)=(l.take k).flatMap Da
 | l,0=>by simp
 | [],k+1=>by simp
 | x::l,k+1=>by
  rw[VI,WU,VI,<- qbi l k,show(k+1)*3=(Da x).length+k*3 by show _=3+_;omega,List.take_length_add_append]
theorem q9x (l:List Vx):∀ u∈l.flatMap Da,u.oneCell'=T2:=fun u f=>by
 obtain⟨p,_,c⟩:=List.mem_flatMap.1 f;unfold Da at c;rcases List.mem_cons.1 c with rfl|c
 ·rfl
 ·rcases List.mem_cons.1 c with rfl|c
  ·rfl
  ·rw[List.mem_singleton.1 c];rfl
theorem Rd.cj {w:B1} {B n j:Nat} {A:Option Xb} {l:List Vx} (h:Rd w B 3 A n (l.flatMap Da)) (p:l.length=n) (q:j<n):∃ g off x,A=Bs ⟨g,off,B0⟩/\g<B/\l[j]? = Bs x/\
  w.cell? ⟨g,off+j*3,B0⟩=Bs (.int .i64 x.t)/\w.cell? ⟨g,off+j*3+1,B0⟩=Bs (.string ⟨x.v.toArray⟩)/\w.cell? ⟨g,off+j*3+2,B0⟩=Bs (.bool x.g):=by
 obtain⟨g,off,e,k,f⟩:=h.2 (by omega);have i:l[j]? = Bs l[j]:=K0 (by omega);have c:=flatV l j _ i;exact⟨g,off,l[j],e,k,i,f (j*3) _ (c 0 (by omega)),f (j*3+1) _ (c 1 (by omega)),f (j*3+2) _ (c 2 (by omega))⟩
def Ds (w:B1) (base:Nat) (V:Hi) (l:List Vx):Prop:=
 w.ownsRow base 145 3 V l.length (l.flatMap Da)\/
  ∃ g o cs,V=.slice (Bs ⟨g,o,B0⟩) l.length l.length/\0<l.length/\base<=g/\l.length<=VZ/\Ab w g 145 cs/\∀ j u,(l.flatMap Da)[j]? = Bs u->cs[o+j]? = Bs u
section
variable {w w':B1} {base:Nat} {V:Hi} {l:List Vx}
theorem Ds.form (h:Ds w base V l):∃ A c,V=.slice A l.length c/\l.length<=c:=by
 rcases h with h|⟨g,o,cs,rfl,_⟩
 ·obtain⟨A,c,i,f,_⟩:=AK h;exact⟨A,c,i,f⟩
 ·exact⟨_,_,rfl,L1 _⟩
theorem Ds.rd {A:Option Xb} {n c:Nat} (h:Ds w base (.slice A n c) l):Rd w w.heap.size 3 A l.length (l.flatMap Da):=by
 rcases h with h|⟨g,o,cs,f,s,q,_,i,p⟩
 ·obtain⟨v,t,f,_,_⟩:=AK h;injection f with h1 h2 h3;subst h1 h2 h3;exact Rd.au h
 ·injection f with h1 h2 h3;subst h1 h2 h3;exact⟨q9y l,fun _=>⟨g,o,rfl,i.lt,fun j u k=>(i.cell (o+j)).trans (p j u k)⟩⟩
theorem Ds.block (h:Ds w base V l) {b:Nat} (f:V.ownBlock=Bs b):base<=b/\b<w.heap.size/\∃ cs,Ab w b 145 cs:=by
 rcases h with h|⟨g,o,cs,rfl,t,i,_,k,s⟩
 ·refine⟨(h.lt b f).1,(h.lt b f).2,?_⟩;rcases h.2 with ⟨rfl,_⟩|⟨q,cap,j,rfl,_,p,_⟩
  ·cases f
  ·have c:q=b:=by injection f
   subst c;exact⟨j,p⟩
 ·have c:g=b:=by injection f
  subst c;exact⟨i,k.lt,cs,k⟩
theorem Ds.fr {S:Nat->Prop} (h:Ds w base V l) (i:Fr S w w') (f:∀ b,V.ownBlock=Bs b->¬S b):Ds w' base V l:=by
 rcases h with h|⟨g,o,cs,rfl,q,c,j,k,p⟩
 ·exact .inl (i.own h f)
 ·exact .inr ⟨g,o,cs,rfl,q,c,j,i.ah k (f g rfl),p⟩
theorem Ds.a6 (h:Ds w base V l) {g:Nat} {t:VQ} {cs:Array Hi} (i:Ab w g t cs) (c:t≠145):V.ownBlock≠Bs g:=fun e=>by
 obtain⟨_,_,j,f⟩:=h.block e;exact f.ne_ i (fun e=>c e.symm) rfl
end
section
variable {P:WQ} {e:VQ} {size:Nat}
theorem I0 (T:VQ) (i:P.underlying T=Bs (.slice e)) (f:P.elem T=e) (hs:∀ w,(sizeOf e).run P w=.ok size w) (w:B1) (g o n c v:Nat) (h:Int) (j:h=v) (k:v<=n) :
  (Yw T (.slice (Bs ⟨g,o,B0⟩) n c) (Bs (.int .i64 h)) B0 B0).run P w=.ok (.slice (Bs ⟨g,if c=v then o else o+v*size,B0⟩) (n-v) (c-v)) w:=by
 subst j;subst f;rw[run_slice_l w T _ n c i .i64 (v:Int) (by omega) (by omega),hs];simp only[WV,sliced,XD];congr 2;split <;> simp[WJ]
theorem Ou (T:VQ) (i:P.underlying T=Bs (.slice e)) (f:P.elem T=e) (hs:∀ w,(sizeOf e).run P w=.ok size w) (w:B1) (g o n c v:Nat) (h:Int) (j:h=v) (k:v<=c) :
  (Yw T (.slice (Bs ⟨g,o,B0⟩) n c) B0 (Bs (.int .i64 h)) B0).run P w=.ok (.slice (Bs ⟨g,o,B0⟩) v c) w:=by
 subst j;subst f;rw[run_slice_h w T _ n c i .i64 (v:Int) (by omega) (by omega),hs];simp only[WV,sliced,XD,Nat.zero_mul,Nat.sub_zero];congr 2;split <;> simp[WJ]
end
def VCmpW (F:Nat) (c:VxR->Int) (t:Int) (w:B1):Prop:=
 ∀ (W:B1) (x:VxR),VJ w.heap.size w W->(True)->VX Tryz.prog F #[vxV x,.int .i64 t] W fun e w'=>e=.returned (.int .i64 (c x))/\VJ W.heap.size W w'
def MU (c:VxR->Int) (L:List VxR) (n:Nat) (w:B1) (u v:Hi) (wr:B1):Prop:=
 ∃ i j:Nat,u=.int .i64 i/\v=.int .i64 j/\i<=j/\j<=n/\(∀ k (h:k<L.length),k<i->c L[k]<0)/\(∀ k (h:k<L.length),j<=k->0<=c L[k])/\VJ w.heap.size w wr
def H7 (c:VxR->Int) (L:List VxR) (n:Nat) (w:B1) (e:WA) (w':B1):Prop:=
 ∃ (i:Nat) (f:Bool),e=.returned (.tuple #[.int .i64 i,.bool f])/\i<=n/\(∀ k (h:k<L.length),k<i->c L[k]<0)/\(∀ k (h:k<L.length),i<=k->0<=c L[k])/\(f=T2↔∃ h:i<L.length,c L[i]=0)/\VJ w.heap.size w w'
theorem IB (F:Nat) (z:VxR->Int) (A:Option Xb) (n k:Nat) (L:List VxR) (t:Int) (w:B1) (eg:∀ args w,(XP F args).run Tryz.prog w=.ok (.enter F args) w)
  (hp:VCmpW F z t w) (hr:Rd w w.heap.size 3 A n (L.flatMap Da)) (hl:L.length=n) (hn:n<=100000) (W:∀ x∈L,True)
  (E:∀ (i j:Nat) (hi:i<L.length) (hj:j<L.length),i<=j->z L[i]<=z L[j]) :
  VX Tryz.prog 72 #[.slice A n k,.int .i64 t,.func (.func F) #[] #[]] w (H7 z L n w):=by
 have HR:=LH hr;clear hr;have HP:=LH hp;clear hp;have HM:=LH E;clear E;have a0:=LH W;clear W;have HL:=LH hl;clear hl;go_enter Tryz.func72,Tryz.ntmps72;go_wp2_with fail;go_loopw [9,10] (MU z L n w) (fun u v _=>(intOf v).toNat-(intOf u).toNat)
 case atStart=>exact⟨0,n,rfl,rfl,VK _,L1 _,fun k h K=>absurd K (by omega),fun k h K=>absurd K (by have:=HL.o;omega),S2 _ _⟩
 case round=>
  obtain⟨i,j,rfl,rfl,a7,a1,X,Y,p⟩:=hrel;have H:=LH p;have R:=LH X;clear X;have S:=LH Y;clear Y;by_cases a5:(i:Int)<j
  ·have a4:i<=(i+j) / 2:=by omega
   have a3:(i+j) / 2<j:=by omega
   obtain⟨g',o',x,rfl,N,M,h0,h1,K⟩:=(HR.o.below p).cj HL.o (j:=(i+j) / 2) (by omega);have a2:g'<wr.heap.size:=VH N p.size;have U:=a0.o x (O0 M);have f:=HP.o wr x p U;have HC:=LH f;clear f;have HX:=LH M;clear M p;go_wp2_with fail;refine HC.o.mono ?_;rintro e w2 ⟨rfl,G⟩;have y:=H.o.trans (G.mono H.o.size);have J:=LH y;clear y G HC;obtain⟨I,B⟩:=List.getElem?_eq_some_iff.1 HX.o;have Z:=LH B;clear B;by_cases hc:z x<0
   ·have d1:decide (z x<0)=T2:=decide_eq_true hc;have c:MU z L n w (.int .i64 (((i+j) / 2+1:Nat):Int)) (.int .i64 j) w2:=by
     refine⟨(i+j) / 2+1,j,rfl,rfl,by omega,a1,fun q hq K=>?_,S.o,J.o⟩;have:=HM.o q ((i+j) / 2) hq I (by omega);rw[Z.o] at this;omega
    have O:=LH c;clear c hc;go_wp2_with fail;go_roundw
    ·exact O.o
    ·simp[intOf];omega
   ·have d1:decide (z x<0)=Jx:=decide_eq_false hc;have c:MU z L n w (.int .i64 i) (.int .i64 (((i+j) / 2:Nat):Int)) w2:=by
     refine⟨i,(i+j) / 2,rfl,rfl,by omega,by omega,R.o,fun q hq K=>?_,J.o⟩;have:=HM.o ((i+j) / 2) q I hq K;rw[Z.o] at this;omega
    have O:=LH c;clear c hc;go_wp2_with fail;go_roundw
    ·exact O.o
    ·simp[intOf];omega
  ·obtain rfl:j=i:=by omega
   by_cases a6:(j:Int)<n
   ·obtain⟨g',o',x,rfl,N,M,h0,h1,K⟩:=(HR.o.below p).cj HL.o (j:=j) (by omega);have a2:g'<wr.heap.size:=VH N p.size;have f:=HP.o wr x p (a0.o x (O0 M));have HC:=LH f;clear f;have HX:=LH M;clear M p;go_wp2_with fail;refine HC.o.mono ?_;rintro e w2 ⟨rfl,G⟩;have y:=H.o.trans (G.mono H.o.size);have J:=LH y;clear y G HC;have s:H7 z L n w (.returned (.tuple #[.int .i64 j,.bool (z x == 0)])) w2:=by
     obtain⟨I,B⟩:=List.getElem?_eq_some_iff.1 HX.o;refine⟨j,_,rfl,by omega,R.o,S.o,?_,J.o⟩;rw[beq_iff_eq];exact⟨fun h=>⟨I,by rw[B];exact h⟩,fun⟨_,h⟩=>by rw[B] at h;exact h⟩
    have HF:=LH s;clear s;go_wp2_with fail;go_ret2;exact HF.o
   ·have s:H7 z L n w (.returned (.tuple #[.int .i64 j,.bool Jx])) wr:=
     ⟨j,Jx,rfl,by omega,R.o,S.o,⟨fun h=>(by cases h),fun⟨h,_⟩=>absurd h (by have:=HL.o;omega)⟩,H.o⟩
    have HF:=LH s;clear s p;go_wp2_with fail;go_ret2;exact HF.o
noncomputable abbrev kI:CQ Tryz.prog 3 Int:=keyI Tryz.underlying3
noncomputable abbrev kS:CQ Tryz.prog 9 ByteArray:=keyS Tryz.underlying9
abbrev CA (i:Int):Prop:=(Lit.int .i64 i).wf=T2
def Cy (x:Int×Int):List Hi:=[.int .i64 x.1,.int .i64 x.2]
def hM (h:Int->Option Int):Int->Option Hi:=fun i=>(h i).map (Wi .i64)
structure Av where
 g:Nat
 hb:Nat
 V:Hi
structure Ba (w:B1) (base n:Nat) (L:Av) (k:Kx):Prop where
 ah:Ab w L.g 168 #[.map (Bs L.hb),L.V]
 holds:Aa kI w L.hb n (hM k.h)
 row:w.ownsRow base 166 2 L.V k.ws.length (k.ws.flatMap Cy)
 log:base<=L.g
 loh:base<=L.hb
 cM:∀ o m,k.h o=Bs m->CA o/\CA m
 okw:∀ x∈k.ws,CA x.1/\CA x.2
 len:k.ws.length<=50
def AQ (L:Av) (b:Nat):Prop:=b=L.g\/b=L.hb\/L.V.ownBlock=Bs b
theorem Ba.fr {S:Nat->Prop} {w w':B1} {base n:Nat} {L:Av} {k:Kx} (h:Ba w base n L k) (f:Fr S w w') (c:∀ b,AQ L b->¬S b):Ba w' base n L k:=
 ⟨f.ah h.ah (c _ (.inl rfl)),h.holds.fr f (c _ (.inr (.inl rfl))),f.own h.row (fun g i=>c g (.inr (.inr i))),h.log,h.loh,h.cM,h.okw,h.len⟩
theorem Ba.av {w:B1} {base n:Nat} {L:Av} {k:Kx} (h:Ba w base n L k) {b:Nat} (c:AQ L b):base<=b/\b<w.heap.size:=by
 rcases c with rfl|rfl|c
 ·exact⟨h.log,h.ah.lt⟩
 ·exact⟨h.loh,h.holds.lt⟩
 ·exact h.row.lt b c
theorem Ba.a8 {w w':B1} {base n:Nat} {L:Av} {k:Kx} (h:Ba w base n L k) (c:VJ w.heap.size w w'):Ba w' base n L k:=
 h.fr (S:=fun b=>w.heap.size<=b) ⟨c.os,c.tape,c.output,c.size,fun i _ j=>c.block i (by omega)⟩ (fun b f p=>by have:=(h.av f).2;omega)
theorem Ba.mono {w:B1} {base n n':Nat} {L:Av} {k:Kx} (h:Ba w base n L k) (c:n<=n'):Ba w base n' L k:=
 ⟨h.ah,h.holds.mono c,h.row,h.log,h.loh,h.cM,h.okw,h.len⟩
theorem QT {κ:Type} {left:κ->Bool} {p o:κ} {_:Decidable (p=o)} (h:(left p && !decide (p=o))=Jx):left p=Jx\/p=o:=by
 by_cases e:p=o
 ·exact .inr e
 ·left;simpa [e] using h
def FtRel (g c n:Nat) (h:Int->Option Int) (tx mode:Int) (w:B1) (wr:B1):Prop:=
 ∃ (left:Int->Bool) (cnt:Nat),DT kI wr c w.heap.size n (hM h) left cnt/\(∀ o m,h o=Bs m->left o=Jx->o≠tx->AN m mode=Jx)/\VJ w.heap.size w wr
def FtPost (h:Int->Option Int) (tx mode:Int) (w:B1) (e:WA) (w':B1):Prop:=∃ b:Bool,e=.returned (.bool b)/\(b=T2↔N0 h tx mode)/\VJ w.heap.size w w'
theorem Sl (g H n:Nat) (V:Hi) (h:Int->Option Int) (tx mode:Int) (w:B1) (z:Ab w g 168 #[.map (Bs H),V]) (R:Aa kI w H n (hM h)) (M:∀ o m,h o=Bs m->CA o/\CA m) :
  VX Tryz.prog 112 #[.pointer (Bs ⟨g,0,B0⟩),.int .i64 tx,.int .i64 mode] w (FtPost h tx mode w):=by
 have c0:=z.cell 0;simp only[Ft,D0] at c0;have aa:=z.lt;have a8:=LH M;clear M;have HM:=LH R;clear R;go_enter Tryz.func112,Tryz.ntmps112;go_wp2_with (at_range;refine q2p rfl _ 61 3 rfl Tryz.underlying61 rfl HM.o ?_;intro w0 Y y U BD)
 go_frame
 go_loopw [7] (fun _ wr=>FtRel g H n h tx mode w wr) (fun _ wr=>wr.rangeLeft H w.heap.size)
 case atStart=>
  refine⟨_,Y,y,fun o m ho s=>?_,U.aU⟩;simp[hM,ho] at s
 case round=>
  obtain⟨left,cnt,K,N,W⟩:=hrel;have a0:=LH K;have a1:=LH N;clear N;have G:=LH W;clear W;clear K;go_wp2_with (at_next;refine q35 rfl _ rfl rfl a0.o ?_ ?_)
  ·intro a5;go_wp2_with fail;go_ret;exact⟨T2,rfl,by
    simp only[true_iff];exact fun o m ho f=>a1.o o m ho (a5 o (a8.o o m ho).1) f,G.o⟩
  ·intro o v w1 A a9 a4 c x S a6 a3 a7;obtain⟨m,R,rfl⟩:∃ m,h o=Bs m/\v=.int .i64 m:=by
    unfold hM at c;cases e:h o with
    | none=>rw[e] at c;cases c
    | some m=>rw[e] at c;injection c with c;exact⟨m,rfl,c.symm⟩
   have X:VJ w.heap.size w w1:=G.o.trans (a6.below (fun i (hi:i=_)=>by omega) G.o.size);have u:=LH X;clear X;have E:=LH R;clear R;have k:=LH x;clear x c a4;rw[show kI.val o=Wi .i64 o from rfl] at a7 ⊢;have j:(o≠tx->AN m mode=Jx)->∀ p m,h p=Bs m->(left p=Jx\/p=o)->p≠tx->AN m mode=Jx:=fun hc p J q s f=>by
    rcases s with s|e
    ·exact a1.o p J q s f
    ·subst e;rw[E.o] at q;injection q with q;rw[<- q];exact hc f
   have Z:=LH j;clear j;have O:w1.rangeLeft H w.heap.size<wr.rangeLeft H w.heap.size:=by
    rw[k.o.left_eq,a0.o.left_eq];exact S
   have a2:=LH O;clear O S a3 BD U y;by_cases t:o=tx
   ·have d1:(o != tx)=Jx:=by simpa using t
    have F:=LH (Z.o (fun f=>absurd t f));clear t;go_wp2_with fail;go_roundw
    case rel=>exact⟨_,A,k.o,fun p J q s=>F.o p J q (QT s),u.o⟩
    case measure=>exact a2.o
   ·have d1:(o != tx)=T2:=by simpa using t
    by_cases B:m=2
    ·have d2:(m == 2)=T2:=by simpa using B
     have F:=LH (show ¬N0 h tx mode from fun hf=>by have:=hf o m E.o t;rw[B] at this;simp[AN] at this);clear t;clear B;go_wp2_with fail;go_ret;exact⟨Jx,rfl,by simp only[XY,false_iff];exact F.o,u.o⟩
    ·have d2:(m == 2)=Jx:=by simpa using B
     by_cases I:mode=2
     ·have d3:(mode == 2)=T2:=by simpa using I
      have F:=LH (show ¬N0 h tx mode from fun hf=>by have:=hf o m E.o t;rw[I] at this;simp[AN] at this);clear t B I;go_wp2_with fail;go_ret;exact⟨Jx,rfl,by simp only[XY,false_iff];exact F.o,u.o⟩
     ·have d3:(mode == 2)=Jx:=by simpa using I
      have F:=LH (Z.o (fun _=>by simp[AN,B,I]));clear t B I;go_wp2_with fail;go_roundw
      case rel=>exact⟨_,A,k.o,fun p J q s=>F.o p J q (QT s),u.o⟩
      case measure=>exact a2.o
theorem flat2:∀ (l:List (Int×Int)) (j:Nat) (x:Int×Int),l[j]? = Bs x->∀ i,i<2->(l.flatMap Cy)[j*2+i]? = (Cy x)[i]?
 | [],j,p,h,i,c=>by simp at h
 | q::l,0,p,h,i,c=>by
  simp at h;subst h;rw[VI,Wc (by show _<2;omega)];simp
 | q::l,j+1,p,h,i,c=>by
  have k:l[j]? = Bs p:=by simpa using h
  have e:(j+1)*2+i=(j*2+i)+2:=by omega
  have f:(Cy q).length=2:=rfl;rw[e,VI,Wd (by rw[f];omega),f,W1];exact flat2 l j p k i c
theorem Rd.bE {w:B1} {B n j:Nat} {A:Option Xb} {l:List (Int×Int)} (h:Rd w B 2 A n (l.flatMap Cy)) (p:l.length=n) (q:j<n):∃ g off x,A=Bs ⟨g,off,B0⟩/\g<B/\l[j]? = Bs x/\
  w.cell? ⟨g,off+j*2,B0⟩=Bs (.int .i64 x.1)/\w.cell? ⟨g,off+j*2+1,B0⟩=Bs (.int .i64 x.2):=by
 obtain⟨g,off,e,k,i⟩:=h.2 (by omega);have c:l[j]? = Bs l[j]:=K0 (by omega);have f:=flat2 l j _ c;exact⟨g,off,l[j],e,k,c,i (j*2) _ (f 0 (by omega)),i (j*2+1) _ (f 1 (by omega))⟩
def wtV (x:Int×Int):Hi:=.agg #[.int .i64 x.1,.int .i64 x.2]
def Ku (F:Nat) (lb:Array Hi) (p:Int×Int->Bool) (w:B1):Prop:=
 ∀ (W:B1) (x:Int×Int),VJ w.heap.size w W->VX Tryz.prog F (#[wtV x]++lb) W fun e w'=>e=.returned (.bool (p x))/\VJ W.heap.size W w'
def CK (p:Int×Int->Bool) (L:List (Int×Int)):Int:=match L.findIdx? p with|some i=>(i:Int)|none=>-1
theorem Qy (p:Int×Int->Bool) (L:List (Int×Int)):decide (0<=CK p L)=L.any p:=by
 unfold CK;rcases h:L.findIdx? p with _|i
 ·rw[Wk] at h;have:L.any p=Jx:=by rw[XC];intro x c;simp[h x c]
  rw[this];rfl
 ·rw[VR] at h;obtain⟨f,j,_⟩:=h;have:L.any p=T2:=by rw[List.any_eq_true];exact⟨L[i],List.getElem_mem f,j⟩
  rw[this];simp
theorem TT (p:Int×Int->Bool) (L:List (Int×Int)):-1<=CK p L/\CK p L<=L.length:=by
 unfold CK;rcases h:L.findIdx? p with _|i
 ·simp only;omega
 ·rw[VR] at h;obtain⟨c,f,_⟩:=h;simp only;omega
def WiRel (p:Int×Int->Bool) (L:List (Int×Int)) (n:Nat) (w:B1) (v:Hi) (wr:B1):Prop:=∃ j:Nat,v=.int .i64 j/\j<=n/\(∀ x∈L.take j,p x=Jx)/\VJ w.heap.size w wr
theorem q7e (F:Nat) (lb:Array Hi) (p:Int×Int->Bool) (A:Option Xb) (n k:Nat) (L:List (Int×Int)) (w:B1) (eg:∀ args w,(XP F args).run Tryz.prog w=.ok (.enter F args) w)
  (h:Ku F lb p w) (O:Rd w w.heap.size 2 A n (L.flatMap Cy)) (U:L.length=n) (hn:n<=100000) :
  VX Tryz.prog 111 #[.slice A n k,.func (.func F) #[] lb] w fun e w'=>e=.returned (.int .i64 (CK p L))/\VJ w.heap.size w w':=by
 have Y:=LH O;clear O;have Z:=LH h;clear h;go_enter Tryz.func111,Tryz.ntmps111;go_wp2_with fail;go_loopw [8] (WiRel p L n w) (fun v _=>n-(intOf v).toNat)
 case atStart=>exact⟨0,rfl,VK _,(fun x B=>by simp at B),S2 _ _⟩
 case round=>
  obtain⟨j,rfl,hj,q,f⟩:=hrel;by_cases S:(j:Int)<n
  ·obtain⟨X,o',x,rfl,N,B,h0,h1⟩:=(Y.o.below f).bE U (j:=j) (by omega);have W:X<wr.heap.size:=VH N f.size;have c:=Z.o wr x f;have J:j<L.length:=by omega
   have z:p x=T2->CK p L=j:=fun h=>by
    have:L.findIdx? p=Bs j:=by
     rw[VR];refine⟨J,?_,fun i hi=>?_⟩
     ·rw[<- Wj ((K0 J).symm.trans B)] at h;exact h
     ·simp only[XX];exact q _ (by rw[Xy];exact⟨i,by omega,rfl⟩)
    unfold CK;rw[this]
   have s:p x=Jx->∀ y∈L.take (j+1),p y=Jx:=fun h y E=>by
    rw[VV,B] at E;rcases List.mem_append.1 E with E|E
    ·exact q y E
    ·simp at E;rw[E];exact h
   have K:=LH z;clear z;have G:=LH s;clear s;have a0:=LH q;clear q;have HX:=LH B;clear B;unfold wtV at c;rcases h:p x with _|_
   ·rw[h] at c;have H:=LH h;clear h;have M:=LH c;clear c;go_wp2_with fail;refine M.o.mono ?_;rintro e R ⟨rfl,u⟩;clear M;have I:=LH (f.trans (u.mono f.size));clear u;go_wp2_with fail;go_roundw
    case rel=>exact⟨j+1,rfl,by omega,G.o H.o,I.o⟩
    case measure=>simp[intOf];omega
   ·rw[h] at c;have H:=LH h;clear h;have M:=LH c;clear c;go_wp2_with fail;refine M.o.mono ?_;rintro e R ⟨rfl,u⟩;clear M;have I:=LH (f.trans (u.mono f.size));clear u;go_wp2_with fail;go_ret;exact⟨by rw[K.o H.o];rfl,I.o⟩
  ·obtain rfl:j=n:=by omega
   have t:CK p L = -1:=by
    have:L.findIdx? p=B0:=by
     rw[Wk];intro x B;exact q x (by rw[VU (by omega)];exact B)
    unfold CK;rw[this]
   have HN:=LH t;clear t q;go_wp2_with fail;go_ret;rw[HN.o];exact⟨rfl,f⟩
theorem q3c (F:Nat) (lb:Array Hi) (p:Int×Int->Bool) (A:Option Xb) (n k:Nat) (L:List (Int×Int)) (w:B1) (v:∀ args w,(XP F args).run Tryz.prog w=.ok (.enter F args) w)
  (j:Ku F lb p w) (i:Rd w w.heap.size 2 A n (L.flatMap Cy)) (u:L.length=n) (s:n<=100000) :
  VX Tryz.prog 86 #[.slice A n k,.func (.func F) #[] lb] w fun e w'=>e=.returned (.bool (L.any p))/\VJ w.heap.size w w':=by
 have c:=q7e F lb p A n k L w v j i u s;have q:=Qy p L;have h:=LH c;clear c j i;have x:=LH q;clear q;have t:=TT p L;generalize CK p L=z at *;go_enter Tryz.func86,Tryz.ntmps86;go_wp2_with fail;refine h.o.mono ?_;rintro e y ⟨rfl,f⟩;go_wp2_with fail;go_ret;rw[<- x.o];exact⟨rfl,f⟩
def PH (tx mode:Int) (x:Int×Int):Bool:=decide (x.1<tx) && AN x.2 mode
theorem PR (c:List (Int×Int)) (tx mode:Int):qbm c tx mode=c.any (PH tx mode):=rfl
theorem q4u {w W:B1} (h:VJ w.heap.size w W) {p:Xb} {v:Hi} (c:w.cell? p=Bs v):W.cell? p=Bs v:=(h.cell (p:=p) (V0 w _ c)).trans c
theorem q9q (b:Nat) (tx:Int) (w:B1) (f:w.cell? ⟨b,0,B0⟩=Bs (.int .i64 tx)):Ku 87 #[.pointer (Bs ⟨b,0,B0⟩)] (fun x=>decide (x.1=tx)) w:=by
 intro W x j;have f:=q4u j f;have i:=V0 W _ f;have c:∀ o,VJ W.heap.size W (W.alloc o):=fun o=>(S2 _ _).alloc (L1 _) _
 have h:=LH c;clear c;unfold wtV;show VX _ _ #[_,_] _ _;go_enter Tryz.func87,Tryz.ntmps87;go_wp2_with fail;go_ret;exact⟨rfl,h.o _⟩
theorem q55 (b:Nat) (tx:Int) (w:B1) (f:w.cell? ⟨b,0,B0⟩=Bs (.int .i64 tx)):Ku 103 #[.pointer (Bs ⟨b,0,B0⟩)] (fun x=>decide (x.1=tx)) w:=by
 intro W x j;have f:=q4u j f;have i:=V0 W _ f;have c:∀ o,VJ W.heap.size W (W.alloc o):=fun o=>(S2 _ _).alloc (L1 _) _
 have h:=LH c;clear c;unfold wtV;show VX _ _ #[_,_] _ _;go_enter Tryz.func103,Tryz.ntmps103;go_wp2_with fail;go_ret;exact⟨rfl,h.o _⟩
theorem Py (b c:Nat) (tx mode:Int) (w:B1) (q:w.cell? ⟨b,0,B0⟩=Bs (.int .i64 tx)) (p:w.cell? ⟨c,0,B0⟩=Bs (.int .i64 mode)) :
  Ku 113 #[.pointer (Bs ⟨b,0,B0⟩),.pointer (Bs ⟨c,0,B0⟩)] (PH tx mode) w:=by
 intro W x t;have q:=q4u t q;have p:=q4u t p;have u:=V0 W _ q;have s:=V0 W _ p;have j:∀ o,VJ W.heap.size W (W.alloc o):=fun o=>(S2 _ _).alloc (L1 _) _
 have h:=LH j;clear j;unfold wtV;show VX _ _ #[_,_,_] _ _;by_cases f:x.1<tx
 ·have d1:decide (x.1<tx)=T2:=decide_eq_true f;by_cases i:x.2=2
  ·have d2:(x.2 == 2)=T2:=by simpa using i
   have k:=LH (show PH tx mode x=T2 by simp[PH,AN,f,i]);clear f i;go_enter Tryz.func113,Tryz.ntmps113;go_wp2_with fail;go_ret;rw[k.o];exact⟨rfl,h.o _⟩
  ·have d2:(x.2 == 2)=Jx:=by simpa using i
   have k:=LH (show PH tx mode x=(mode == 2) by rw[XI];simp[PH,AN,f,i]);clear f i;go_enter Tryz.func113,Tryz.ntmps113;go_wp2_with fail;go_ret;rw[k.o];exact⟨rfl,h.o _⟩
 ·have d1:decide (x.1<tx)=Jx:=decide_eq_false f;have k:=LH (show PH tx mode x=Jx by simp[PH,f]);clear f;go_enter Tryz.func113,Tryz.ntmps113;go_wp2_with fail;go_ret;rw[k.o];exact⟨rfl,h.o _⟩
theorem P9 {P:WQ} {f:FuncId} {i:Func} {c:Code} (j:P.funcs[f]? = Bs i) (h:(i.name == "runtime.NumGoroutine")=Jx) (k:i.body=Bs c):∀ (args:Array Hi) (w:B1),(XP f args).run P w=.ok (.enter f args) w:=by
 intro args w;have p:i.name ≠ "runtime.NumGoroutine" := by simpa using h
 simp[XP,j,p,k,mark]
theorem qcg {w:B1} {c n:Nat} {h:Int->Option Int} (j:Aa kI w c n (hM h)) {tx:Int} (i:CA tx):(XH 61 (.map (Bs c)) (.int .i64 tx) Jx).run Tryz.prog w=.ok (.int .i64 (Ax h tx)) w:=by
 have f:(X5 3).run Tryz.prog w=.ok (.int .i64 0) w:=by kernel_rfl
 have:=(j.look Tryz.underlying61 f (x:=tx) i).2;rw[show kI.val tx=Wi .i64 tx from rfl] at this;rw[this];unfold hM Ax;cases h tx <;> rfl
theorem qch (g I n X kk:Nat) (V:Hi) (h:Int->Option Int) (tx mode:Int) (A:Option Xb) (x:List (Int×Int)) (w:B1) (p:Ab w g 168 #[.map (Bs I),V]) (W:Aa kI w I n (hM h)) (Z:∀ o m,h o=Bs m->CA o/\CA m)
  (Y:CA tx) (hr:Rd w w.heap.size 2 A X (x.flatMap Cy)) (hl:x.length=X) (hn:X<=100000) :
  VX Tryz.prog 88 #[.pointer (Bs ⟨g,0,B0⟩),.int .i64 tx,.int .i64 mode,.slice A X kk] w fun e w'=>e=.returned (.bool (As h tx mode x))/\VJ w.heap.size w w':=by
 have z:VJ w.heap.size w ((w.alloc (.cells #[.int .i64 tx] 3)).alloc (.cells #[.int .i64 mode] 3)):=((S2 _ _).alloc (L1 _) _).alloc (by simp) _;have a6:Ab ((w.alloc (.cells #[.int .i64 tx] 3)).alloc (.cells #[.int .i64 mode] 3)) w.heap.size 3 #[.int .i64 tx]:=(Ab.new w _ _).alloc _;have y:Ab ((w.alloc (.cells #[.int .i64 tx] 3)).alloc (.cells #[.int .i64 mode] 3)) (w.heap.size+1) 3 #[.int .i64 mode]:=by
  have:=Ab.new (w.alloc (.cells #[.int .i64 tx] 3)) 3 #[.int .i64 mode];simpa using this
 have H:w.heap.size+2=((w.alloc (.cells #[.int .i64 tx] 3)).alloc (.cells #[.int .i64 mode] 3)).heap.size:=by simp
 have O:=p.lt;have k:∀ w',VJ (w.heap.size+2) ((w.alloc (.cells #[.int .i64 tx] 3)).alloc (.cells #[.int .i64 mode] 3)) w'->
   w'.cell? ⟨g,0,B0⟩=Bs (.map (Bs I))/\w'.cell? ⟨w.heap.size,0,B0⟩=Bs (.int .i64 tx)/\w'.cell? ⟨w.heap.size+1,0,B0⟩=Bs (.int .i64 mode)/\Aa kI w' I n (hM h):=fun w' i=>by
  have c0:=(((p.below z O).below i (by omega)).cell 0)
  have c1:=((a6.below i (by omega)).cell 0)
  have c2:=((y.below i (by omega)).cell 0)
  exact⟨c0,c1,c2,(W.below z W.lt).below i (by have:=W.lt;omega)⟩
 have a0:=fun w' (i:VJ w.heap.size w w')=>Sl g I n V h tx mode w' (p.below i O) (W.below i W.lt) Z
 have s:∀ w',VJ (w.heap.size+2) ((w.alloc (.cells #[.int .i64 tx] 3)).alloc (.cells #[.int .i64 mode] 3)) w'->VJ w.heap.size w w':=fun w' i=>z.trans (i.mono (by omega))
 have a2:=fun w' (i:VJ (w.heap.size+2) ((w.alloc (.cells #[.int .i64 tx] 3)).alloc (.cells #[.int .i64 mode] 3)) w')=>q3c 113 #[.pointer (Bs ⟨w.heap.size,0,B0⟩),.pointer (Bs ⟨w.heap.size+1,0,B0⟩)] (PH tx mode) A X kk x w' (P9 Tryz.func113 (by kernel_rfl) rfl)
   (Py w.heap.size (w.heap.size+1) tx mode w' (k w' i).2.1 (k w' i).2.2.1) ((hr.below (s w' i)).more (s w' i).size) hl hn
 have u:=LH k;clear k;have ac:=LH a0;clear a0;have ae:=LH a2;clear a2;have v:=LH s;clear s;have a7:=LH Y;clear Y;clear p W Z hr a6 y O;have G:=LH (S2 (w.heap.size+2) ((w.alloc (.cells #[.int .i64 tx] 3)).alloc (.cells #[.int .i64 mode] 3)));by_cases j:mode<=Ax h tx
 ·have d1:decide (mode<=Ax h tx)=T2:=decide_eq_true j;have HF:=LH (TA.2 (show Cq h tx mode x from .inl j));clear j;go_enter Tryz.func88,Tryz.ntmps88;go_upto_region 1 with (fail)
  have HZ:=LH H;clear z H;generalize (w.alloc (.cells #[.int .i64 tx] 3)).alloc (.cells #[.int .i64 mode] 3)=U at *;refine nW ?_;refine Tr (fun w'=>w'.cell? ⟨g,0,B0⟩=Bs (.map (Bs I))/\w'.cell? ⟨w.heap.size,0,B0⟩=Bs (.int .i64 tx)/\w'.cell? ⟨w.heap.size+1,0,B0⟩=Bs (.int .i64 mode)/\Aa kI w' I n (hM h)) 21 ?_;have c:=u.o U.drew G.o.drew;refine nE 0 c ?_;refine nE 1 c ?_;refine nE 2 c ?_;refine nC 3 rfl (fun _ _ _ h=>h) c (fun w' f=>by obtain⟨M,j,J,B⟩:=f;go_simp;rfl) ?_;refine nC 4 rfl (fun _ _ _ h=>h) c (fun w' f=>by obtain⟨M,j,J,B⟩:=f;go_simp;rfl) ?_;refine nC 5 rfl (fun _ _ _ h=>h) c (fun w' f=>by obtain⟨M,j,J,B⟩:=f;have aa:=qcg B a7.o;go_simp;rfl) ?_;refine nC 6 rfl (fun _ _ _ h=>h) c (fun w' f=>by obtain⟨M,j,J,B⟩:=f;go_simp;rfl) ?_;refine nE 7 c ?_;refine nE 8 c ?_;refine Ce 9 rfl (by kernel_rfl) (by kernel_rfl) (by kernel_rfl) (by kernel_rfl) (fun _ _ _ h=>h) (by kernel_rfl) c ?_;refine Ce 10 rfl (by kernel_rfl) (by kernel_rfl) (by kernel_rfl) (by kernel_rfl) (fun _ _ _ h=>h) (by kernel_rfl) c ?_;refine Ce 11 rfl (by kernel_rfl) (by kernel_rfl) (by kernel_rfl) (by kernel_rfl) (fun _ _ _ h=>h) (by kernel_rfl) c ?_;refine Ce 12 rfl (by kernel_rfl) (by kernel_rfl) (by kernel_rfl) (by kernel_rfl) (fun _ _ _ h=>h) (by kernel_rfl) c ?_;refine Ce 13 rfl (by kernel_rfl) (by kernel_rfl) (by kernel_rfl) (by kernel_rfl) (fun _ _ _ h=>h) (by kernel_rfl) c ?_;refine Ce 14 rfl (by kernel_rfl) (by kernel_rfl) (by kernel_rfl) (by kernel_rfl) (fun _ _ _ h=>h) (by kernel_rfl) c ?_;refine Ce 15 rfl (by kernel_rfl) (by kernel_rfl) (by kernel_rfl) (by kernel_rfl) (fun _ _ _ h=>h) (by kernel_rfl) c ?_;refine Ce 16 rfl (by kernel_rfl) (by kernel_rfl) (by kernel_rfl) (by kernel_rfl) (fun _ _ _ h=>h) (by kernel_rfl) c ?_;refine Ce 17 rfl (by kernel_rfl) (by kernel_rfl) (by kernel_rfl) (by kernel_rfl) (fun _ _ _ h=>h) (by kernel_rfl) c ?_;refine Ce 18 rfl (by kernel_rfl) (by kernel_rfl) (by kernel_rfl) (by kernel_rfl) (fun _ _ _ h=>h) (by kernel_rfl) c ?_;refine nE 19 c ?_;refine nG 20 (fun K t=>?_);go_simp;refine t _ _ (fun _=>c) ?_;clear t K;refine nX ?_;clear c;go_wp2_with fail;go_ret;rw[HF.o];exact⟨rfl,v.o _ G.o.drew⟩
 ·have d1:decide (mode<=Ax h tx)=Jx:=decide_eq_false j;have HN:=LH j;clear j;go_enter Tryz.func88,Tryz.ntmps88;go_upto_region 1 with (fail)
  have HZ:=LH H;clear z H;generalize (w.alloc (.cells #[.int .i64 tx] 3)).alloc (.cells #[.int .i64 mode] 3)=U at *;refine nW ?_;refine Tr (fun w'=>w'.cell? ⟨g,0,B0⟩=Bs (.map (Bs I))/\w'.cell? ⟨w.heap.size,0,B0⟩=Bs (.int .i64 tx)/\w'.cell? ⟨w.heap.size+1,0,B0⟩=Bs (.int .i64 mode)/\Aa kI w' I n (hM h)) 21 ?_;have c:=u.o U.drew G.o.drew;refine nE 0 c ?_;refine nE 1 c ?_;refine nE 2 c ?_;refine nC 3 rfl (fun _ _ _ h=>h) c (fun w' f=>by obtain⟨M,j,J,B⟩:=f;go_simp;rfl) ?_;refine nC 4 rfl (fun _ _ _ h=>h) c (fun w' f=>by obtain⟨M,j,J,B⟩:=f;go_simp;rfl) ?_;refine nC 5 rfl (fun _ _ _ h=>h) c (fun w' f=>by obtain⟨M,j,J,B⟩:=f;have aa:=qcg B a7.o;go_simp;rfl) ?_;refine nC 6 rfl (fun _ _ _ h=>h) c (fun w' f=>by obtain⟨M,j,J,B⟩:=f;go_simp;rfl) ?_;refine nE 7 c ?_;refine nE 8 c ?_;refine nE 9 c ?_;refine nC 10 rfl (fun _ _ _ h=>h) c (fun w' f=>by obtain⟨M,j,J,B⟩:=f;go_simp;rfl) ?_;refine nC 11 rfl (fun _ _ _ h=>h) c (fun w' f=>by obtain⟨M,j,J,B⟩:=f;go_simp;rfl) ?_;refine nG 12 (fun K t=>?_);go_simp;refine(ac.o U.drew (v.o _ G.o.drew)).mono ?_;rintro e w2 ⟨b,rfl,a3,a5⟩;have y:VJ (w.heap.size+2) U w2:=G.o.drew.trans (a5.mono (by have:=HZ.o;simp;omega));have F:=u.o w2 y;have N:=LH y;clear y a5;have a8:=LH a3;clear a3;go_simp;refine t _ _ (fun _=>F) ?_;clear t K c;have c:=F;clear F;rcases b with _|_
  ·have HF:Hid (As h tx mode x=Jx):=LH (q9v.2 (fun hf=>by
    rcases hf with hf|hf
    ·exact HN.o hf
    ·exact absurd (a8.o.2 hf.1) (by simp)))
   refine nE 13 c ?_;refine Ce 14 rfl (by kernel_rfl) (by kernel_rfl) (by kernel_rfl) (by kernel_rfl) (fun _ _ _ h=>h) (by kernel_rfl) c ?_;refine Ce 15 rfl (by kernel_rfl) (by kernel_rfl) (by kernel_rfl) (by kernel_rfl) (fun _ _ _ h=>h) (by kernel_rfl) c ?_;refine Ce 16 rfl (by kernel_rfl) (by kernel_rfl) (by kernel_rfl) (by kernel_rfl) (fun _ _ _ h=>h) (by kernel_rfl) c ?_;refine Ce 17 rfl (by kernel_rfl) (by kernel_rfl) (by kernel_rfl) (by kernel_rfl) (fun _ _ _ h=>h) (by kernel_rfl) c ?_;refine nE 18 c ?_;refine nE 19 c ?_;refine nG 20 (fun K t=>?_);go_simp;refine t _ _ (fun _=>c) ?_;clear t K;refine nX ?_;clear c;go_wp2_with fail;go_ret;rw[HF.o];exact⟨rfl,v.o _ N.o⟩
  ·have hF:As h tx mode x = !(x.any (PH tx mode)):=by
    rw[XI,TA];have a1:=a8.o.1 rfl;have a9:=HN.o;have ab:=PR x tx mode;unfold Cq;rw[ab];cases x.any (PH tx mode) <;> simp[a1,a9]
   have HF:=LH hF;clear hF;refine nE 13 c ?_;refine nE 14 c ?_;refine nE 15 c ?_;refine nG 16 (fun K t=>?_);go_simp;refine(ae.o w2 N.o).mono ?_;rintro e w3 ⟨rfl,a4⟩;have S:VJ (w.heap.size+2) U w3:=N.o.trans (a4.mono (by have:=N.o.size;have:=HZ.o;omega));have E:=u.o w3 S;have af:=LH S;clear S a4;go_simp;refine t _ _ (fun _=>E) ?_;clear t K c;have c:=E;clear E;have R:As h tx mode x = !(x.any (PH tx mode)):=HF.o;generalize x.any (PH tx mode)=q at R ⊢;have ad:=LH R;clear R;refine nE 17 c ?_;refine nE 18 c ?_;refine nE 19 c ?_;refine nG 20 (fun K t=>?_);go_simp;refine t _ _ (fun _=>c) ?_;clear t K;refine nX ?_;clear c;go_wp2_with fail;go_ret;rw[ad.o];exact⟨rfl,v.o _ af.o⟩
abbrev sx (s:ByteArray):Sx:=s.data.toList
def Bb (loc:Sx->Av) (T:Tb):ByteArray->Option Hi:=fun s=>(T (sx s)).map fun _=>.pointer (Bs ⟨(loc (sx s)).g,0,B0⟩)
def Kr (w:B1) (n:Nat) (mb:Option Nat) (loc:Sx->Av) (T:Tb):Prop:=
 match mb with
 | none=>∀ x,T x=B0
 | some b=>Aa kS w b n (Bb loc T)
structure AD (w:B1) (base n g off:Nat) (ty:VQ) (cs:Array Hi) (mb:Option Nat) (loc:Sx->Av) (T:Tb):Prop where
 ah:Ab w g ty cs
 c0:cs[off]? = Bs (.map mb)
 map:Kr w n mb loc T
 keys:∀ x k,T x=Bs k->Ba w base n (loc x) k
 apart:∀ x y,x≠y->T x≠B0->T y≠B0->∀ b,AQ (loc x) b->¬AQ (loc y) b
 small:∀ x,T x≠B0->x.length<=20
 ne:ty≠168/\ty≠166
 cA:∀ b,mb=Bs b->base<=b
 bT:∀ x,T x≠B0->Bs (loc x).hb≠mb
 bg:base<=w.heap.size
def AE (mb:Option Nat) (loc:Sx->Av) (T:Tb) (b:Nat):Prop:=Bs b=mb\/∃ x,T x≠B0/\AQ (loc x) b
section
variable {w w':B1} {base n g off:Nat} {ty:VQ} {cs:Array Hi} {mb:Option Nat} {loc:Sx->Av} {T:Tb}
theorem Kr.fr {S:Nat->Prop} (h:Kr w n mb loc T) (f:Fr S w w') (c:∀ b,Bs b=mb->¬S b):Kr w' n mb loc T:=by
 unfold Kr at h ⊢;rcases mb with _|b
 ·exact h
 ·exact h.fr f (c b rfl)
theorem AD.fr {S:Nat->Prop} (h:AD w base n g off ty cs mb loc T) (c:Fr S w w') (p:¬S g) (j:∀ b,AE mb loc T b->¬S b):AD w' base n g off ty cs mb loc T:=
 ⟨c.ah h.ah p,h.c0,h.map.fr c (fun b f=>j b (.inl f)),fun x k i=>(h.keys x k i).fr c (fun b f=>j b (.inr ⟨x,by rw[i];simp,f⟩)),h.apart,h.small,h.ne,h.cA,h.bT,VO h.bg c.size⟩
theorem AD.mono (h:AD w base n g off ty cs mb loc T) {n':Nat} (c:n<=n'):AD w base n' g off ty cs mb loc T:=
 ⟨h.ah,h.c0,by
  have:=h.map;unfold Kr at this ⊢;rcases mb with _|b
  ·exact this
  ·exact Aa.mono this c,fun x k f=>(h.keys x k f).mono c,h.apart,h.small,h.ne,h.cA,h.bT,h.bg⟩
theorem AD.av (h:AD w base n g off ty cs mb loc T) {b:Nat} (c:AE mb loc T b):base<=b/\b<w.heap.size:=by
 rcases c with c|⟨x,f,c⟩
 ·refine⟨h.cA b c.symm,?_⟩;have:=h.map;rw[<- c] at this;exact Aa.lt (C:=kS) this
 ·obtain⟨k,i⟩:=Option.ne_none_iff_exists'.1 f;exact(h.keys x k i).av c
theorem AD.a8 (h:AD w base n g off ty cs mb loc T) (c:VJ w.heap.size w w'):AD w' base n g off ty cs mb loc T:=
 h.fr (S:=fun b=>w.heap.size<=b) ⟨c.os,c.tape,c.output,c.size,fun i _ k=>c.block i (by omega)⟩ (fun j=>by have:=h.ah.lt;omega) (fun b f j=>by have:=(h.av f).2;omega)
theorem AD.cZ (h:AD w base n g off ty cs mb loc T) {x:Sx} {k:Kx} (i:T x=Bs k) {b:Nat} (f:AQ (loc x) b):b≠g:=by
 have c:=h.keys x k i;rcases f with rfl|rfl|f
 ·exact c.ah.ne_ h.ah (fun e=>h.ne.1 e.symm)
 ·exact c.holds.a6 h.ah
 ·rintro rfl;exact Be c.row h.ah (fun e=>h.ne.2 e.symm) f
theorem AD.b3 (h:AD w base n g off ty cs mb loc T) {x:Sx} {k:Kx} (j:T x=Bs k) {c:Nat} (q:mb=Bs c) {b:Nat} (i:AQ (loc x) b):b≠c:=by
 have p:=h.keys x k j;have f:=h.map;rw[q] at f;rcases i with rfl|rfl|i
 ·exact fun e=>(Aa.a6 (C:=kS) f p.ah) e.symm
 ·have:=h.bT x (by rw[j];simp);rw[q] at this;exact fun e=>this (by rw[e])
 ·rintro rfl;exact Aa.aG (C:=kS) f p.row i
end
theorem D9 {cs:Array Hi} {i:Nat} {v:Hi} (h:cs[i]? = Bs v):cs.setIfInBounds i v=cs:=by
 apply Array.ext
 ·simp
 ·intro j f c;rw[Array.getElem_setIfInBounds];split
  ·rename_i e;subst e;rw[Array.getElem?_eq_getElem c] at h;injection h with h;exact h.symm
  ·rfl
theorem DM {P:WQ} (w:B1) (t k e:VQ) (m:Option Nat) (h:P.underlying t=Bs (.map k e)):(binOp .eql t (.map m) (.map B0)).run P w=.ok (.bool m.isNone) w:=by
 simp only[binOp];simp[run_equal_map_nil w t k e m h]
theorem QO {w:B1} {base n g off:Nat} {ty:VQ} {cs:Array Hi} {loc:Sx->Av} {T:Tb} (h:AD w base n g off ty cs B0 loc T) :
  AD ((w.alloc (.map #[] 0)).setCell ⟨g,off,B0⟩ (.map (Bs w.heap.size))) base n g off ty (cs.setIfInBounds off (.map (Bs w.heap.size))) (Bs w.heap.size) loc T:=by
 have i:off<cs.size:=by
  have:=h.c0;rcases W9 off cs.size with h|h
  ·exact h
  ·rw[WX (by simpa using h)] at this;cases this
 have f:∀ x,T x=B0:=h.map;have p:Aa kS (w.alloc (.map #[] 0)) w.heap.size n (Bb loc T):=by
  have e:Bb loc T=fun _=>B0:=by funext s;unfold Bb;rw[f];rfl
  rw[e];exact(Aa.made kS w).mono (VK _)
 have q:=h.ah.lt;refine⟨(h.ah.alloc _).aC _ _,by simp[i],p.fr (Fr.ax g (w.alloc (.map #[] 0)) off (.map (Bs w.heap.size))) (fun e=>by omega),fun x k c=>(by rw[f] at c;cases c),fun x y _ c=>absurd (f x) c,fun x c=>absurd (f x) c,h.ne,fun b j=>?_,fun x c=>absurd (f x) c,?_⟩
 ·injection j with j;rw[<- j];exact h.bg
 ·have:=h.bg;simp;omega
def KH (w:B1):Av:=⟨w.heap.size+1,w.heap.size,.slice B0 0 0⟩
def Az (loc:Sx->Av) (x:Sx) (L:Av):Sx->Av:=fun y=>if y=x then L else loc y
theorem q8z {s t:ByteArray} (h:sx s=sx t):s=t:=by
 have:s.data=t.data:=Array.ext' h;cases s;cases t;simp_all
theorem O8 (loc:Sx->Av) (T:Tb) (s:ByteArray) (L:Av) (k:Kx):AU (Bb loc T) s (Bs (.pointer (Bs ⟨L.g,0,B0⟩)))=Bb (Az loc (sx s) L) (Ap T (sx s) (Bs k)):=by
 funext t;unfold AU Bb Az Ap;by_cases e:t=s
 ·subst e;simp
 ·have:¬sx t=sx s:=fun h=>e (q8z h)
  simp[e,this]
theorem Ua {w A:B1} {base n g off b:Nat} {ty:VQ} {cs:Array Hi} {loc:Sx->Av} {T:Tb} {s:ByteArray} (h:AD w base n g off ty cs (Bs b) loc T) (X:T (sx s)=B0) (hs:(sx s).length<=20)
  (O:Aa kS A b (n+1) (AU (Bb loc T) s (Bs (.pointer (Bs ⟨w.heap.size+1,0,B0⟩)))))
  (K:Fr (fun k=>k=b) ((w.alloc (.map #[] 0)).alloc (.cells #[.map (Bs w.heap.size),.slice B0 0 0] 168)) A) :
  AD A base (n+1) g off ty cs (Bs b) (Az loc (sx s) (KH w)) (Ap T (sx s) (Bs k0)):=by
 have W:=(h.av (.inl rfl:AE (Bs b) loc T b))
 have u:Fr (fun k=>k=b) w A:=(((Fr.refl _ w).alloc _).alloc _).trans K;have S:=h.ah.lt;have J:g≠b:=by
  have I:=h.map;exact fun e=>(Aa.a6 (C:=kS) I h.ah) e.symm
 have G:Ba A base (n+1) (KH w) k0:=by
  have z:Ab ((w.alloc (.map #[] 0)).alloc (.cells #[.map (Bs w.heap.size),.slice B0 0 0] 168)) (w.heap.size+1) 168 #[.map (Bs w.heap.size),.slice B0 0 0]:=by
   have:=Ab.new (w.alloc (.map #[] 0)) 168 #[.map (Bs w.heap.size),.slice B0 0 0];simpa using this
  have H:Aa kI ((w.alloc (.map #[] 0)).alloc (.cells #[.map (Bs w.heap.size),.slice B0 0 0] 168)) w.heap.size (n+1) (hM k0.h):=by
   have e:hM k0.h=fun _=>B0:=by funext i;rfl
   rw[e];exact((Aa.made kI w).mono (VK _)).alloc _
  exact⟨K.ah z (by show ¬w.heap.size+1=b;omega),H.fr K (by show ¬w.heap.size=b;omega),VY _ _ _ _,by show base<=w.heap.size+1;have:=h.bg;omega,h.bg,fun o m e=>(nomatch e),fun x f=>(by cases f),VK _⟩
 have F:∀ x k,x≠sx s->T x=Bs k->Ba A base (n+1) (loc x) k:=fun x k _ f=>((h.keys x k f).fr u (fun c v=>h.b3 f rfl v)).mono (by omega)
 have t:∀ x,T x≠B0->∀ c,AQ (loc x) c->¬AQ (KH w) c:=fun x f c v B=>by
  obtain⟨k,R⟩:=Option.ne_none_iff_exists'.1 f;have:=(h.keys x k R).av v;rcases B with B|B|B
  ·simp only[KH] at B;omega
  ·simp only[KH] at B;omega
  ·simp[KH,V4] at B
 have q:∀ x,Ap T (sx s) (Bs k0) x≠B0->x=sx s\/(x≠sx s/\T x≠B0):=fun x f=>by
  unfold Ap at f;split at f
  ·rename_i e;exact .inl e
  ·rename_i e;exact .inr ⟨e,f⟩
 have j:∀ x,x≠sx s->Az loc (sx s) (KH w) x=loc x:=fun x e=>by unfold Az;rw[if_neg e]
 have p:Az loc (sx s) (KH w) (sx s)=KH w:=by unfold Az;rw[if_pos rfl]
 refine⟨u.ah h.ah J,h.c0,?_,fun x k f=>?_,fun x y E f N c v=>?_,fun x f=>?_,h.ne,h.cA,fun x f=>?_,by have:=u.size;have:=h.bg;omega⟩
 ·show Aa kS A b (n+1) _;have e:=O8 loc T s (KH w) k0;rw[show(KH w).g=w.heap.size+1 from rfl] at e;rw[e] at O;exact O
 ·unfold Ap at f;split at f
  ·rename_i e;subst e;injection f with f;rw[<- f,p];exact G
  ·rename_i e;rw[j x e];exact F x k e f
 ·rcases q x f with rfl|⟨e1,z⟩
  ·rcases q y N with rfl|⟨M,H⟩
   ·exact absurd rfl E
   ·rw[j y M];rw[p] at v;exact fun U=>t y H c U v
  ·rw[j x e1] at v;rcases q y N with rfl|⟨M,H⟩
   ·rw[p];exact t x z c v
   ·rw[j y M];exact h.apart x y E z H c v
 ·rcases q x f with rfl|⟨_,z⟩
  ·exact hs
  ·exact h.small x z
 ·rcases q x f with rfl|⟨e1,z⟩
  ·rw[p];simp only[KH,ne_eq,VN];omega
  ·rw[j x e1];exact h.bT x z
theorem qbv {w:B1} {n b:Nat} {loc:Sx->Av} {T:Tb} (f:Aa kS w b n (Bb loc T)) {s:ByteArray} (hs:s.size<=VZ) :
  (XH 98 (.map (Bs b)) (.string s) Jx).run Tryz.prog w=.ok (match T (sx s) with|none=>.pointer B0|some _=>.pointer (Bs ⟨(loc (sx s)).g,0,B0⟩)) w:=by
 have c:(X5 161).run Tryz.prog w=.ok (.pointer B0) w:=by kernel_rfl
 have:=(f.look Tryz.underlying98 c (x:=s) hs).2;rw[show kS.val s=Value.string s from rfl] at this;rw[this];unfold Bb;cases T (sx s) <;> rfl
theorem I9 (s:ByteArray):s.size=(sx s).length:=by unfold sx;rw[Ws];rfl
theorem q9b {T:Tb} {x:Sx} {k:Kx} (h:T x=Bs k):Ap T x (Bs (Ac T x))=T:=by
 funext y;unfold Ap Ac;by_cases e:y=x
 ·rw[if_pos e,e,h];rfl
 ·rw[if_neg e]
theorem FU (loc:Sx->Av) (x:Sx):Az loc x (loc x)=loc:=by
 funext y;unfold Az;by_cases e:y=x
 ·rw[if_pos e,e]
 ·rw[if_neg e]
def VG (mb:Option Nat) (w:B1) (c:Nat):Prop:=mb=Bs c\/(mb=B0/\w.heap.size<=c)
def Ih (base n g off:Nat) (ty:VQ) (cs:Array Hi) (mb:Option Nat) (loc:Sx->Av) (T:Tb) (x:Sx) (w:B1) (e:WA) (w':B1):Prop:=
 ∃ (c:Nat) (L:Av),e=.returned (.pointer (Bs ⟨L.g,0,B0⟩))/\AD w' base (n+1) g off ty (cs.setIfInBounds off (.map (Bs c))) (Bs c) (Az loc x L) (Ap T x (Bs (Ac T x)))/\Fr (fun k=>k=g\/Bs k=mb) w w'/\
  VG mb w c/\(T x≠B0->L=loc x)/\(T x=B0->∀ b,AQ L b->w.heap.size<=b)
theorem SE (base n g off b:Nat) (ty:VQ) (cs:Array Hi) (loc:Sx->Av) (T:Tb) (s:ByteArray) (k:Kx) (w:B1) (hI:AD w base n g off ty cs (Bs b) loc T) (f:T (sx s)=Bs k) (hs:(sx s).length<=20) :
  VX Tryz.prog 85 #[.pointer (Bs ⟨g,off,B0⟩),.string s] w (Ih base n g off ty cs (Bs b) loc T (sx s) w):=by
 have t:=(hI.ah.cell off).trans hI.c0;have i:=qbv hI.map (s:=s) (by rw[I9];unfold VZ;omega);rw[f] at i;have c:Ih base n g off ty cs (Bs b) loc T (sx s) w (.returned (.pointer (Bs ⟨(loc (sx s)).g,0,B0⟩))) w:=
  ⟨b,loc (sx s),rfl,by rw[D9 hI.c0,FU,q9b f];exact hI.mono (by omega),Fr.refl _ _,.inl rfl,fun _=>rfl,fun h=>by rw[f] at h;cases h⟩
 have q:=LH c;clear c;have p:=hI.ah.lt;have j:=fun W=>DM W 98 _ _ (Bs b) Tryz.underlying98
 clear hI f;go_enter Tryz.func85,Tryz.ntmps85;go_wp2_with fail;go_ret;exact q.o
theorem at_new (base n g off:Nat) (ty:VQ) (cs:Array Hi) (mb:Option Nat) (loc:Sx->Av) (T:Tb) (s:ByteArray) (w:B1) (hI:AD w base n g off ty cs mb loc T) (hT:T (sx s)=B0) (hs:(sx s).length<=20) (hn:n<1000000) :
  VX Tryz.prog 85 #[.pointer (Bs ⟨g,off,B0⟩),.string s] w (Ih base n g off ty cs mb loc T (sx s) w):=by
 have A:s.size<=VZ:=by rw[I9];unfold VZ;omega
 have S:=(hI.ah.cell off).trans hI.c0;have f0:=hI.ah.frozen off;have a1:=hI.ah.lt;have R:=fun W=>DM W 98 _ _ mb Tryz.underlying98
 have HI:=LH hI;clear hI;have O:=LH hT;clear hT;rcases mb with _|b
 case' none=>
  have t:=@YK Tryz.prog;have u:=QO HI.o;have j:(w.alloc (.map #[] 0)).setCell ⟨g,off,B0⟩ (.map (Bs w.heap.size))=(w.setCell ⟨g,off,B0⟩ (.map (Bs w.heap.size))).alloc (.map #[] 0):=by
   rw[Yl _ _ _ _ (by omega)]
  have v:Fr (fun k=>k=g\/Bs k=B0) w ((w.alloc (.map #[] 0)).setCell ⟨g,off,B0⟩ (.map (Bs w.heap.size))):=((Fr.refl _ _).alloc _).setCell (p:=⟨g,off,B0⟩) (.inl (.inl rfl)) _;rw[j] at u v;clear j;have f:=LH u;clear u;have z:=LH v;clear v;have y:=LH (show VG B0 w w.heap.size from .inr ⟨rfl,L1 _⟩);have c1:=(f.o.ah.cell off).trans f.o.c0;have H:w.heap.size<((w.setCell ⟨g,off,B0⟩ (.map (Bs w.heap.size))).alloc (.map #[] 0)).heap.size:=by simp
  go_enter Tryz.func85,Tryz.ntmps85;go_upto_region 3 with (fail)
  clear t S f0;have N:=LH H;clear H;generalize hb:w.heap.size=b at *;generalize (w.setCell ⟨g,off,B0⟩ (.map (Bs b))).alloc (.map #[] 0)=q at *;have F:w.heap.size<=q.heap.size:=by have:=z.o.size;omega
  have M:=LH F;clear F;have a2:=LH hb;clear hb
 case' some=>
  have f:Hid (AD w base n g off ty (cs.setIfInBounds off (.map (Bs b))) (Bs b) loc T):=LH (by rw[D9 HI.o.c0];exact HI.o);have z:=LH (Fr.refl (fun k=>k=g\/Bs k=Bs b) w);have y:=LH (show VG (Bs b) w b from .inl rfl);have c1:=S;go_enter Tryz.func85,Tryz.ntmps85;go_upto_region 3 with (fail)
  clear S f0;have N:=LH ((f.o.av (.inl rfl:AE (Bs b) loc T b)).2);have M:=LH (L1 w.heap.size);obtain⟨q,rfl⟩:∃ q:B1,q=w:=⟨w,rfl⟩
 all_goals
  clear HI R;have Z:=f.o.ah.lt;have E:=qbv f.o.map (s:=s) A;rw[O.o] at E;have t:=@YK Tryz.prog;have a0:=N.o;go_wp2_with (at_mapUpdate;refine TF (C:=kS) rfl 98 161 Tryz.underlying98 _ _ _ rfl rfl (show Aa kS _ b n (Bb loc T) from(f.o.map.alloc _).alloc _) (by unfold VZ;omega) s (.pointer (Bs ⟨q.heap.size+1,0,B0⟩)) rfl rfl A ?_;intro w3 B x)
  have J:=Ua f.o O.o hs B x;have K:Fr (fun k=>k=b) q w3:=(((Fr.refl _ q).alloc _).alloc _).trans x;have U:=LH J;clear J;have I:Ac T (sx s)=k0:=by unfold Ac;rw[O.o];rfl
  have Y:=LH I;clear I;have G:=z.o.trans' K (fun i hi (e:i=b)=>by
   rcases y.o with h|⟨_,h⟩
   ·exact .inr (by rw[h,e])
   ·omega)
  have X:=LH G;clear G K x B E t;go_ret;refine⟨b,KH q,rfl,by rw[Y.o];exact U.o,X.o,y.o,fun h=>absurd O.o h,fun _ c hc=>?_⟩;have:=M.o;rcases hc with h|h|h
  ·simp only[KH] at h;omega
  ·simp only[KH] at h;omega
  ·simp[KH,V4] at h
theorem Bp:Tryz.prog.underlying 164=Bs (.slice 166):=Tryz.underlying164
theorem OB:Tryz.prog.elem 164=166:=by kernel_rfl
theorem OC (w:B1):(sizeOf 166).run Tryz.prog w=.ok 2 w:=by kernel_rfl
theorem KU:(Tryz.prog.info? 166).map (fun i=>(i.zero,i.size,i.bytes))=Bs (Bs (.agg #[.int .i64 0,.int .i64 0]),2,16):=by kernel_rfl
theorem qbq:(Tryz.prog.info? 166).map (·.size)=Bs 2:=by kernel_rfl
def q4w (base n i:Nat) (V:Hi) (c xs:List Hi) (w:B1) (e:WA) (w':B1):Prop:=
 ∃ V',e=.returned V'/\w'.ownsRow base 166 2 V' (n+1) (Cc 2 i c xs)/\Aq w w' V.ownBlock V'.ownBlock
theorem M4 {w:B1} {g:Nat} {cs:Array Hi} {t:VQ} (h:w.heap[g]? = Bs (.cells cs t (0,0))):w.shape? g=Bs (t,cs.size):=by
 unfold World.shape?;rw[h]
theorem IA {w:B1} {g o:Nat} {cs:Array Hi} {t:VQ} (h:w.heap[g]? = Bs (.cells cs t (0,0))):w.frozen? ⟨g,o,B0⟩=Jx:=Ab.frozen (show Ab w g t cs from h) o
theorem Qo (base n B G:Nat) (V:Hi) (xs h:List Hi) (w:B1) (f:w.ownsRow base 166 2 V n xs) (S:n<=100000) (q:h.length=2) (s:∀ u∈h,u.oneCell'=T2)
  (p:Ab w B 166 h.toArray) (O:base<=w.heap.size) :
  VX Tryz.prog 91 #[V,.int .i64 n,.slice (Bs ⟨B,0,B0⟩) 1 G] w (q4w base n n V h xs w):=by
 obtain⟨A,c,rfl,N,_⟩:=AK f;obtain⟨K,H⟩:=q1b 164 Bp OB OC w A n c n (L1 _);have t:DR w w.heap.size 2 (Bs ⟨B,0,B0⟩) 1 h:=⟨by rw[q],fun _=>⟨_,rfl,p.lt,fun j u M=>by
  rw[WJ,Wg];exact(p.cell j).trans (by simpa using M)⟩⟩
 have i:Cc 2 n h xs=xs++h:=by
  unfold Cc;rw[VU (by rw[f.1];omega),Ya (by rw[f.1];omega),WM]
 have y:=LH f;clear f;have F:=LH t;clear t;have z:=LH i;clear i;have E:=LH s;clear s;clear p q;go_enter Tryz.func91,Tryz.ntmps91;go_wp2_with (at_builtin;refine q1e w rfl _ _ 164 rfl base 166 _ 2 16 Bp KU rfl (by decide) _ n xs rfl y.o _ _ 1 G h rfl F.o E.o (by unfold VZ;omega) (by omega) O ?_;intro I J v x)
 have k:q4w base n n (.slice A n c) h xs w (.returned I) J:=⟨I,rfl,by rw[z.o];exact v,x⟩
 have R:=LH k;clear k v x;go_wp2_with fail;go_ret;exact R.o
theorem KS (base g n c i F N:Nat) (xs J:List Hi) (w:B1) (p:w.ownsRow base 166 2 (.slice (Bs ⟨g,0,B0⟩) n c) n xs) (hi:i<n) (y:n+1<=c) (hn:n<=100000) (M:∀ u∈xs,u.oneCell'=T2) (O:J.length=2) (R:∀ u∈J,u.oneCell'=T2)
  (s:Ab w F 166 J.toArray) (S:F≠g) (hb:base<=w.heap.size) :
  VX Tryz.prog 91 #[.slice (Bs ⟨g,0,B0⟩) n c,.int .i64 i,.slice (Bs ⟨F,0,B0⟩) 1 N] w (q4w base n i (.slice (Bs ⟨g,0,B0⟩) n c) J xs w):=by
 obtain⟨a8,a6⟩:=q1b 164 Bp OB OC w (Bs ⟨g,0,B0⟩) n c i (by omega);obtain⟨ex,Z,A⟩:=FK p y;obtain⟨a3,q1,hg,q2,q3,a0,q4⟩:=q3n p;clear q1 q2 q3 q4;have I:a3.size≠0:=by rw[a0];have:0<c*2:=Nat.mul_pos (by omega) (by decide);omega
 have a1:∀ lb cb,(XP 114 #[.slice (Bs ⟨F,0,B0⟩) 1 N,.slice (Bs ⟨g,(i+1)*2,B0⟩) lb cb]).run Tryz.prog w=.ok (.value (.bool Jx)) w:=fun lb cb=>by
  rw[run_callFunc_extern Tryz.func114 (by kernel_rfl) (by kernel_rfl) (by kernel_rfl) (e:=Extern.SlicesOverlaps.overlaps #[164,164] #[4]) (by kernel_rfl),
   Lib.run_overlaps_apart w 164 4 166 Bp 2 OC ⟨F,0,B0⟩ ⟨g,(i+1)*2,B0⟩ 1 N lb cb S _ _ _ _ (M4 s) (M4 hg) I (IA s) (IA s)]
  rfl
 have E:=p.1;obtain⟨w2,x,z,Y⟩:=TB (w:=w.drew) 164 164 166 Bp qbq (show w.drew.ownsRow base 166 2 (.slice (Bs ⟨g,0,B0⟩) (n+1) c) (n+1) (xs++ex) from A) (i:=i+1) (m:=n-i) (by omega) (xs.drop (i*2))
  (by rw[W8,E,YJ]) ⟨g,i*2,B0⟩ (fun j v U=>by
   rw[WJ];rw[Yd] at U;have a2:i*2+j<n*2:=by rw[<- E];exact(List.getElem?_eq_some_iff.1 U).1
   show w.cell? _=_;exact(p.cellAt _ a2).trans U) (fun u hu=>M u (X0 hu)) (n-i) (c-(i+1)) (n+1-i) (c-i) (by show min _ _=_;omega)
 have B:Fr (fun k=>k=g) w w2:=(Fr.refl _ w).drew.trans Y;have G:Ab w2 F 166 J.toArray:=B.ah s S;obtain⟨w3,t,q,X⟩:=TB (w:=w2) 164 164 166 Bp qbq z (i:=i) (m:=1) (by omega) J (by rw[O]) ⟨F,0,B0⟩ (fun j v U=>by
   rw[WJ,Wg];exact(G.cell j).trans (by simpa using U)) R (n+1-i) (c-i) 1 N (by show min _ _=_;omega)
 have a7:=(Ur p).2;rw[q9e E hi Z] at q;have H:q4w base n i (.slice (Bs ⟨g,0,B0⟩) n c) J xs w (.returned (.slice (Bs ⟨g,0,B0⟩) (n+1) c)) w3:=
  ⟨_,rfl,q,(B.trans X).mono (fun k _ h=>by rw[h];rfl),.inl rfl⟩
 have s1:=q3k 164 Bp OB OC w g n c (n+1) ((n:Int)+1) (by omega) y;have s2:=fun W=>Qd 164 Bp OB OC W g (n+1) c (i+1) ((i:Int)+1) (by omega) (by omega) (by omega)
 rw[show n+1-(i+1)=n-i by omega] at s2;have s3:=fun W=>Qd 164 Bp OB OC W g (n+1) c i (i:Int) rfl (by omega) (by omega)
 have HF:=LH H;clear H A z q Y X B p s G hg a0 I Z;have aa:IntKind.i64.wrap ((i:Int)+1)=(i:Int)+1:=V8 _ (by omega);have a9:IntKind.i64.wrap ((n:Int)+1)=(n:Int)+1:=V8 _ (by omega);have a5:=LH x;clear x;have a4:=LH t;clear t;have ab:=LH M;clear M;clear R O E;have d1:((i:Int) == (n:Int))=Jx:=by rw[beq_eq_false_iff_ne];omega
 have d2:decide ((c:Int)<(n:Int)+1)=Jx:=by rw[decide_eq_false_iff_not];omega
 go_enter Tryz.func91,Tryz.ntmps91;go_wp2_with (simp only[a1])
 refine nW ?_;refine Tr (fun _=>True) 9 ?_;have f:True:=trivial;refine nE 0 f ?_;refine nE 1 f ?_;refine nE 2 f ?_;refine nE 3 f ?_;refine nE 4 f ?_;refine nE 5 f ?_;refine nE 6 f ?_;refine nE 7 f ?_;refine nG 8 (fun K hK=>?_);refine q2j (.tmp 73) (.tmp 76) 164 164 rfl (.slice (Bs ⟨g,(i+1)*2,B0⟩) (n-i) (c-(i+1))) (.slice (Bs ⟨g,i*2,B0⟩) (n+1-i) (c-i)) _ (by simp[Xg,Xj]) (by simp[Xg,Xj]) (a5.o _) ?_;go_simp;refine hK _ _ (fun _=>f) ?_;clear hK K;refine nX ?_;clear f;go_wp2_with (refine q1p rfl (.tmp 80) (.tmp 81) 164 164 rfl (.slice (Bs ⟨g,i*2,B0⟩) (n+1-i) (c-i)) (.slice (Bs ⟨F,0,B0⟩) 1 N) _ rfl rfl (a4.o _) ?_)
 go_ret;exact HF.o
theorem N5 (base g n c i X vc:Nat) (xs O:List Hi) (w:B1) (p:w.ownsRow base 166 2 (.slice (Bs ⟨g,0,B0⟩) n c) n xs) (hi:i<n) (a5:c<n+1) (hn:n<=100000) (E:∀ u∈xs,u.oneCell'=T2) (R:O.length=2) (Z:∀ u∈O,u.oneCell'=T2)
  (S:Ab w X 166 O.toArray) (hb:base<=w.heap.size) :
  VX Tryz.prog 91 #[.slice (Bs ⟨g,0,B0⟩) n c,.int .i64 i,.slice (Bs ⟨X,0,B0⟩) 1 vc] w (q4w base n i (.slice (Bs ⟨g,0,B0⟩) n c) O xs w):=by
 obtain⟨ac,ab⟩:=q1b 164 Bp OB OC w (Bs ⟨g,0,B0⟩) n c i (by omega);have hc:=Ur p;have F:=p.1;obtain⟨i0,a1,Y,I,M⟩:=info_parts KU;have af:g<w.heap.size:=(p.lt g rfl).2;obtain⟨N,w1,q,s,G,a4⟩:=qb0 (w:=w) 164 3 i0 _ .i64 .i64 Bp Tryz.underlying3 a1 Y I rfl (by decide) (q4o p (i:=i) (by omega)) (k:=n+1-i) (by omega) (by omega) (by omega) (by rw[M];decide) (fun u hu=>E u (WB hu)) hb;rw[show i+(n+1-i)=n+1 by omega] at q s;have ag:=(Ur s).1;have H:Ab w1 X 166 O.toArray:=G.ah S (fun h=>h);have A:=G.own p (fun _ _ h=>h);have aa:=S.lt;obtain⟨w2,y,B,U⟩:=TB (w:=w1) 164 164 166 Bp qbq s (i:=i) (m:=1) (by omega) O (by rw[R]) ⟨X,0,B0⟩ (fun j v hj=>by
   rw[WJ,Wg];exact(H.cell j).trans (by simpa using hj)) Z (n+1-i) (N-i) 1 vc (by show min _ _=_;omega)
 have z:=U.own A (fun k hk e=>by
   have:g=k:=by simpa [V4] using hk
   omega)
 obtain⟨w3,x,t,a3⟩:=TB (w:=w2.drew) 164 164 166 Bp qbq (show w2.drew.ownsRow base 166 2 (.slice (Bs ⟨w.heap.size,0,B0⟩) (n+1) N) (n+1) _ from B) (i:=i+1) (m:=n-i) (by omega) (xs.drop (i*2))
  (by rw[W8,F,YJ]) ⟨g,i*2,B0⟩ (fun j v hj=>by
   rw[WJ];rw[Yd] at hj;have a6:i*2+j<n*2:=by rw[<- F];exact(List.getElem?_eq_some_iff.1 hj).1
   show w2.cell? _=_;exact(z.cellAt _ a6).trans hj) (fun u hu=>E u (X0 hu)) (n-i) (N-(i+1)) (n-i) (c-i) (by show min _ _=_;omega)
 rw[q7o F (by omega) (by rw[Ws,size_zeroCells];rfl) R] at t;have a2:Fr (fun k=>Bs k=V4 (.slice (Bs ⟨g,0,B0⟩) n c)) w w3:=(((G.trans' U (fun k hk (e:k=w.heap.size)=>by omega)).drew).trans' a3 (fun k hk (e:k=w.heap.size)=>by omega)).mono (fun k _ h=>h.elim);have J:q4w base n i (.slice (Bs ⟨g,0,B0⟩) n c) O xs w (.returned (.slice (Bs ⟨w.heap.size,0,B0⟩) (n+1) N)) w3:=
  ⟨_,rfl,t,a2,.inr ⟨_,rfl,L1 _⟩⟩
 have a0:(n:Int)+1-i=((n+1-i:Nat):Int):=by omega
 have s1:=q3k 164 Bp OB OC w g n c i (i:Int) rfl (by omega);have s2:=fun W=>Qd 164 Bp OB OC W w.heap.size (n+1) N i (i:Int) rfl (by omega) (by omega)
 have s3:=fun W=>Qd 164 Bp OB OC W w.heap.size (n+1) N (i+1) ((i:Int)+1) (by omega) (by omega) (by omega)
 rw[show n+1-(i+1)=n-i by omega] at s3;have s4:=fun W=>Qd 164 Bp OB OC W g n c i (i:Int) rfl (by omega) (by omega)
 have HF:=LH J;clear J s B t G U a3 p A z S H a1 Y I M a2 a4;have ae:IntKind.i64.wrap ((i:Int)+1)=(i:Int)+1:=V8 _ (by omega);have ad:IntKind.i64.wrap ((n:Int)+1)=(n:Int)+1:=V8 _ (by omega);rw[<- a0] at q;have a9:=LH q;clear q a0;have a8:=LH y;clear y;have a7:=LH x;clear x;have ah:=LH E;clear E;clear Z R F;have d1:((i:Int) == (n:Int))=Jx:=by rw[beq_eq_false_iff_ne];omega
 have d2:decide ((c:Int)<(n:Int)+1)=T2:=by rw[decide_eq_true_eq];omega
 go_enter Tryz.func91,Tryz.ntmps91;go_wp2_with (first|(refine q1z rfl (.tmp 34) (.tmp 39) 164 3 rfl (.slice (Bs ⟨g,0,B0⟩) i c) (.int .i64 ((n:Int)+1-i)) _ rfl rfl (a9.o _) ?_)|(refine q1p rfl (.tmp 43) (.tmp 44) 164 164 rfl (.slice (Bs ⟨w.heap.size,i*2,B0⟩) (n+1-i) (N-i)) (.slice (Bs ⟨X,0,B0⟩) 1 vc) _ rfl rfl (a8.o _) ?_))
 refine nW ?_;refine Tr (fun _=>True) 9 ?_;have f:True:=trivial;refine nE 0 f ?_;refine nE 1 f ?_;refine nE 2 f ?_;refine nE 3 f ?_;refine nE 4 f ?_;refine nE 5 f ?_;refine nE 6 f ?_;refine nE 7 f ?_;refine nG 8 (fun K hK=>?_);refine q2j (.tmp 50) (.tmp 53) 164 164 rfl (.slice (Bs ⟨w.heap.size,(i+1)*2,B0⟩) (n-i) (N-(i+1))) (.slice (Bs ⟨g,i*2,B0⟩) (n-i) (c-i)) _ (by simp[Xg,Xj]) (by simp[Xg,Xj]) (a7.o _) ?_;go_simp;refine hK _ _ (fun _=>f) ?_;clear hK K;refine nX ?_;clear f;go_wp2_with fail;go_ret;exact HF.o
theorem Qp (base n i s v:Nat) (V:Hi) (xs j:List Hi) (w:B1) (f:w.ownsRow base 166 2 V n xs) (E:i<=n) (y:n<=100000) (t:∀ u∈xs,u.oneCell'=T2) (k:j.length=2) (q:∀ u∈j,u.oneCell'=T2)
  (p:Ab w s 166 j.toArray) (x:V.ownBlock≠Bs s) (z:base<=w.heap.size) :
  VX Tryz.prog 91 #[V,.int .i64 i,.slice (Bs ⟨s,0,B0⟩) 1 v] w (q4w base n i V j xs w):=by
 by_cases e:i=n
 ·subst e;exact Qo base i s v V xs j w f y k q p z
 ·rcases f.2 with ⟨rfl,F⟩|⟨g,c,B,rfl,_,_,A,_⟩
  ·omega
  ·by_cases h:n+1<=c
   ·exact KS base g n c i s v xs j w f (by omega) h y t k q p (fun e=>x (by rw[e];rfl)) z
   ·exact N5 base g n c i s v xs j w f (by omega) (by omega) y t k q p z
def WCmpW (F:Nat) (c:(Int×Int)->Int) (t:Int) (w:B1):Prop:=
 ∀ (W:B1) (x:(Int×Int)),VJ w.heap.size w W->(True)->VX Tryz.prog F #[wtV x,.int .i64 t] W fun e w'=>e=.returned (.int .i64 (c x))/\VJ W.heap.size W w'
def MT (c:(Int×Int)->Int) (L:List (Int×Int)) (n:Nat) (w:B1) (u v:Hi) (wr:B1):Prop:=
 ∃ i j:Nat,u=.int .i64 i/\v=.int .i64 j/\i<=j/\j<=n/\(∀ k (h:k<L.length),k<i->c L[k]<0)/\(∀ k (h:k<L.length),j<=k->0<=c L[k])/\VJ w.heap.size w wr
def HU (c:(Int×Int)->Int) (L:List (Int×Int)) (n:Nat) (w:B1) (e:WA) (w':B1):Prop:=
 ∃ (i:Nat) (f:Bool),e=.returned (.tuple #[.int .i64 i,.bool f])/\i<=n/\(∀ k (h:k<L.length),k<i->c L[k]<0)/\(∀ k (h:k<L.length),i<=k->0<=c L[k])/\(f=T2↔∃ h:i<L.length,c L[i]=0)/\VJ w.heap.size w w'
theorem Iq (F:Nat) (z:(Int×Int)->Int) (A:Option Xb) (n k:Nat) (L:List (Int×Int)) (t:Int) (w:B1) (eg:∀ args w,(XP F args).run Tryz.prog w=.ok (.enter F args) w)
  (hp:WCmpW F z t w) (hr:Rd w w.heap.size 2 A n (L.flatMap Cy)) (hl:L.length=n) (hn:n<=100000) (W:∀ x∈L,True)
  (E:∀ (i j:Nat) (hi:i<L.length) (hj:j<L.length),i<=j->z L[i]<=z L[j]) :
  VX Tryz.prog 89 #[.slice A n k,.int .i64 t,.func (.func F) #[] #[]] w (HU z L n w):=by
 have HR:=LH hr;clear hr;have HP:=LH hp;clear hp;have HM:=LH E;clear E;have a0:=LH W;clear W;have HL:=LH hl;clear hl;go_enter Tryz.func89,Tryz.ntmps89;go_wp2_with fail;go_loopw [9,10] (MT z L n w) (fun u v _=>(intOf v).toNat-(intOf u).toNat)
 case atStart=>exact⟨0,n,rfl,rfl,VK _,L1 _,fun k h S=>absurd S (by omega),fun k h S=>absurd S (by have:=HL.o;omega),S2 _ _⟩
 case round=>
  obtain⟨i,j,rfl,rfl,a7,a1,X,Y,p⟩:=hrel;have H:=LH p;have O:=LH X;clear X;have R:=LH Y;clear Y;by_cases a5:(i:Int)<j
  ·have a4:i<=(i+j) / 2:=by omega
   have a3:(i+j) / 2<j:=by omega
   obtain⟨g',o',x,rfl,M,K,h0,h1⟩:=(HR.o.below p).bE HL.o (j:=(i+j) / 2) (by omega);have a2:g'<wr.heap.size:=VH M p.size;have U:=a0.o x (O0 K);have f:=HP.o wr x p U;have HC:=LH f;clear f;have HX:=LH K;clear K p;go_wp2_with fail;refine HC.o.mono ?_;rintro e w2 ⟨rfl,G⟩;have y:=H.o.trans (G.mono H.o.size);have J:=LH y;clear y G HC;obtain⟨I,B⟩:=List.getElem?_eq_some_iff.1 HX.o;have Z:=LH B;clear B;by_cases hc:z x<0
   ·have d1:decide (z x<0)=T2:=decide_eq_true hc;have c:MT z L n w (.int .i64 (((i+j) / 2+1:Nat):Int)) (.int .i64 j) w2:=by
     refine⟨(i+j) / 2+1,j,rfl,rfl,by omega,a1,fun q hq S=>?_,R.o,J.o⟩;have:=HM.o q ((i+j) / 2) hq I (by omega);rw[Z.o] at this;omega
    have N:=LH c;clear c hc;go_wp2_with fail;go_roundw
    ·exact N.o
    ·simp[intOf];omega
   ·have d1:decide (z x<0)=Jx:=decide_eq_false hc;have c:MT z L n w (.int .i64 i) (.int .i64 (((i+j) / 2:Nat):Int)) w2:=by
     refine⟨i,(i+j) / 2,rfl,rfl,by omega,by omega,O.o,fun q hq S=>?_,J.o⟩;have:=HM.o ((i+j) / 2) q I hq S;rw[Z.o] at this;omega
    have N:=LH c;clear c hc;go_wp2_with fail;go_roundw
    ·exact N.o
    ·simp[intOf];omega
  ·obtain rfl:j=i:=by omega
   by_cases a6:(j:Int)<n
   ·obtain⟨g',o',x,rfl,M,K,h0,h1⟩:=(HR.o.below p).bE HL.o (j:=j) (by omega);have a2:g'<wr.heap.size:=VH M p.size;have f:=HP.o wr x p (a0.o x (O0 K));have HC:=LH f;clear f;have HX:=LH K;clear K p;go_wp2_with fail;refine HC.o.mono ?_;rintro e w2 ⟨rfl,G⟩;have y:=H.o.trans (G.mono H.o.size);have J:=LH y;clear y G HC;have s:HU z L n w (.returned (.tuple #[.int .i64 j,.bool (z x == 0)])) w2:=by
     obtain⟨I,B⟩:=List.getElem?_eq_some_iff.1 HX.o;refine⟨j,_,rfl,by omega,O.o,R.o,?_,J.o⟩;rw[beq_iff_eq];exact⟨fun h=>⟨I,by rw[B];exact h⟩,fun⟨_,h⟩=>by rw[B] at h;exact h⟩
    have HF:=LH s;clear s;go_wp2_with fail;go_ret2;exact HF.o
   ·have s:HU z L n w (.returned (.tuple #[.int .i64 j,.bool Jx])) wr:=
     ⟨j,Jx,rfl,by omega,O.o,R.o,⟨fun h=>(by cases h),fun⟨h,_⟩=>absurd h (by have:=HL.o;omega)⟩,H.o⟩
    have HF:=LH s;clear s p;go_wp2_with fail;go_ret2;exact HF.o
theorem q26 {B:Nat} {w w':B1} (h:VJ B w w'):Fr (fun k=>B<=k) w w':=⟨h.os,h.tape,h.output,h.size,fun k _ c=>h.block k (by omega)⟩
def CX (k:Int):Hi:=if k=0 then .nilIface else .iface 79 (.int .i64 k)
theorem ML (base n g off:Nat) (ty:VQ) (cs:Array Hi) (mb:Option Nat) (loc:Sx->Av) (T:Tb) (s:ByteArray) (w:B1) (hI:AD w base n g off ty cs mb loc T) (hs:(sx s).length<=20) (f:n<1000000) :
  VX Tryz.prog 85 #[.pointer (Bs ⟨g,off,B0⟩),.string s] w (Ih base n g off ty cs mb loc T (sx s) w):=by
 cases c:T (sx s) with
 | none=>exact at_new base n g off ty cs mb loc T s w hI c hs f
 | some k=>
  rcases mb with _|b
  ·have:=hI.map (sx s);rw[c] at this;cases this
  ·exact SE base n g off b ty cs loc T s k w hI c hs
def TFr (g:Nat) (mb:Option Nat) (loc:Sx->Av) (T:Tb) (k:Nat):Prop:=k=g\/AE mb loc T k
theorem GI (s:ByteArray):((s.size:Nat):Int)=(sx s).length:=by rw[I9]
theorem AD.cu {w w':B1} {base n n' g off:Nat} {ty:VQ} {cs:Array Hi} {mb:Option Nat} {loc:Sx->Av} {T:Tb} (h:AD w base n g off ty cs mb loc T) {x:Sx} {k k':Kx} {L':Av} (G:T x=Bs k) (U:n<=n')
  (I:Fr (fun b=>AQ (loc x) b) w w') (Z:Ba w' base n' L' k') (X:L'.g=(loc x).g) (W:L'.hb=(loc x).hb) (hV:∀ b,L'.V.ownBlock=Bs b->(loc x).V.ownBlock=Bs b\/w.heap.size<=b) :
  AD w' base n' g off ty cs mb (Az loc x L') (Ap T x (Bs k')):=by
 have p:∀ b,AQ L' b->AQ (loc x) b\/w.heap.size<=b:=fun b f=>by
  rcases f with f|f|f
  ·exact .inl (.inl (by rw[f,X]))
  ·exact .inl (.inr (.inl (by rw[f,W])))
  ·rcases hV b f with h|h
   ·exact .inl (.inr (.inr h))
   ·exact .inr h
 have j:∀ y,Ap T x (Bs k') y≠B0->y=x\/(y≠x/\T y≠B0):=fun y i=>by
  unfold Ap at i;split at i
  ·rename_i e;exact .inl e
  ·rename_i e;exact .inr ⟨e,i⟩
 have A:∀ y,y≠x->Az loc x L' y=loc y:=fun y e=>by unfold Az;rw[if_neg e]
 have E:Az loc x L' x=L':=by unfold Az;rw[if_pos rfl]
 have q:T x≠B0:=by rw[G];simp
 have u:∀ y,y≠x->T y≠B0->∀ b,AQ (loc y) b->¬AQ (loc x) b:=fun y e i b f=>h.apart y x e i q b f
 refine⟨I.ah h.ah (fun f=>h.cZ G f rfl),h.c0,?_,fun y N i=>?_,fun y z B i S b f=>?_,fun y i=>?_,h.ne,h.cA,fun y i=>?_,VO h.bg I.size⟩
 ·have H:=h.map;rcases s:mb with _|c
  ·rw[s] at H;exact absurd (H x) q
  ·rw[s] at H;have e:Bb (Az loc x L') (Ap T x (Bs k'))=Bb loc T:=by
    funext t;unfold Bb;by_cases e:sx t=x
    ·rw[e,E,X];unfold Ap;rw[if_pos rfl,G];rfl
    ·rw[A _ e];unfold Ap;rw[if_neg e]
   show Aa kS w' c n' _;rw[e];exact(Aa.fr (C:=kS) H I (fun f=>h.b3 G s f rfl)).mono U
 ·unfold Ap at i;split at i
  ·rename_i e;subst e;injection i with i;rw[<- i,E];exact Z
  ·rename_i e;rw[A y e];exact((h.keys y N i).fr I (fun b f=>u y e (by rw[i];simp) b f)).mono U
 ·rcases j y i with rfl|⟨e1,v⟩
  ·rcases j z S with rfl|⟨M,K⟩
   ·exact absurd rfl B
   ·rw[A z M];rw[E] at f;intro J;rcases p b f with F|F
    ·exact u z M K b J F
    ·obtain⟨Y,O⟩:=Option.ne_none_iff_exists'.1 K;have:=((h.keys z Y O).av J).2;omega
  ·rw[A y e1] at f;rcases j z S with rfl|⟨M,K⟩
   ·rw[E];intro J;rcases p b J with F|F
    ·exact u y e1 v b f F
    ·obtain⟨N,R⟩:=Option.ne_none_iff_exists'.1 v;have:=((h.keys y N R).av f).2;omega
   ·rw[A z M];exact h.apart y z B v K b f
 ·rcases j y i with rfl|⟨_,v⟩
  ·exact h.small y q
  ·exact h.small y v
 ·rcases j y i with rfl|⟨e1,v⟩
  ·rw[E,W];exact h.bT y q
  ·rw[A y e1];exact h.bT y v
def PP (tx:Int) (x:Int×Int):Int:=if x.1<tx then -1 else 1
theorem Pb (tx:Int) (w:B1):WCmpW 90 (PP tx) tx w:=by
 intro W x j _;have f:∀ o,VJ W.heap.size W (W.alloc o):=fun o=>(S2 _ _).alloc (L1 _) _
 have h:=LH f;clear f;unfold wtV;by_cases c:x.1<tx
 ·have d1:decide (x.1<tx)=T2:=decide_eq_true c;have i:=LH (show PP tx x = -1 by unfold PP;rw[if_pos c]);clear c;go_enter Tryz.func90,Tryz.ntmps90;go_wp2_with fail;go_ret;rw[i.o];exact⟨rfl,h.o _⟩
 ·have d1:decide (x.1<tx)=Jx:=decide_eq_false c;have i:=LH (show PP tx x=1 by unfold PP;rw[if_neg c]);clear c;go_enter Tryz.func90,Tryz.ntmps90;go_wp2_with fail;go_ret;rw[i.o];exact⟨rfl,h.o _⟩
theorem Jd {tx:Int} : ∀ {L:List (Int×Int)} {i:Nat},i<=L.length->(∀ k (h:k<L.length),k<i->PP tx L[k]<0)->(∀ k (h:k<L.length),i<=k->0<=PP tx L[k])->(L.takeWhile (fun x=>decide (x.1<tx))).length=i
 | [],i,c,_,_=>by simp at c;simp[c]
 | x::L,0,_,_,h2=>by
  have:=h2 0 (by simp) (L1 _);simp only[List.getElem_cons_zero,PP] at this;have f:¬x.1<tx:=fun h=>by rw[if_pos h] at this;omega
  simp[f]
 | x::L,i+1,c,h1,h2=>by
  have:=h1 0 (by simp) (by omega);simp only[List.getElem_cons_zero,PP] at this;have f:x.1<tx:=by
   by_cases h:x.1<tx
   ·exact h
   ·rw[if_neg h] at this;omega
  have j:=Jd (tx:=tx) (L:=L) (i:=i) (by simpa using c) (fun k h p=>by have:=h1 (k+1) (by simpa using h) (by omega);rw[List.getElem_cons_succ] at this;exact this) (fun k h p=>by have:=h2 (k+1) (by simpa using h) (by omega);rw[List.getElem_cons_succ] at this;exact this);simp[f,j]
theorem Mw (L:List (Int×Int)) (i:Nat):(L.flatMap Cy).take (i*2)=(L.take i).flatMap Cy:=by
 induction L generalizing i with
 | nil=>simp
 | cons x L c=>
  cases i with
  | zero=>simp
  | succ i=>rw[show(i+1)*2=i*2+2 by omega,VI,WU,VI,<- c];simp[Cy]
theorem Mx (L:List (Int×Int)) (i:Nat):(L.flatMap Cy).drop (i*2)=(L.drop i).flatMap Cy:=by
 induction L generalizing i with
 | nil=>simp
 | cons x L c=>
  cases i with
  | zero=>simp
  | succ i=>rw[show(i+1)*2=i*2+2 by omega,VI,Xd,<- c];simp[Cy]
theorem OM {tx mode:Int} {L:List (Int×Int)} {i:Nat} (c:(L.takeWhile (fun x=>decide (x.1<tx))).length=i):Cc 2 i (Cy (tx,mode)) (L.flatMap Cy)=(BY L (tx,mode)).flatMap Cy:=by
 unfold Cc BY;rw[Mw,Mx,Wx,VI];have f:=WK (p:=fun x:Int×Int=>decide (x.1<tx)) (l:=L);have h:L.take i=L.takeWhile (fun x=>decide (x.1<tx)):=by
  conv=>lhs;rw[<- f]
  rw[<- c,List.take_left]
 have j:L.drop i=L.dropWhile (fun x=>decide (x.1<tx)):=by
  conv=>lhs;rw[<- f]
  rw[<- c,List.drop_left]
 rw[h,j,List.append_assoc]
theorem SA {tx:Int} {L:List (Int×Int)} (hs:L.Pairwise (·.1 < ·.1)):∀ (i j:Nat) (f:i<L.length) (c:j<L.length),i<=j->PP tx L[i]<=PP tx L[j]:=fun i j f c k=>by
 have:L[i].1<=L[j].1:=by
  rcases W9 i j with h|h
  ·have:=List.pairwise_iff_getElem.1 hs i j f c h;omega
  ·obtain rfl:i=j:=by omega
   omega
 unfold PP;split <;> split <;> omega
end Go.Proofs.YtccahlhdifadfaaGreatDoor
