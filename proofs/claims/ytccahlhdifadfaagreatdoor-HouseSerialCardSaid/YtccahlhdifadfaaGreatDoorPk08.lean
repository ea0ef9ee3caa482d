/- Part 9 of the texts that the claim rests on (of 9): QFlat, QChk, QChk2, QChk3, QChk5, QChk6, QChk7, QFits, QSerR, QOwn, QSerR2, QSerR4, QSerQ5, Kn1, KlA, Kn2, Kn3, Row, Gen, Handle3. -/
import Derived.Test.YtccahlhdifadfaaGreatDoorPk07
import Derived.BigQuiet
import Derived.Deep.QuietTactic
import Derived.StillTailTactics
import Derived.Deep.DeepCutAuto
import Derived.Laws.MakeOwn
import Derived.Laws.EntriesVeiled
import Derived.Below
import Derived.ChangeSame
import Derived.Test.YtccahlhdifadfaaGreatDoorRows
import Derived.WalkKit
import Derived.ProofKit
import Derived.OpenShut
import Derived.Carry
import Derived.Deep.Slices
import Derived.Deep.DeepHandedRow
import Derived.LaidMore
import Derived.LaidLaws
import Derived.LaidHandle
import Derived.MakeChecks
import Derived.Stop.Joined
namespace Go.Proofs.YtccahlhdifadfaaGreatDoor
open Go.RowKit
open _root_.Bool renaming false → Jx, true → T2, false_or → YE
open _root_.Go renaming World → B1, Value → Hi, TypeId → VQ, Calls → VX, maxLen → VZ, Ending → WA, Program → WQ, Addr → Xb, DataW → Yv, MemPlace → Zc
open _root_.Go.DataW renaming TrodAll → YC
open _root_.Go.IntWalk renaming i64_in → V8
open _root_.Go.Region renaming ready → Wn, wanted → Wo
open _root_.Go.RowKit renaming Below → VJ
open _root_.Go.RowKit.Below renaming refl → S2
open _root_.Go.Value renaming ownBlock → V4, int → Wi, oneCell' → Wy
open _root_.Go.World renaming ownsRow_nil → VY, block_lt_of_cell? → V0
open _root_.List renaming getElem?_eq_getElem → K0, mem_of_getElem? → O0, flatMap_cons → VI, mem_cons_self → VL, mem_cons_of_mem → VM, length_append → VP, getElem?_map → VT, take_of_length_le → VU, take_add_one → VV, getElem?_mapIdx → V5, mem_append_left → Wa, getElem?_append_left → Wc, getElem?_append_right → Wd, length_map → Wh, range → Wu, flatMap_append → Wx, length_filter_le → WD, length_cons → WH, nil_append → WL, append_nil → WM, take_length → WR, nodup_append → Xo, mem_append → Xs, ext_getElem? → XB, range_succ → Yz, mem_map_of_mem → YU
open _root_.Nat renaming le_refl → L1, lt_of_lt_of_le → VH, zero_le → VK, le_trans → VO, zero_add → Wg, add_sub_cancel → W1, zero_mul → Y6
open _root_.Option renaming some → Bs, none → B0, map_some → Wv
open _root_.Option.some renaming inj → Wj
set_option linter.all false
set_option maxRecDepth 100000
set_option maxHeartbeats 16000000
theorem qci {α:Type} (size:Nat) (e1:α->List Hi) (a:∀ x,(e1 x).length=size):∀ (l:List α) (j:Nat) (x:α),l[j]? = Bs x->∀ i,i<size->(l.flatMap e1)[j*size+i]? = (e1 x)[i]?
 | [],j,x,h,_,_=>by simp at h
 | y::l,0,x,h,i,hi=>by
  simp at h;subst h;rw[VI,Y6,Wg,Wc (by rw[a];exact hi)]
 | y::l,j+1,x,h,i,hi=>by
  have c:l[j]? = Bs x:=by simpa using h
  have b:=qci size e1 a l j x c i hi;have e:(j+1)*size+i=(j*size+i)+size:=by rw[Nat.succ_mul];omega
  rw[e,VI,Wd (by rw[a];omega),a,W1];exact b
theorem Rd.elem {α:Type} {size:Nat} {e1:α->List Hi} (b:∀ x,(e1 x).length=size) {w:B1} {B n k:Nat} {A:Option Xb} {l:List α} (p:l.length=n) (h:Rd w B size A n (l.flatMap e1)) (q:k<n) :
  ∃ g a x,A=Bs ⟨g,a,B0⟩/\g<B/\l[k]? = Bs x/\∀ i u,(e1 x)[i]? = Bs u->w.cell? ⟨g,a+k*size+i,B0⟩=Bs u:=by
 obtain⟨g,a,e,m,j⟩:=h.2 (by omega);have c:k<l.length:=by omega
 refine⟨g,a,l[k],e,m,K0 c,fun i u d=>?_⟩;have f:i<size:=by rw[<- b l[k]];exact(List.getElem?_eq_some_iff.1 d).1
 have:=j (k*size+i) u (by rw[qci size e1 b l k _ (K0 c) i f];exact d);rw[<- Nat.add_assoc] at this;exact this
structure CB where
 t:AI
 A:Option Xb
 n:Nat
 c:Nat
def Nk (o:C4):List Hi:=[.int .i64 o.ag,.string o.key,.string o.val,.bool o.found]
def Ty (x:CB):List Hi:=[.slice x.A x.n x.c,.int .i64 x.t.from_,.int .i64 x.t.a4]
def G2 (o:C4):Prop:=o.key.size<=VZ/\o.val.size<=VZ
def q87 (w:B1) (B:Nat) (A:Option Xb) (n:Nat) (l:List C4):Prop:=l.length=n/\Rd w B 4 A n (l.flatMap Nk)
def Lq (w:B1) (B:Nat) (A:Option Xb) (n:Nat) (l:List CB):Prop:=l.length=n/\Rd w B 3 A n (l.flatMap Ty)/\∀ x∈l,q87 w B x.A x.n x.t.ops/\∀ o∈x.t.ops,G2 o
def Am (l:List CB):List AI:=l.map (·.t)
section
variable {w w':B1} {B n:Nat} {A:Option Xb}
theorem q87.below {l:List C4} (h:q87 w B A n l) (a:VJ B w w'):q87 w' B A n l:=⟨h.1,h.2.below a⟩
theorem Lq.below {l:List CB} (h:Lq w B A n l) (b:VJ B w w'):Lq w' B A n l:=⟨h.1,h.2.1.below b,fun x a=>⟨(h.2.2 x a).1.below b,(h.2.2 x a).2⟩⟩
theorem q87.at_ {l:List C4} {k:Nat} (h:q87 w B A n l) (d:k<n):∃ g a o,A=Bs ⟨g,a,B0⟩/\g<B/\l[k]? = Bs o/\
  w.cell? ⟨g,a+k*4,B0⟩=Bs (.int .i64 o.ag)/\w.cell? ⟨g,a+k*4+1,B0⟩=Bs (.string o.key)/\w.cell? ⟨g,a+k*4+2,B0⟩=Bs (.string o.val)/\w.cell? ⟨g,a+k*4+3,B0⟩=Bs (.bool o.found):=by
 obtain⟨g,a,o,e,f,c,b⟩:=h.2.elem (e1:=Nk) (fun _=>rfl) h.1 d;exact⟨g,a,o,e,f,c,b 0 _ rfl,b 1 _ rfl,b 2 _ rfl,b 3 _ rfl⟩
theorem Lq.at_ {l:List CB} {k:Nat} (h:Lq w B A n l) (d:k<n):∃ g a x,A=Bs ⟨g,a,B0⟩/\g<B/\l[k]? = Bs x/\
  w.cell? ⟨g,a+k*3,B0⟩=Bs (.slice x.A x.n x.c)/\w.cell? ⟨g,a+k*3+1,B0⟩=Bs (.int .i64 x.t.from_)/\w.cell? ⟨g,a+k*3+2,B0⟩=Bs (.int .i64 x.t.a4)/\q87 w B x.A x.n x.t.ops/\∀ o∈x.t.ops,G2 o:=by
 obtain⟨g,a,x,e,f,c,b⟩:=h.2.1.elem (e1:=Ty) (fun _=>rfl) h.1 d;exact⟨g,a,x,e,f,c,b 0 _ rfl,b 1 _ rfl,b 2 _ rfl,h.2.2 x (O0 c)⟩
end
theorem QI {l:List CB} {k:Nat} {x:CB} (h:l[k]? = Bs x):De (Am l) k=x.t.a4:=by unfold De Am;rw[VT,h];rfl
theorem JZ {l:List CB} {k:Nat} {x:CB} (h:l[k]? = Bs x):BM (Am l) k=x.t.from_:=by unfold BM Am;rw[VT,h];rfl
theorem UA {l:List CB} {k:Nat} {x:CB} (h:l[k]? = Bs x):Bv (Am l) k=x.t.ops:=by unfold Bv Am;rw[VT,h];rfl
theorem qbt (l:List CB):(Am l).length=l.length:=by unfold Am;simp
def Ar (l:List Nat):List Hi:=l.map fun k:Nat=>Wi .i64 (k:Int)
def KE (b:Bool) (w:B1) (e:WA) (w':B1):Prop:=e=.returned (.bool b)/\VJ w.heap.size w w'
theorem q3r {B:Nat} {w w':B1} (h:VJ B w w') (n:Nat):VJ B w (w'.drewN n):=⟨h.os,h.tape,h.output,h.size,h.block⟩
theorem Ud {a b:ByteArray} (h:a.toList=b.toList):a=b:=by
 rw[ByteArray.toList_eq,ByteArray.toList_eq] at h;have:=Array.ext' h;cases a;cases b;simp_all
theorem str_ne {a b:ByteArray} (h:a≠b):(a.toList == b.toList)=Jx:=by
 simp only[beq_eq_false_iff_ne,ne_eq];exact fun e=>h (Ud e)
theorem qb5 {m a:Mp} {ops:List C4} {j:Nat} {o:C4} (h:DH m (ops.take j)=Bs a) (b:ops[j]? = Bs o):DH m (ops.take (j+1))=Fa a o:=by
 rw[VV,b,q1m,h];simp only[Option.toList,DH,Option.bind];rcases Fa a o with _|x <;> rfl
theorem LC {m a:Mp} {ops:List C4} {j:Nat} {o:C4} (h:DH m (ops.take j)=Bs a) (c:ops[j]? = Bs o) (d:Fa a o=B0):DH m ops=B0:=by
 have b:=qb5 h c;rw[d] at b;rw[<- List.take_append_drop (j+1) ops,q1m,b];rfl
theorem Jj:∀ (n:Nat) (l:List Nat),l.Nodup->(∀ x∈l,x<n)->l.length<=n
 | 0,[],_,_=>L1 _
 | 0,x::l,_,h=>absurd (h x (VL ..)) (by omega)
 | n+1,l,a,h=>by
  have d:(l.erase n).length<=n:=Jj n (l.erase n) (a.erase n) (fun x b=>by
   have:=(a.mem_erase_iff).1 b;have:=h x this.2;have:=((a.mem_erase_iff).1 b).1;omega)
  have c:l.length<=(l.erase n).length+1:=by
   rw[List.length_erase];split <;> omega
  omega
theorem qb8 {n:Nat} {order:List Nat} (d:order.Nodup) (c:∀ x∈order,x<n) {i:Nat} (f:i<n) (b:i ∉ order):order.length+1<=n:=
 Jj n (i::order) (List.nodup_cons.2 ⟨b,d⟩) (fun x a=>by
  rcases List.mem_cons.1 a with e|e
  ·omega
  ·exact c x e)
theorem qa0 {α:Type} (F:Nat->Option α) (j:Nat) (h:(Wu j).findSome? F=B0):(Wu (j+1)).findSome? F=F j:=by
 rw[Yz,List.findSome?_append,h];simp
theorem PB {α:Type} {F:Nat->Option α} {j n:Nat} {x:α} (c:j<n) (h:(Wu j).findSome? F=B0) (b:F j=Bs x):(Wu n).findSome? F=Bs x:=by
 have a:=qa0 F j h;rw[b] at a;obtain⟨k,rfl⟩:∃ k,n=(j+1)+k:=⟨n-(j+1),by omega⟩
 rw[List.range_add,List.findSome?_append,a];rfl
theorem qbb (l:List Nat) (j:Nat):Ar (l++[j])=Ar l++[.int .i64 (j:Int)]:=by unfold Ar;simp
theorem F5 (l:List Nat):(Ar l).length=l.length:=by unfold Ar;simp
theorem Tv:(Tryz.prog.info? 3).map (fun i=>(i.zero,i.size,i.bytes))=Bs (Bs (.int .i64 0),1,8):=by kernel_rfl
theorem qc1 {P:WQ} (t e:VQ) (i:TypeInfo) (z:Hi) (l:P.underlying t=Bs (.slice e)) (p:P.info? e=Bs i) (j:i.zero=Bs z)
  (b d:IntKind) (n c:Nat) (m:n<=c) (a:i.bytes*c<=281474976710656) (s:c<=9223372036854775807) (w:B1) :
  (Instr.makeSlice t (.int b (n:Int)) (.int d (c:Int))).run P w=.ok (.slice (Bs ⟨w.heap.size,0,B0⟩) n c) (w.alloc (.cells (madeCells z.cells (c*i.size)) e)):=by
 have q:(i.bytes:Int)*(c:Int)<=281474976710656:=by
  have h:((i.bytes*c:Nat):Int)<=281474976710656:=by omega
  rwa [Int.natCast_mul] at h
 have f:=run_make (P:=P) w t e i z l p j b d n c (by omega) (by omega) q (by omega);simp only[Int.toNat_natCast] at f;exact f
def PY (n:Nat) (o:List Nat):Array Hi:=((Wu n).map fun k:Nat=>Wi .i64 (Bn o k:Nat)).toArray
theorem q3i (n i:Nat) (o:List Nat):(PY n o)[i]? = if i<n then Bs (.int .i64 (Bn o i:Nat)) else B0:=by
 unfold PY;by_cases h:i<n <;> simp[h]
theorem IN (n:Nat) (o:List Nat):(PY n o).size=n:=by unfold PY;simp
theorem OQ {o:List Nat} {k x:Nat} (a:k ∉ o):Bn (o++[k]) x=if x=k then o.length+1 else Bn o x:=by
 unfold Bn;by_cases e:x=k
 ·subst e;rw[if_pos (by simp),if_pos rfl,q40 a]
 ·rw[if_neg e];by_cases h:x∈o
  ·rw[if_pos (by simp[h]),if_pos h,q33 h]
  ·rw[if_neg (by simp[h,e]),if_neg h]
theorem IP {n k:Nat} {o:List Nat} (a:k ∉ o):(PY n o).setIfInBounds k (.int .i64 ((o.length:Int)+1))=PY n (o++[k]):=by
 apply Array.ext_getElem?;intro i;rw[Array.getElem?_setIfInBounds,q3i,q3i,IN,OQ a];by_cases e:i=k
 ·subst e;rw[if_pos rfl,if_pos rfl];simp
 ·rw[if_neg (fun h=>e h.symm),if_neg e]
theorem FE {o:List Nat} {k:Nat} (h:k ∉ o):Bn o k=0:=by unfold Bn;rw[if_neg h]
theorem LV (n:Nat):madeCells (Wi .i64 0).cells n=PY n []:=by
 apply Array.ext_getElem?;intro i;rw[q3i];unfold madeCells;by_cases a:i<n <;> simp[Value.cells,a,Nat.mod_one,Bn]
theorem LU (n:Nat) (d:n<=1000) (w:B1):(Instr.makeSlice 26 (.int .i64 (n:Int)) (.int .i64 (n:Int))).run Tryz.prog w=.ok (.slice (Bs ⟨w.heap.size,0,B0⟩) n n) (w.alloc (.cells (PY n []) 3)):=by
 obtain⟨i,b,a,hs,c⟩:=info_parts Tv;have h:=qc1 26 3 i _ Tryz.underlying26 b a .i64 .i64 n n (L1 _) (by rw[c];omega) (by omega) w;rw[hs,Nat.mul_one,LV] at h;exact h
def Kv (order:List Nat) (n:Nat) (w:B1) (v:Hi) (wr:B1):Prop:=
 ∃ j:Nat,v=.int .i64 j/\j<=order.length/\(order.take j).Nodup/\(∀ k∈order.take j,k<n)/\Ab wr w.heap.size 3 (PY n (order.take j))/\VJ w.heap.size w wr
def SU (L:List AI) (order:List Nat) (i:Nat):Prop:=(0<=De L i->i∈order)/\∀ k,k<L.length->¬(0<=De L i/\De L i<BM L k/\0<Bn order k/\Bn order k<Bn order i)
def NM (L:List CB) (order:List Nat) (n:Nat) (w:B1) (v:Hi) (wr:B1):Prop:=
 ∃ j:Nat,v=.int .i64 j/\j<=n/\(∀ i,i<j->SU (Am L) order i)/\Ab wr w.heap.size 3 (PY n order)/\VJ w.heap.size w wr
def qcq (L:List CB) (order:List Nat) (n i a:Nat) (x:CB) (w:B1) (v:Hi) (wr:B1):Prop:=
 ∃ j:Nat,v=.int .i64 j/\j<=n/\(∀ k,k<j->¬(0<=De (Am L) i/\De (Am L) i<BM (Am L) k/\0<Bn order k/\Bn order k<Bn order i))/\Ab wr w.heap.size 3 (PY n order)/\
  Ab wr a 52 #[.slice x.A x.n x.c,.int .i64 x.t.from_,.int .i64 x.t.a4]/\VJ w.heap.size w wr
def qcr (L:List CB) (order:List Nat) (b:Nat) (w:B1) (v:Hi) (wr:B1):Prop:=
 ∃ (j a:Nat) (m:Mp),v=.int .i64 j/\j<=order.length/\DH Mp.empty ((order.take j).flatMap (Bv (Am L)))=Bs m/\a<=1000*j/\Bz wr b a m/\VJ w.heap.size w wr
def P5 (ops:List C4) (n c a:Nat) (b:Mp) (w:B1) (v:Hi) (wr:B1):Prop:=
 ∃ (j:Nat) (m:Mp),v=.int .i64 j/\j<=n/\DH b (ops.take j)=Bs m/\Bz wr c (a+j) m/\VJ w.heap.size w wr
theorem q6k {α:Type} (l:List α) (j:Nat) (x:α) (h:l[j]? = Bs x):l.take (j+1)=l.take j++[x]:=by rw[VV,h];rfl
theorem Ga {L:List AI} {order:List Nat} {j k:Nat} {m:Mp} (a:DH Mp.empty ((order.take j).flatMap (Bv L))=Bs m) (b:order[j]? = Bs k):DH Mp.empty ((order.take (j+1)).flatMap (Bv L))=DH m (Bv L k):=by
 rw[q6k order j k b,Wx,q1m,a];simp
theorem Pz {L:List AI} {order:List Nat} {j k:Nat} {m:Mp} (b:DH Mp.empty ((order.take j).flatMap (Bv L))=Bs m) (c:order[j]? = Bs k) (e:DH m (Bv L k)=B0):DH Mp.empty (order.flatMap (Bv L))=B0:=by
 have a:=Ga b c;rw[e] at a;have d:order.flatMap (Bv L)=(order.take (j+1)).flatMap (Bv L)++(order.drop (j+1)).flatMap (Bv L):=by
  rw[<- Wx,List.take_append_drop]
 rw[d,q1m,a];rfl
theorem P5.step {ops:List C4} {n h a b j:Nat} {f e d:Mp} {w c:B1} {o:C4} (i:DH f (ops.take j)=Bs e) (l:ops[j]? = Bs o) (t:Fa e o=Bs d) (q:j<n) (p:Bz c h b d) (m:b<=a+(j+1)) (s:VJ w.heap.size w c) :
  P5 ops n h a f w (.int .i64 ((j:Int)+1)) c:=⟨j+1,d,rfl,q,by rw[qb5 i l,t],p.mono m,s⟩
theorem Fy (L:List CB) (order:List Nat) (B n c no co:Nat) (A Ao:Option Xb) (w:B1) (h:Lq w B A n L) (hB:B<=w.heap.size) (hn:n<=100) (hs:∀ x∈L,x.n<=1000) (ho:Rd w B 1 Ao no (Ar order)) (bG:no<=100) :
  VX Tryz.prog 25 #[.slice A n c,.slice Ao no co] w (KE (decide (BP (Am L) order)) w):=by
 have b0:order.length=no:=by have:=ho.1;rw[F5] at this;omega
 have aE:(Am L).length=n:=by rw[qbt];exact h.1
 have bi:=fun W=>LU n (by omega) W
 have aw:=@run_makeMap Tryz.prog;have bo:=LH aw;clear aw;have a9:=LH b0;clear b0;have V:=LH aE;clear aE;have H:=LH h;clear h;have HO:=LH ho;clear ho;have HS:=LH hs;clear hs;go_enter Tryz.func25,Tryz.ntmps25;go_wp2_with fail;clear bi;go_loopw [24] (Kv order n w) (fun v _=>no-(intOf v).toNat)
 case atStart=>exact⟨0,rfl,VK _,by simp,by simp,Ab.new _ _ _,(S2 _ _).alloc (L1 _) _⟩
 case round=>
  obtain⟨j,rfl,hj,aj,ah,l,d⟩:=hrel;have ar:=LH aj;clear aj;have ae:=LH ah;clear ah;have bj:j<=no:=by rw[<- a9.o];exact hj
  clear hj;by_cases aZ:(j:Int)<no
  ·obtain⟨g,aP,u,hA,hg,D,hc⟩:=(HO.o.below (d.mono hB)).bQ (k:=j) (by omega);obtain⟨k,hk,rfl⟩:∃ k:Nat,order[j]? = Bs k/\u=.int .i64 (k:Int):=by
    unfold Ar at D;rw[VT] at D;rcases hh:order[j]? with _|k
    ·rw[hh] at D;simp at D
    ·rw[hh] at D;simp at D;exact⟨k,rfl,D.symm⟩
   subst hA;have av:=d.size;have bk:g<wr.heap.size:=by omega
   have bf:=l.lt;have aS:=q6k order j k hk;have az:=LH aS;clear aS D;have HK:=LH hk;clear hk;have d0:decide ((k:Int)<0)=Jx:=by simp
   by_cases b1:(k:Int)<n
   ·have d1:decide ((n:Int)<=k)=Jx:=by simp;omega
    have C:=(l.cell k).trans (by rw[q3i,if_pos (by omega)]);by_cases a0:k∈order.take j
    ·have d2:0<Bn (order.take j) k:=q8b.2 a0;generalize Bn (order.take j) k=q at C d2;have hf:decide (BP (Am L) order)=Jx:=by
      simp only[decide_eq_false_iff_not];intro hf;have:=hf.1;have h2:=this.sublist (List.take_sublist (j+1) order);rw[az.o,Xo] at h2;exact h2.2.2 k a0 k (by simp) rfl
     have HF:=LH hf;clear hf a0;have ac:=LH l;clear l;go_wp2_with fail;go_ret;rw[HF.o];exact⟨rfl,d⟩
    ·rw[FE a0] at C;simp only[Int.natCast_zero] at C;have bN:=l.frozen k;have ai:=l.aC k (.int .i64 ((j:Int)+1));have b3:(order.take j).length=j:=by rw[List.length_take,a9.o];omega
     have a7:=IP (n:=n) a0;rw[b3] at a7;rw[a7,<- az.o] at ai;have hrel:Kv order n w (.int .i64 ((j:Int)+1)) (wr.setCell ⟨w.heap.size,k,B0⟩ (.int .i64 ((j:Int)+1))):=by
      refine⟨j+1,rfl,by rw[a9.o];omega,?_,?_,ai,d.setCell (p:=⟨w.heap.size,k,B0⟩) (L1 _) _⟩
      ·rw[az.o,Xo];exact⟨ar.o,by simp,fun a ha b hb=>by rw[List.mem_singleton.1 hb];exact fun e=>a0 (e▸ha)⟩
      ·rw[az.o];intro x D;rcases List.mem_append.1 D with D|D
       ·exact ae.o x D
       ·rw[List.mem_singleton.1 D];omega
     have J:=LH hrel;clear hrel ai a7 b3 a0;have ac:=LH l;clear l;go_wp2_with fail;go_roundw
     ·exact J.o
     ·simp[intOf];omega
   ·have d1:decide ((n:Int)<=k)=T2:=by simp;omega
    have hf:decide (BP (Am L) order)=Jx:=by
     simp only[decide_eq_false_iff_not];intro hf;have:=hf.2.1 k (O0 HK.o);rw[V.o] at this;omega
    have HF:=LH hf;clear hf;have ac:=LH l;clear l;go_wp2_with fail;go_ret;rw[HF.o];exact⟨rfl,d⟩
  ·have ax:j=order.length:=by rw[a9.o];omega
   rw[ax,WR] at l;have aj:order.Nodup:=by have:=ar.o;rw[ax,WR] at this;exact this
   have ah:∀ k∈order,k<n:=by have:=ae.o;rw[ax,WR] at this;exact this
   clear ax ar ae;have ar:=LH aj;clear aj;have ae:=LH ah;clear ah;have ac:=LH l;clear l;have bd:=LH d;clear d;go_wp2_with fail;go_loopw [52] (NM L order n w) (fun v _=>n-(intOf v).toNat)
   case atStart=>exact⟨0,rfl,VK _,fun i hi=>absurd hi (by omega),ac.o,bd.o⟩
   case round=>
    clear ac bd;obtain⟨i,rfl,hi,aT,l,d⟩:=hrel;have aJ:=LH aT;clear aT;by_cases aZ:(i:Int)<n
    ·obtain⟨g,aP,x,hA,hg,D,k0,k1,k2,_⟩:=(H.o.below (d.mono hB)).at_ (k:=i) (by omega);have aR:=QI D;have av:=d.size;have bk:g<wr.heap.size:=by omega
     have bK:g<w.heap.size:=by omega
     have bf:=l.lt;have C:=(l.cell i).trans (by rw[q3i,if_pos (by omega)]);have ap:=LH aR;clear aR;have HX:=LH D;clear D;have bq:=LH hA;rw[hA];clear hA;have aQ:∀ o,Ab (wr.alloc o) w.heap.size 3 (PY n order):=fun o=>l.alloc o
     have b8:=LH aQ;clear aQ;have ac:=LH l;clear l;have z:(0<=x.t.a4->i∈order)->RowKit.Hid (0<=De (Am L) i->i∈order):=fun h h0=>h (by rw[ap.o] at h0;exact h0)
     by_cases E:0<=x.t.a4/\i ∉ order
     ·have d1:decide (0<=x.t.a4)=T2:=by simpa using E.1
      rw[FE E.2] at C;simp only[Int.natCast_zero] at C;have hf:decide (BP (Am L) order)=Jx:=by
       simp only[decide_eq_false_iff_not];intro hf;exact E.2 ((hf.2.2.1 i (by rw[V.o];omega)).1 (by rw[ap.o];exact E.1))
      have HF:=LH hf;clear hf E z;go_wp2_with fail;go_ret;rw[HF.o];exact⟨rfl,d.alloc av _⟩
     ·have a0:0<=De (Am L) i->i∈order:=fun h0=>by
       rw[ap.o] at h0;rcases Decidable.em (i∈order) with h|h
       ·exact h
       ·exact absurd ⟨h0,h⟩ E
      have bc:=LH a0;clear a0 z;have O:qcq L order n i wr.heap.size x w (.int .i64 0) (wr.alloc (.cells #[.slice x.A x.n x.c,.int .i64 x.t.from_,.int .i64 x.t.a4] 52)):=
       ⟨0,rfl,VK _,fun k hk=>absurd hk (by omega),b8.o _,Ab.new _ _ _,d.alloc av _⟩
      have a6:=LH O;clear O E;go_upto_region 12 with (fail)
      go_cut [66] (fun s66 wx=>s66=.bool Jx/\wr.alloc (.cells #[.slice x.A x.n x.c,.int .i64 x.t.from_,.int .i64 x.t.a4] 52)=wx)
      case first=>
       by_cases h0:0<=x.t.a4
       ·have d1:decide (0<=x.t.a4)=T2:=by simpa using h0
        have aV:=q8b.2 (bc.o (by rw[ap.o];exact h0));generalize Bn order i=q at C aV;have d2:((q:Int) == 0)=Jx:=by simp;omega
        go_wp2_with fail;go_meet;exact⟨rfl,rfl⟩
       ·have d1:decide (0<=x.t.a4)=Jx:=by simpa using h0
        go_wp2_with fail;go_meet;exact⟨rfl,rfl⟩
      case rest=>
       obtain⟨rfl,rfl⟩:=hcut;clear k0 k1 k2 C;go_wp2_with fail;obtain⟨X,rfl⟩:∃ X:B1,X=wr:=⟨_,rfl⟩
       go_loopw [69] (qcq L order n i X.heap.size x w) (fun v _=>n-(intOf v).toNat)
       case atStart=>exact a6.o
       case round=>
        clear a6 b8 ac;obtain⟨k,rfl,hk,aD,K,ad,a5⟩:=hrel;have bb:=LH aD;clear aD;by_cases bw:(k:Int)<n
        ·obtain⟨g',bu,y,ay,bM,hy,q0,q1,q2,_⟩:=(H.o.below (a5.mono hB)).at_ (k:=k) (by omega);rw[bq.o] at ay;injection ay with ay;injection ay with e1 e2;subst e1 e2;have a4:=JZ hy;have bp:=LH a4;clear a4 hy;have aB:=a5.size;have bC:g<wr.heap.size:=by omega
         have bv:=K.lt;have bD:=ad.lt;have bm:=ad.cell 2;simp only[List.getElem?_toArray,List.getElem?_cons_succ,List.getElem?_cons_zero] at bm;have bl:=(K.cell i).trans (by rw[q3i,if_pos (by omega)]);have b5:=(K.cell k).trans (by rw[q3i,if_pos (by omega)]);have U:¬(0<=De (Am L) i/\De (Am L) i<BM (Am L) k/\0<Bn order k/\Bn order k<Bn order i)->∀ o nq,qcq L order n i X.heap.size x w (.int .i64 ((k:Int)+1)) ((wr.alloc o).drewN nq):=fun bh o nq=>
          ⟨k+1,rfl,by omega,fun k' b2=>by
           by_cases e:k'=k
           ·rw[e];exact bh
           ·exact bb.o k' (by omega),(K.alloc o).drewN nq,(ad.alloc o).drewN nq,q3r (a5.alloc aB o) nq⟩
         have N:(0<=De (Am L) i/\De (Am L) i<BM (Am L) k/\0<Bn order k/\Bn order k<Bn order i)->decide (BP (Am L) order)=Jx:=fun h=>by
          simp only[decide_eq_false_iff_not];intro hf;exact(hf.2.2.1 i (by rw[V.o];omega)).2 k (by rw[V.o];omega) h
         rw[ap.o,bp.o] at U N;have bE:=LH K;clear K;have bO:=LH ad;clear ad;generalize Bn order i=pi at bl U N;generalize Bn order k=pk at b5 U N;have a1:=LH U;clear U;have aK:=LH N;clear N;by_cases c1:0<=x.t.a4
         ·have d1:decide (0<=x.t.a4)=T2:=by simpa using c1
          by_cases c2:x.t.a4<y.t.from_
          ·have d2:decide (x.t.a4<y.t.from_)=T2:=by simpa using c2
           rcases Nat.eq_zero_or_pos pk with c3|c3
           ·subst c3;simp only[Int.natCast_zero] at b5;have M:=a1.o (by omega);have aa:=LH M;clear M;go_wp2_with fail;go_quiet (fail);go_wp2_with fail;go_roundw
            ·exact aa.o _ _
            ·simp[intOf];omega
           ·by_cases c4:pk<pi
            ·have O:=aK.o ⟨c1,c2,c3,c4⟩;have b9:=LH O;clear O;go_wp2_with fail;go_quiet (fail);go_wp2_with fail;go_ret;rw[b9.o];exact⟨rfl,q3r (a5.alloc aB _) _⟩
            ·have d4:decide (pk<pi)=Jx:=by simpa using c4
             have M:=a1.o (by omega);have aa:=LH M;clear M;go_wp2_with fail;go_quiet (fail);go_wp2_with fail;go_roundw
             ·exact aa.o _ _
             ·simp[intOf];omega
          ·have d2:decide (x.t.a4<y.t.from_)=Jx:=by simpa using c2
           have M:=a1.o (by omega);have aa:=LH M;clear M;go_wp2_with fail;go_quiet (fail);go_wp2_with fail;go_roundw
           ·exact aa.o _ _
           ·simp[intOf];omega
         ·have d1:decide (0<=x.t.a4)=Jx:=by simpa using c1
          have M:=a1.o (by omega);have aa:=LH M;clear M;go_wp2_with fail;go_quiet (fail);go_wp2_with fail;go_roundw
          ·exact aa.o _ _
          ·simp[intOf];omega
        ·have R:NM L order n w (.int .i64 ((i:Int)+1)) wr:=
          ⟨i+1,rfl,by omega,fun i' bJ=>by
           by_cases e:i'=i
           ·rw[e];exact⟨bc.o,fun k' b2=>bb.o k' (by rw[V.o] at b2;omega)⟩
           ·exact aJ.o i' (by omega),K,a5⟩
         have J:=LH R;clear R K ad;go_wp2_with fail;go_roundw
         ·exact J.o
         ·simp[intOf];omega
    ·have bA:i=n:=by omega
     have aF:∀ i,i<n->SU (Am L) order i:=fun k hk=>aJ.o k (by omega)
     have be:=LH aF;clear aF aJ;have aw:=bo.o;go_wp2_with fail;clear aw;obtain⟨X,rfl⟩:∃ X:B1,X=wr:=⟨_,rfl⟩
     have al:w.heap.size<=X.heap.size:=d.size;have O:qcr L order X.heap.size w (.int .i64 0) (X.alloc (.map #[] 0)):=⟨0,0,Mp.empty,rfl,VK _,rfl,VK _,Bz.made X,d.alloc al _⟩
     have a6:=LH O;clear O l d;go_loopw [107] (qcr L order X.heap.size w) (fun v _=>no-(intOf v).toNat)
     case atStart=>exact a6.o
     case round=>
      clear a6;obtain⟨j,nm,m,rfl,hj,aW,bH,I,d⟩:=hrel;have aL:=LH aW;clear aW;have bj:j<=no:=by rw[<- a9.o];exact hj
      clear hj;by_cases aZ:(j:Int)<no
      ·obtain⟨g,aP,u,hA,hg,D,hc⟩:=(HO.o.below (d.mono hB)).bQ (k:=j) (by omega);obtain⟨k,hk,rfl⟩:∃ k:Nat,order[j]? = Bs k/\u=.int .i64 (k:Int):=by
        unfold Ar at D;rw[VT] at D;rcases hh:order[j]? with _|k
        ·rw[hh] at D;simp at D
        ·rw[hh] at D;simp at D;exact⟨k,rfl,D.symm⟩
       clear D;have b1:=ae.o k (O0 hk);obtain⟨g2,bt,x,aI,M,D,k0,k1,k2,bg,am⟩:=(H.o.below (d.mono hB)).at_ (k:=k) b1;have aC:=UA D;have bF:=HS.o x (O0 D);have bz:(k:Int)<n:=by omega
       have av:=d.size;have bn:=LH (O0 D);have aG:=LH aC;clear aC D;have HK:=LH hk;clear hk;rw[hA,aI];have HA:=LH hA;clear hA;have bP:=LH aI;clear aI;have O:P5 x.t.ops x.n X.heap.size nm m w (.int .i64 0) wr:=⟨0,m,rfl,VK _,rfl,I,d⟩
       have a6:=LH O;clear O I;have ba:=LH (H.o.2.2 x bn.o).1;clear bg;have aN:=LH am;clear am;go_wp2_with fail;obtain⟨w7,rfl⟩:∃ w7:B1,w7=wr:=⟨_,rfl⟩
       clear k0 k1 k2 hc d;go_loopw [117] (P5 x.t.ops x.n X.heap.size nm m w) (fun v _=>x.n-(intOf v).toNat)
       case atStart=>exact a6.o
       case round=>
        clear a6;obtain⟨jj,Z,rfl,bI,aX,I,d⟩:=hrel;have af:=LH aX;clear aX;by_cases bx:(jj:Int)<x.n
        ·obtain⟨g3,br,o,b7,bL,ho,q0,q1,q2,q3⟩:=(ba.o.below (d.mono hB)).at_ (k:=jj) (by omega);rw[b7];clear b7;have aH:=aN.o o (O0 ho);have aU:=d.size;have bB:g3<wr.heap.size:=by omega
         obtain⟨Y,s,t,f⟩:=o;simp only at q0 q1 q2 q3;have a8:=((I.alloc (.cells #[.int .i64 Y,.string s,.string t,.bool f] 56)).look s aH.1)
         have aq:=LH ho;clear ho;have aM:=LH aH;clear aH;have aY:∀ o,Bz (wr.alloc o) X.heap.size (nm+jj) Z:=fun o=>I.alloc o
         have b6:∀ o,VJ w.heap.size w (wr.alloc o):=fun o=>d.alloc aU o
         have aA:=LH aY;clear aY I;have ab:=LH b6;clear b6 d;have an:Fa Z ⟨Y,s,t,f⟩=B0->decide (BP (Am L) order)=Jx:=fun h0=>by
          simp only[decide_eq_false_iff_not];intro hf;have h1:=hf.2.2.2;rw[Pz aL.o HK.o (by rw[aG.o];exact LC af.o aq.o h0)] at h1;cases h1
         have aO:=LH an;clear an;generalize hq:Z s=q at a8;have HQ:=LH hq;clear hq;by_cases h1:Y=1
         ·have d1:(Y == 1)=T2:=by simpa using h1
          have S:Fa Z ⟨Y,s,t,f⟩=if Co Z ⟨Y,s,t,f⟩ then Bs Z else B0:=by unfold Fa;rw[if_pos h1]
          have ag:=LH S;clear S h1;have b4:Co Z ⟨Y,s,t,f⟩↔(q.isSome=f/\∀ v,q=Bs v->v=t):=by unfold Co;rw[<- HQ.o]
          have a1:=LH b4;clear b4;have z:Co Z ⟨Y,s,t,f⟩->∀ o,P5 x.t.ops x.n X.heap.size nm m w (.int .i64 ((jj:Int)+1)) (wr.alloc o):=fun hg o=>
           P5.step af.o aq.o (by rw[ag.o,if_pos hg]) (by omega) (aA.o o) (by omega) (ab.o o)
          have a3:=LH z;clear z;have E:¬Co Z ⟨Y,s,t,f⟩->decide (BP (Am L) order)=Jx:=fun hg=>aO.o (by rw[ag.o,if_neg hg])
          have au:=LH E;clear E;rcases q with _|v
          ·cases f
           ·have G:=a1.o.2 ⟨rfl,fun v h=>by cases h⟩;have a2:=LH G;clear G;go_wp2_with fail;go_roundw
            ·exact a3.o a2.o _
            ·simp[intOf];omega
           ·have G:¬Co Z ⟨Y,s,t,T2⟩:=fun h=>by have:=(a1.o.1 h).1;simp at this
            have a2:=LH G;clear G;go_wp2_with fail;go_ret;rw[au.o a2.o];exact⟨rfl,ab.o _⟩
          ·cases f
           ·have G:¬Co Z ⟨Y,s,t,Jx⟩:=fun h=>by have:=(a1.o.1 h).1;simp at this
            have a2:=LH G;clear G;go_wp2_with fail;go_ret;rw[au.o a2.o];exact⟨rfl,ab.o _⟩
           ·by_cases hv:v=t
            ·subst hv;have G:=a1.o.2 ⟨rfl,fun u h=>by injection h with h;exact h.symm⟩;have a2:=LH G;clear G;go_wp2_with fail;go_roundw
             ·exact a3.o a2.o _
             ·simp[intOf];omega
            ·have G:¬Co Z ⟨Y,s,t,T2⟩:=fun h=>hv ((a1.o.1 h).2 v rfl)
             have a2:=LH G;clear G;have dv:=str_ne hv;have HV:=LH hv;clear hv;go_wp2_with fail;go_ret;rw[au.o a2.o];exact⟨rfl,ab.o _⟩
         ·have d1:(Y == 1)=Jx:=by simpa using h1
          by_cases h2:Y=2
          ·have d2:(Y == 2)=T2:=by simpa using h2
           have S:Fa Z ⟨Y,s,t,f⟩=Bs (Z.set s (Bs t)):=by unfold Fa;rw[if_neg h1,if_pos h2]
           have ag:=LH S;clear S h1 h2;go_wp2_with (at_mapUpdate;refine stop ?_)
           clear a8;refine Cn ?_;refine Gx rfl (.tmp 147) (.tmp 149) (.tmp 151) rfl X.heap.size (nm+jj) Z rfl (aA.o _) (by unfold VZ;omega) s t rfl rfl aM.o.1 aM.o.2 ?_;intro w1 ak a4;have ao:VJ w.heap.size w w1:=(ab.o _).trans (a4.below (fun i e=>e▸al) (by simp;omega));have hrel:P5 x.t.ops x.n X.heap.size nm m w (.int .i64 ((jj:Int)+1)) w1:=P5.step af.o aq.o ag.o (by omega) ak (by omega) ao;have J:=LH hrel;clear hrel ak a4 ao;go_wp2_with fail;go_roundw
           ·exact J.o
           ·simp[intOf];omega
          ·have d2:(Y == 2)=Jx:=by simpa using h2
           by_cases h3:Y=3
           ·have d3:(Y == 3)=T2:=by simpa using h3
            have S:Fa Z ⟨Y,s,t,f⟩=Bs (Z.set s B0):=by unfold Fa;rw[if_neg h1,if_neg h2,if_pos h3]
            have ag:=LH S;clear S h1 h2 h3;go_wp2_with (at_delete;refine stop ?_)
            clear a8;refine Cn ?_;refine Gy rfl (.tmp 154) (.tmp 156) rfl X.heap.size (nm+jj) Z rfl (aA.o _) s rfl aM.o.1 ?_;intro w1 ak a4;have ao:VJ w.heap.size w w1:=(ab.o _).trans (a4.below (fun i e=>e▸al) (by simp;omega));have hrel:P5 x.t.ops x.n X.heap.size nm m w (.int .i64 ((jj:Int)+1)) w1:=P5.step af.o aq.o ag.o (by omega) ak (by omega) ao;have J:=LH hrel;clear hrel ak a4 ao;go_wp2_with fail;go_roundw
            ·exact J.o
            ·simp[intOf];omega
           ·have d3:(Y == 3)=Jx:=by simpa using h3
            have S:Fa Z ⟨Y,s,t,f⟩=Bs Z:=by unfold Fa;rw[if_neg h1,if_neg h2,if_neg h3]
            have z:∀ o,P5 x.t.ops x.n X.heap.size nm m w (.int .i64 ((jj:Int)+1)) (wr.alloc o):=fun o=>
             P5.step af.o aq.o S (by omega) (aA.o o) (by omega) (ab.o o)
            have a3:=LH z;clear z S h1 h2 h3;go_wp2_with fail;go_roundw
            ·exact a3.o _
            ·simp[intOf];omega
        ·have R:qcr L order X.heap.size w (.int .i64 ((j:Int)+1)) wr:=by
          refine⟨j+1,nm+jj,Z,rfl,by rw[a9.o];omega,?_,by omega,I,d⟩;rw[Ga aL.o HK.o,aG.o,<- af.o,VU (by have:=ba.o.1;omega)]
         have J:=LH R;clear R I;go_wp2_with fail;go_roundw
         ·exact J.o
         ·simp[intOf];omega
      ·have hf:decide (BP (Am L) order)=T2:=by
        simp only[decide_eq_true_eq];refine⟨ar.o,by rw[V.o];exact ae.o,fun i hi=>be.o i (by rw[V.o] at hi;exact hi),?_⟩;have:=aL.o;rw[VU (by rw[a9.o];omega)] at this;rw[this];rfl
       have HF:=LH hf;clear hf I;go_wp2_with fail;go_ret;rw[HF.o];exact⟨rfl,d⟩
theorem Hb {w:B1} {B n k:Nat} {A:Option Xb} {l:List Nat} (h:Rd w B 1 A n (Ar l)) (d:k<n):∃ g a x,A=Bs ⟨g,a,B0⟩/\g<B/\l[k]? = Bs x/\w.cell? ⟨g,a+k,B0⟩=Bs (.int .i64 (x:Nat)):=by
 obtain⟨g,a,u,i,e,b,f⟩:=h.bQ d;unfold Ar at b;rw[VT] at b;rcases c:l[k]? with _|x
 ·rw[c] at b;simp at b
 ·rw[c] at b;simp at b;subst b;exact⟨g,a,x,i,e,rfl,f⟩
theorem R5 {w:B1} {B n:Nat} {A:Option Xb} {l:List Nat} (h:Rd w B 1 A n (Ar l)):l.length=n:=by have:=h.1;rw[F5] at this;omega
def Cl (L:List CB) (order:List Nat) (i:Nat):List CB:=L.mapIdx fun q x=>if q<i/\q ∉ order/\0<=x.t.a4 then⟨⟨x.t.ops,x.t.from_,-1⟩,x.A,x.n,x.c⟩ else x
theorem Kh (L:List CB) (order:List Nat) (i:Nat):(Cl L order i).length=L.length:=by unfold Cl;simp
theorem PI (L:List CB) (order:List Nat):Cl L order 0=L:=by
 unfold Cl;apply XB;intro q;rw[V5];rcases L[q]? with _|x
 ·rfl
 ·simp
theorem Vf {L:List CB} {order:List Nat} {i q:Nat} {x:CB} (h:L[q]? = Bs x) (a:i<=q):(Cl L order i)[q]? = Bs x:=by
 unfold Cl;rw[V5,h];simp;omega
theorem PL {L:List CB} {order:List Nat} {i q:Nat} {x:CB} (h:L[q]? = Bs x):∃ y,(Cl L order i)[q]? = Bs y/\y.t.from_=x.t.from_:=by
 unfold Cl;rw[V5,h];refine⟨_,rfl,?_⟩;simp only;split <;> rfl
theorem PK {L:List CB} {order:List Nat} {i:Nat} {x:CB} (h:L[i]? = Bs x) (b:¬(i ∉ order/\0<=x.t.a4)):Cl L order (i+1)=Cl L order i:=by
 unfold Cl;apply XB;intro q;rw[V5,V5];rcases a:L[q]? with _|y
 ·rfl
 ·simp only[Wv];by_cases e:q=i
  ·subst e;rw[h] at a;obtain rfl:=Wj a;rw[if_neg (fun⟨_,c⟩=>b c),if_neg (fun⟨d,_⟩=>absurd d (by omega))]
  ·have:q<i+1↔q<i:=by omega
   simp only[this]
theorem PJ {L:List CB} {order:List Nat} {i:Nat} {x:CB} (h:L[i]? = Bs x) (a:i ∉ order) (c:0<=x.t.a4):Cl L order (i+1)=(Cl L order i).set i ⟨⟨x.t.ops,x.t.from_,-1⟩,x.A,x.n,x.c⟩:=by
 have b:i<L.length:=(List.getElem?_eq_some_iff.1 h).1;apply XB;intro q;rw[List.getElem?_set];by_cases e:i=q
 ·subst e;rw[if_pos rfl,if_pos (by rw[Kh];exact b)];unfold Cl;rw[V5,h];simp[a,c]
 ·rw[if_neg e];unfold Cl;rw[V5,V5];rcases L[q]? with _|y
  ·rfl
  ·have:q<i+1↔q<i:=by omega
   simp only[Wv,this]
theorem Ve (L:List CB) (order:List Nat) (n:Nat) (d:L.length<=n):Am (Cl L order n)=DN (Am L) order:=by
 unfold Am Cl DN;apply XB;intro q;rw[VT,V5,V5,VT];rcases b:L[q]? with _|y
 ·rfl
 ·have e:q<L.length:=(List.getElem?_eq_some_iff.1 b).1;simp only[Wv];by_cases a:q ∉ order/\0<=y.t.a4
  ·rw[if_pos ⟨by omega,a⟩,if_pos a]
  ·rw[if_neg (fun⟨_,c⟩=>a c),if_neg a]
theorem Kg {L:List CB} {order:List Nat} {i:Nat} {y:CB} (h:y∈Cl L order i):∃ x∈L,y.A=x.A/\y.n=x.n/\y.c=x.c/\y.t.ops=x.t.ops:=by
 obtain⟨q,a⟩:=List.mem_iff_getElem?.1 h;unfold Cl at a;rw[V5] at a;rcases b:L[q]? with _|x
 ·rw[b] at a;cases a
 ·rw[b] at a;simp only[Wv,Option.some.injEq] at a;refine⟨x,O0 b,?_⟩;rw[<- a];split <;> exact⟨rfl,rfl,rfl,rfl⟩
theorem Q9:(Tryz.prog.info? 52).map (fun i=>(i.zero,i.size,i.bytes))=Bs (Bs (.agg #[.slice B0 0 0,.int .i64 0,.int .i64 0]),3,40):=by kernel_rfl
theorem RA {w:B1} {base e size n g:Nat} {v:Hi} {xs:List Hi} (h:w.ownsRow base e size v n xs) (a:v.ownBlock=Bs g):∃ c,v=.slice (Bs ⟨g,0,B0⟩) n c:=by
 rcases h.2 with ⟨rfl,_⟩|⟨b,cap,d,rfl,_⟩
 ·simp[V4] at a
 ·have:b=g:=by simpa [V4] using a
  subst this;exact⟨_,rfl⟩
theorem J1 {α:Type} (size:Nat) (e1:α->List Hi) (a:∀ x,(e1 x).length=size) (i:Nat) (u:Hi) (b:i<size):∀ (X:List α) (j:Nat) (x y:α),X[j]? = Bs x->(e1 x).set i u=e1 y->(X.flatMap e1).set (j*size+i) u=(X.set j y).flatMap e1
 | [],j,x,y,h,_=>by simp at h
 | z::X,0,x,y,h,hy=>by
  simp at h;subst h;rw[VI,Y6,Wg,List.set_append_left _ _ (by rw[a];exact b),hy];simp
 | z::X,j+1,x,y,h,hy=>by
  have d:X[j]? = Bs x:=by simpa using h
  have c:=J1 size e1 a i u b X j x y d hy;have e:(j+1)*size+i=(e1 z).length+(j*size+i):=by rw[a,Nat.succ_mul];omega
  rw[VI,e,List.set_append_right _ _ (by omega)];have f:(e1 z).length+(j*size+i)-(e1 z).length=j*size+i:=by omega
  rw[f,c];simp
theorem Uz {w:B1} {base e size n c g:Nat} {xs:List Hi} (h:w.ownsRow base e size (.slice (Bs ⟨g,0,B0⟩) n c) n xs) (i:Nat) (u:Hi):(w.setCell ⟨g,i,B0⟩ u).ownsRow base e size (.slice (Bs ⟨g,0,B0⟩) n c) n (xs.set i u):=(h.stored i u).1
theorem TV (l:List CB):∀ u∈l.flatMap Ty,u.oneCell'=T2:=by
 intro u b;obtain⟨x,_,a⟩:=List.mem_flatMap.1 b;simp[Ty] at a;rcases a with rfl|rfl|rfl <;> rfl
structure StIR (w wr:B1) (L:List CB) (order:List Nat) (n cx gx i:Nat):Prop where
 row:wr.ownsRow w.heap.size 52 3 (.slice (Bs ⟨gx,0,B0⟩) n cx) n ((Cl L order i).flatMap Ty)
 ok:∀ q,q<i->q ∉ order->0<=De (Am L) q->∀ k∈order,¬De (Am L) q<BM (Am L) k
 below:VJ w.heap.size w wr
def SW (w:B1) (L:List CB) (order:List Nat) (n b a:Nat) (v:Hi) (wr:B1):Prop:=∃ i:Nat,v=.int .i64 i/\i<=n/\StIR w wr L order n b a i
def InOrd (order:List Nat) (i c:Nat) (w:B1) (b a:Hi) (wr:B1):Prop:=∃ q:Nat,a=.int .i64 q/\q<=c/\b=.bool (decide (i∈order.take q))/\wr=w
def StInR (L:List CB) (order:List Nat) (i a:Nat) (w:B1) (v:Hi) (wr:B1):Prop:=
 ∃ q m:Nat,v=.int .i64 q/\q<=a/\(∀ k∈order.take q,¬De (Am L) i<BM (Am L) k)/\wr=w.drewN m
theorem q6u {l:List Nat} {q k i:Nat} (h:l[q]? = Bs k):decide (i∈l.take (q+1))=(decide (i∈l.take q) || decide (k=i)):=by
 rw[q6k l q k h,Bool.eq_iff_iff];simp only[Xs,List.mem_singleton,decide_eq_true_eq,Bool.or_eq_true];exact⟨fun h=>h.imp id Eq.symm,fun h=>h.imp id Eq.symm⟩
theorem Lf (L:List CB) (order:List Nat) (B n c E co:Nat) (A Ao:Option Xb) (w:B1) (h:Lq w B A n L) (hB:B<=w.heap.size) (hn:n<=100) (hs:∀ x∈L,x.n<=1000) (ho:Rd w B 1 Ao E (Ar order)) (aw:E<=100) (ah:∀ k∈order,k<n) :
  VX Tryz.prog 26 #[.slice A n c,.slice Ao E co] w (KE (decide (Ii (Am L) order)) w):=by
 have af:=R5 ho;have O:(Am L).length=n:=by rw[qbt];exact h.1
 have ar:=LH af;clear af;have V:=LH O;clear O;have H:=LH h;clear h;have HO:=LH ho;clear ho;have HS:=LH hs;clear hs;have aE:=LH ah;clear ah;go_enter Tryz.func26,Tryz.ntmps26;go_wp2_with (at_builtin;refine stop ?_)
 refine Cn ?_;have a1:VJ w.heap.size w (w.alloc (.cells #[] 52)):=(S2 _ _).alloc (L1 _) _;have ab:(w.alloc (.cells #[] 52)).ownsRow w.heap.size 52 3 (.slice (Bs ⟨w.heap.size,0,B0⟩) 0 0) 0 []:=World.ownsRow_lit (base:=w.heap.size) (e:=52) (size:=3) w #[] 0 (L1 _) (by unfold VZ;omega) rfl;have a8:=H.o.2.1.below (a1.mono hB);refine q1e _ rfl (.tmp 12) (.tmp 13) 29 rfl w.heap.size 52 _ 3 40 Tryz.underlying29 Q9 rfl (by decide) _ 0 [] rfl ab B A n c (L.flatMap Ty) rfl a8.reads (TV L) (by unfold VZ;omega) (by omega) (by simp) ?_;intro v5 w2 Z a0;have am:VJ w.heap.size w w2:=a1.trans (a0.below (fun g hg=>by have e:w.heap.size=g:=Wj hg;omega) (by simp));obtain⟨b,ai⟩:∃ b,v5.ownBlock=Bs b:=by
  rcases a0.2 with e|⟨g,e,_⟩
  ·exact⟨_,e⟩
  ·exact⟨g,e⟩
 obtain⟨cx,rfl⟩:=RA Z ai;have I:StIR w w2 L order n cx b 0:=⟨by rw[PI];simpa using Z,fun q Y=>absurd Y (by omega),am⟩
 have an:=LH I;clear I ab a8 Z a0 a1 ai am;simp only[Wg];go_wp2_with fail;go_loopw [17] (SW w L order n cx b) (fun v _=>n-(intOf v).toNat)
 case atStart=>exact⟨0,rfl,VK _,an.o⟩
 case round=>
  clear an;obtain⟨i,rfl,hi,hI⟩:=hrel;obtain⟨G,rfl⟩:∃ G:B1,G=wr:=⟨_,rfl⟩
  by_cases aM:(i:Int)<n
  ·obtain⟨x,M⟩:∃ x,L[i]? = Bs x:=⟨_,K0 (by have:=H.o.1;omega)⟩
   have a5:=QI M;have a2:=Vf (order:=order) M (L1 i);have u:=qci 3 Ty (fun _=>rfl) _ i x a2;have aO:G.cell? ⟨b,i*3+2,B0⟩=Bs (.int .i64 x.t.a4):=(hI.row.cellAt (i*3+2) (by omega)).trans (u 2 (by omega));have aP:b<G.heap.size:=(hI.row.lt b rfl).2;have N:=HO.o.below (hI.below.mono hB);have U:=LH N;clear N u;have HX:=LH M;clear M;have aC:=LH a2;clear a2;have K:=LH a5;clear a5;have HI:=LH hI;clear hI;have aR:=HI.o.below.size;go_wp2_with fail;go_loopw [7,22] (InOrd order i E G) (fun _ v _=>E-(intOf v).toNat)
   case atStart=>exact⟨0,rfl,VK _,by simp,rfl⟩
   case round=>
    obtain⟨q,rfl,Y,rfl,rfl⟩:=hrel;by_cases aH:(q:Int)<E
    ·obtain⟨g,av,k,hA,hg,a,hc⟩:=Hb U.o (k:=q) (by omega);subst hA;have aj:g<wr.heap.size:=by omega
     have ae:=q6u (i:=i) a;have aq:=LH ae;clear ae a;by_cases d:i∈order.take q
     ·rw[decide_eq_true d];have C:=aq.o;rw[decide_eq_true d,Bool.true_or] at C;have H2:=LH C;clear C d;go_wp2_with fail;go_roundw
      case rel=>exact⟨q+1,rfl,by omega,by rw[H2.o],rfl⟩
      case measure=>simp[intOf];omega
     ·rw[decide_eq_false d];have C:=aq.o;rw[decide_eq_false d,YE] at C;by_cases h3:(k:Int)=i
      ·have h4:k=i:=by omega
       rw[decide_eq_true h4] at C;have d1:((k:Int) == i)=T2:=by simpa using h3
       have H2:=LH C;clear C d h3 h4;go_wp2_with fail;go_roundw
       case rel=>exact⟨q+1,rfl,by omega,by rw[H2.o],rfl⟩
       case measure=>simp[intOf];omega
      ·have h4:¬k=i:=by omega
       rw[decide_eq_false h4] at C;have d1:((k:Int) == i)=Jx:=by simpa using h3
       have H2:=LH C;clear C d h3 h4;go_wp2_with fail;go_roundw
       case rel=>exact⟨q+1,rfl,by omega,by rw[H2.o],rfl⟩
       case measure=>simp[intOf];omega
    ·have aa:order.take q=order:=VU (by have:=ar.o;omega);have aL:L.length=n:=H.o.1;rw[aa];clear aa;have m:¬(i ∉ order/\0<=x.t.a4)->SW w L order n cx b (.int .i64 ((i:Int)+1)) wr:=fun ad=>
      ⟨i+1,rfl,by omega,by rw[PK HX.o ad];exact HI.o.row,fun q Y f l k a=>by
       by_cases e:q=i
       ·subst e;rw[K.o] at l;exact absurd ⟨f,l⟩ ad
       ·exact HI.o.ok q (by omega) f l k a,HI.o.below⟩
     have D:=LH m;clear m;by_cases d:i∈order
     ·rw[decide_eq_true d];have hr:=D.o (fun h=>h.1 d);have HR:=LH hr;clear hr d;go_wp2_with fail;go_roundw
      ·exact HR.o
      ·simp[intOf];omega
     ·rw[decide_eq_false d];have H1:=LH d;clear d;by_cases l:0<=x.t.a4
      ·have d0:decide (0<=x.t.a4)=T2:=by simpa using l
       have aB:wr=wr:=rfl;clear aB;go_wp2_with fail;obtain⟨w9,rfl⟩:∃ w9:B1,w9=wr:=⟨_,rfl⟩
       go_loopw [45] (StInR L order i E w9) (fun v _=>E-(intOf v).toNat)
       case atStart=>exact⟨0,0,rfl,VK _,by simp,rfl⟩
       case round=>
        obtain⟨q2,m2,rfl,aK,ac,rfl⟩:=hrel;have ap:=LH ac;clear ac;by_cases aI:(q2:Int)<E
        ·obtain⟨g,av,k,hA,hg,a,hc⟩:=Hb U.o (k:=q2) (by omega);subst hA;have aj:g<w9.heap.size:=by omega
         have aN:=aE.o k (O0 a);obtain⟨y,X⟩:∃ y,L[k]? = Bs y:=⟨_,K0 (by omega)⟩
         obtain⟨z,hz,a3⟩:=PL (order:=order) (i:=i) X;have u:=qci 3 Ty (fun _=>rfl) _ k z hz;have ay:w9.cell? ⟨b,k*3+1,B0⟩=Bs (.int .i64 z.t.from_):=(HI.o.row.cellAt (k*3+1) (by omega)).trans (u 1 (by omega));rw[a3] at ay;have ak:=JZ X;have aJ:(k:Int)<n:=by omega
         have a6:=q6k order q2 k a;have aD:=LH a6;clear a6;have HK:=LH a;clear a u hz a3 X;have au:=LH ak;clear ak;by_cases hb:x.t.a4<y.t.from_
         ·have d1:decide (x.t.a4<y.t.from_)=T2:=by simpa using hb
          have hf:decide (Ii (Am L) order)=Jx:=by
           simp only[decide_eq_false_iff_not];intro I;exact I.1 i (by rw[V.o];omega) H1.o (by rw[K.o];exact l) k (O0 HK.o) (by rw[K.o,au.o];exact hb)
          have HF:=LH hf;clear hf hb;go_wp2_with fail;go_quiet (fail);go_wp2_with fail;go_ret;rw[HF.o];exact⟨rfl,q3r (q3r HI.o.below _) _⟩
         ·have d1:decide (x.t.a4<y.t.from_)=Jx:=by simpa using hb
          have aG:=LH hb;clear hb;go_wp2_with fail;go_quiet (fail);go_wp2_with fail;go_roundw
          case rel=>
           refine⟨q2+1,_,rfl,by omega,fun k' j=>?_,rfl⟩;rw[aD.o] at j;rcases List.mem_append.1 j with j|j
           ·have:=ap.o k' j;omega
           ·rw[List.mem_singleton.1 j,K.o,au.o];have:=aG.o;omega
          case measure=>simp[intOf];omega
        ·have S:∀ k∈order,¬De (Am L) i<BM (Am L) k:=fun k a=>ap.o k (by rw[VU (by have:=ar.o;omega)];exact a)
         have s:=Uz HI.o.row (i*3+2) (.int .i64 (-1));rw[J1 3 Ty (fun _=>rfl) 2 _ (by omega) _ i x ⟨⟨x.t.ops,x.t.from_,-1⟩,x.A,x.n,x.c⟩ aC.o rfl,<- PJ HX.o H1.o l] at s;have aQ:=HI.o.row.frozenAt (i*3+2);have t:∀ w',w'=(w9.drewN m2).setCell ⟨b,i*3+2,B0⟩ (.int .i64 (-1))->SW w L order n cx b (.int .i64 ((i:Int)+1)) w':=fun w' e=>by
          subst e;refine⟨i+1,rfl,by omega,s,fun q Y f l k a=>?_,(q3r HI.o.below m2).setCell (p:=⟨b,i*3+2,B0⟩) (HI.o.row.lt b rfl).1 _⟩;by_cases e:q=i
          ·subst e;exact S k a
          ·exact HI.o.ok q (by omega) f l k a
         have ao:=LH t;clear t s S;go_wp2_with fail;go_roundw
         ·exact ao.o _ rfl
         ·simp[intOf];omega
      ·have d0:decide (0<=x.t.a4)=Jx:=by simpa using l
       have hr:=D.o (fun h=>l h.2);have HR:=LH hr;clear hr;go_wp2_with fail;go_roundw
       ·exact HR.o
       ·simp[intOf];omega
  ·have ag:i=n:=by omega
   subst ag;have a4:=Ve L order i (by rw[H.o.1];exact L1 _);have a9:Lq G G.heap.size (Bs ⟨b,0,B0⟩) i (Cl L order i):=by
    refine⟨by rw[Kh];exact H.o.1,Rd.au hI.row,fun y X=>?_⟩;obtain⟨x,M,e1,e2,e3,e4⟩:=Kg X;rw[e1,e2,e4];obtain⟨a7,ax⟩:=H.o.2.2 x M;exact⟨⟨a7.1,((a7.2.below (hI.below.mono hB)).more (VO hB hI.below.size))⟩,ax⟩
   have J:=Fy (Cl L order i) order G.heap.size i cx E co (Bs ⟨b,0,B0⟩) Ao G a9 (L1 _) hn (fun y X=>by
    obtain⟨x,M,_,e2,_,_⟩:=Kg X;rw[e2];exact HS.o x M) ((HO.o.below (hI.below.mono hB)).more (VO hB hI.below.size)) aw
   rw[a4] at J;have R:decide (BP (DN (Am L) order) order)=decide (Ii (Am L) order):=by
    rw[decide_eq_decide];exact⟨fun hf=>⟨fun q Y f l k a=>hI.ok q (by rw[V.o] at Y;exact Y) f l k a,hf⟩,fun hf=>hf.2⟩
   rw[R] at J;have al:=hI.below;have aF:=LH J;clear J a4 R hI a9;go_wp2_with fail;refine aF.o.mono ?_;rintro e w3 ⟨rfl,aA⟩;have az:=al.trans (aA.mono al.size);go_wp2_with fail;go_ret;exact⟨rfl,az⟩
section
variable {P:WQ} {ops:Array Oper} {Q:Exit->Act->B1->Prop} {md:Region.Mode}
theorem Na {S:B1->Prop} (i j:Nat) {o d:Oper} {fuel:Nat} {b:Array Bool} {a:Act} {w:B1} (q:Wn md ops b=[i,j]) (s:ops[i]? = Bs o) (f:ops[j]? = Bs d)
  (p:Wo o (yielded ops a.tmps)=T2) (e:Wo d (yielded ops a.tmps)=T2)
  (h:∀ c:Act->B1->Prop,(∀ a w,S w->wpAnyH P md ops Q S fuel (b.setIfInBounds i T2) a w->c a w)->Oper.wp P o a w c Q)
  (u:∀ c:Act->B1->Prop,(∀ a w,S w->wpAnyH P md ops Q S fuel (b.setIfInBounds j T2) a w->c a w)->Oper.wp P d a w c Q):wpAnyH P md ops Q S (fuel+1) b a w:=
 wpAnyH_all q (by simp) (fun k t=>by
  rcases(by simpa using t:k=i\/k=j) with rfl|rfl
  ·exact wpOp_step s (fun c m=>by rw[if_pos p];exact h c (fun a w hs l=>m a w ⟨hs,l⟩))
  ·exact wpOp_step f (fun c m=>by rw[if_pos e];exact u c (fun a w hs l=>m a w ⟨hs,l⟩)))
theorem Un {S:B1->Prop} (i:Nat) {d:Oper} {fuel:Nat} {b:Array Bool} {a:Act} {w:B1} (j:ops[i]? = Bs d)
  (hs:Region.noSelect ops=T2) (l:Region.free md ops b i=T2) (f:(Wn md ops b).contains i=T2)
  (p:∀ c a w,Q (.panic c) (a.put d.dst undef) w->Q (.panic c) a w) (e:Wo d (yielded ops a.tmps)=Jx) (m:S w)
  (h:wpAnyH P md ops Q S fuel (b.setIfInBounds i T2) (a.put d.dst undef) w):wpAnyH P md ops Q S (fuel+1) b a w:=
 wpAnyH_take j hs l f p (.inr ⟨e,rfl⟩) m h
end
def nextT (l:List AI) (order:List Nat) (i:Nat):Nat->Option (List Nat)
 | 0=>B0
 | a+1=>B9 l a (order++[i])
def DK (l:List AI) (f:Nat) (order:List Nat) (i:Nat):Option (List Nat):=if i∈order\/¬Ii l (order++[i]) then B0 else nextT l order i f
theorem T5 {l:List AI} {f:Nat} {order:List Nat} (d:order.Nodup) (c:∀ x∈order,x<l.length) (e:order.length+f=l.length) :
  B9 l f order=if BP l order then Bs order else(Wu l.length).findSome? (DK l f order):=by
 cases f with
 | zero=>
  unfold B9;have:(Wu l.length).findSome? (DK l 0 order)=B0:=by
   rw[List.findSome?_eq_none_iff];intro i b;have b:=List.mem_range.1 b;unfold DK;by_cases a:i∈order
   ·rw[if_pos (.inl a)]
   ·have:=qb8 d c b a;omega
  rw[this]
 | succ f=>
  unfold B9;rfl
def q6g (o:Option (List Nat)) (w:B1) (e:WA) (w':B1):Prop:=
 ∃ A k c,e=.returned (.tuple #[.slice A k c,.bool o.isSome])/\k=(o.getD []).length/\Rd w' w'.heap.size 1 A k (Ar (o.getD []))/\VJ w.heap.size w w'
def fnV (pl a:Nat):Hi:=.func (.func 24) #[] #[.pointer (Bs ⟨pl,0,B0⟩),.pointer (Bs ⟨a,0,B0⟩)]
def MV (l:List AI) (f:Nat) (order:List Nat) (n:Nat) (w:B1) (v:Hi) (wr:B1):Prop:=
 ∃ j:Nat,v=.int .i64 j/\j<=n/\(Wu j).findSome? (DK l f order)=B0/\VJ w.heap.size w wr
def InOrd2 (order:List Nat) (i c:Nat) (w:B1) (b a:Hi) (wr:B1):Prop:=∃ q:Nat,a=.int .i64 q/\q<=c/\b=.bool (decide (i∈order.take q))/\wr=w
theorem Lq.more {w:B1} {B B' n:Nat} {A:Option Xb} {l:List CB} (h:Lq w B A n l) (b:B<=B'):Lq w B' A n l:=⟨h.1,h.2.1.more b,fun x a=>⟨⟨(h.2.2 x a).1.1,(h.2.2 x a).1.2.more b⟩,(h.2.2 x a).2⟩⟩
theorem Ut (l:List Nat):∀ u∈Ar l,u.oneCell'=T2:=by
 intro u a;unfold Ar at a;obtain⟨x,_,rfl⟩:=List.mem_map.1 a;rfl
theorem TZ (L:List CB) (B n c pl pt:Nat) (A:Option Xb) (hn:n<=8) (hs:∀ x∈L,x.n<=1000):∀ (f:Nat) (order:List Nat) (w:B1) (Bo co:Nat) (Ao:Option Xb),w.cell? ⟨pl,0,B0⟩=Bs (.slice A n c)->w.cell? ⟨pt,0,B0⟩=Bs (fnV pl pt)->
  Lq w B A n L->B<=w.heap.size->order.Nodup->(∀ k∈order,k<n)->order.length+f=n->Rd w Bo 1 Ao order.length (Ar order)->Bo<=w.heap.size->
  VX Tryz.prog 24 #[.slice Ao order.length co,.pointer (Bs ⟨pl,0,B0⟩),.pointer (Bs ⟨pt,0,B0⟩)] w (q6g (B9 (Am L) f order) w):=by
 intro f;induction f using Nat.strongRecOn with
 | ind f ih=>
 intro order w Bo co Ao ao aG h hB hd hl hf ho av;have a3:(Am L).length=n:=by rw[qbt];exact h.1
 have aQ:B9 (Am L) f order=if BP (Am L) order then Bs order else(Wu n).findSome? (DK (Am L) f order):=by
  rw[<- a3];exact T5 hd (by rw[a3];exact hl) (by rw[a3];exact hf)
 have bx:order.length<=8:=by omega
 have ag:=V0 w _ ao;have af:=V0 w _ aG;have aM:=LH aQ;clear aQ;have bu:=LH a3;clear a3;have IH:=LH ih;clear ih;have H:=LH h;clear h;have HD:=LH hd;clear hd;have HL:=LH hl;clear hl;have bc:=LH hf;clear hf;have HS:=LH hs;clear hs;have HO:=LH ho;clear ho;have aN:=LH aG;clear aG;have b5:=Fy L order w.heap.size n c order.length co A Ao w (H.o.more hB) (L1 _) (by omega) HS.o (HO.o.more av) (by omega);have bp:=LH b5;clear b5;generalize aZ:order.length=D at *;have ax:=LH aZ;clear aZ;go_enter Tryz.func24,Tryz.ntmps24;go_wp2_with fail;refine bp.o.mono ?_;rintro e w1 ⟨rfl,S⟩;by_cases V:BP (Am L) order
 ·rw[decide_eq_true V];have a1:B9 (Am L) f order=Bs order:=by rw[aM.o,if_pos V]
  have a9:=LH a1;clear a1 V;have aY:(w1.alloc (.cells #[] 3)).ownsRow w.heap.size 3 1 (.slice (Bs ⟨w1.heap.size,0,B0⟩) 0 0) 0 []:=World.ownsRow_lit (base:=w.heap.size) (e:=3) (size:=1) w1 #[] 0 S.size (by unfold VZ;omega) rfl;have aJ:VJ w.heap.size w (w1.alloc (.cells #[] 3)):=S.alloc S.size _;have aS:=HO.o.below (aJ.mono av);go_wp2_with (at_builtin;refine stop ?_)
  refine Cn ?_;refine q1e _ rfl (.tmp 15) (.tmp 16) 26 rfl w.heap.size 3 (.int .i64 0) 1 8 Tryz.underlying26 Tv rfl (by decide) _ 0 [] rfl aY Bo Ao D co (Ar order) rfl aS.reads (Ut order) (by unfold VZ;omega) (by omega) (by have:=S.size;simp;omega) ?_;intro v4 w2 ap b3;have bj:VJ w.heap.size w w2:=aJ.trans (b3.below (fun g hg=>by have e:w1.heap.size=g:=Wj hg;have:=S.size;omega) (by have:=S.size;simp;omega));simp only[Wg,WL] at ap;obtain⟨A4,c4,rfl,_,_⟩:=AK ap;have az:=Rd.au ap;have bl:=LH az;clear az ap b3 aS aJ aY;go_wp2_with fail;go_ret2;rw[a9.o];exact⟨A4,D,c4,rfl,ax.o.symm,bl.o,bj⟩
 ·rw[decide_eq_false V];have a1:B9 (Am L) f order=(Wu n).findSome? (DK (Am L) f order):=by rw[aM.o,if_neg V]
  have a9:=LH a1;clear a1 V aM;have aX:w1.cell? ⟨pl,0,B0⟩=Bs (.slice A n c):=(S.cell (p:=⟨pl,0,B0⟩) ag).trans ao;have aH:pl<w1.heap.size:=by have:=S.size;omega
  go_wp2_with fail;clear aX aH;go_loopw [20] (MV (Am L) f order n w) (fun v _=>n-(intOf v).toNat)
  case atStart=>exact⟨0,rfl,VK _,rfl,S⟩
  case round=>
   clear S;obtain⟨i,rfl,hi,ak,a7⟩:=hrel;obtain⟨wo,rfl⟩:∃ wo:B1,wo=wr:=⟨_,rfl⟩
   have a0:=LH ak;clear ak;by_cases bw:(i:Int)<n
   ·have aj:i<n:=by omega
    have aC:=HO.o.below (a7.mono av);have G:=LH aC;clear aC;have bz:=a7.size;have aW:wo.cell? ⟨pl,0,B0⟩=Bs (.slice A n c):=(a7.cell (p:=⟨pl,0,B0⟩) ag).trans ao;have aB:wo.cell? ⟨pt,0,B0⟩=Bs (fnV pl pt):=(a7.cell (p:=⟨pt,0,B0⟩) af).trans aN.o;have bt:=LH aB;clear aB;go_wp2_with fail;go_loopw [7,25] (InOrd2 order i D wo) (fun _ v _=>D-(intOf v).toNat)
    case atStart=>exact⟨0,rfl,VK _,by simp,rfl⟩
    case round=>
     obtain⟨q,rfl,hq,rfl,rfl⟩:=hrel;by_cases bq:(q:Int)<D
     ·obtain⟨g,aa,k,hA,hg,hk,hc⟩:=Hb G.o (k:=q) (by omega);subst hA;have br:g<wr.heap.size:=by omega
      have b2:=q6u (i:=i) hk;have bb:=LH b2;clear b2 hk;by_cases h1:i∈order.take q
      ·rw[decide_eq_true h1];have Z:=bb.o;rw[decide_eq_true h1,Bool.true_or] at Z;have H2:=LH Z;clear Z h1;go_wp2_with fail;go_roundw
       case rel=>exact⟨q+1,rfl,by omega,by rw[H2.o],rfl⟩
       case measure=>simp[intOf];omega
      ·rw[decide_eq_false h1];have Z:=bb.o;rw[decide_eq_false h1,YE] at Z;by_cases h3:(k:Int)=i
       ·have h4:k=i:=by omega
        rw[decide_eq_true h4] at Z;have d1:((k:Int) == i)=T2:=by simpa using h3
        have H2:=LH Z;clear Z h1 h3 h4;go_wp2_with fail;go_roundw
        case rel=>exact⟨q+1,rfl,by omega,by rw[H2.o],rfl⟩
        case measure=>simp[intOf];omega
       ·have h4:¬k=i:=by omega
        rw[decide_eq_false h4] at Z;have d1:((k:Int) == i)=Jx:=by simpa using h3
        have H2:=LH Z;clear Z h1 h3 h4;go_wp2_with fail;go_roundw
        case rel=>exact⟨q+1,rfl,by omega,by rw[H2.o],rfl⟩
        case measure=>simp[intOf];omega
     ·have aT:order.take q=order:=VU (by have:=ax.o;omega);rw[aT];clear aT;have aO:=LH a7;clear a7;have aV:pl<wr.heap.size:=by omega
      have N:Bo<=wr.heap.size:=by omega
      have b8:Lq wr wr.heap.size A n L:=(H.o.below (aO.o.mono hB)).more (by omega);have bn:=LH b8;clear b8;have aD:∀ k∈order++[i],k<n:=fun k hk=>by
       rcases List.mem_append.1 hk with hk|hk
       ·exact HL.o k hk
       ·rw[List.mem_singleton.1 hk];exact aj
      have aF:=LH aD;clear aD;generalize b7:decide (i∈order)=b;have be:=LH b7;clear b7;go_upto_region 12 with (fail)
      go_cut [47] (fun s47 wx=>s47=.bool (b || !decide (Ii (Am L) (order++[i])))/\VJ wr.heap.size wr wx)
      case first=>
       have t:VJ wr.heap.size wr wr.drew:=(S2 _ _).drew;rcases b with _|_
       rotate_left
       ·refine nW ?_;refine Ra (fun w'=>VJ wr.heap.size wr w') ?_;refine Lt 0 rfl (by kernel_rfl) (by kernel_rfl) (by kernel_rfl) (fun _ _ _ h=>h) (by kernel_rfl) t (fun w' C=>by go_simp;rfl) ?_;refine Lt 1 rfl (by kernel_rfl) (by kernel_rfl) (by kernel_rfl) (fun _ _ _ h=>h) (by kernel_rfl) t (fun w' C=>by go_simp;rfl) ?_;refine Un 2 rfl (by kernel_rfl) (by kernel_rfl) (by kernel_rfl) (fun _ _ _ h=>h) (by kernel_rfl) t ?_;refine Un 3 rfl (by kernel_rfl) (by kernel_rfl) (by kernel_rfl) (fun _ _ _ h=>h) (by kernel_rfl) t ?_;refine Un 4 rfl (by kernel_rfl) (by kernel_rfl) (by kernel_rfl) (fun _ _ _ h=>h) (by kernel_rfl) t ?_;refine Un 6 rfl (by kernel_rfl) (by kernel_rfl) (by kernel_rfl) (fun _ _ _ h=>h) (by kernel_rfl) t ?_;refine Un 5 rfl (by kernel_rfl) (by kernel_rfl) (by kernel_rfl) (fun _ _ _ h=>h) (by kernel_rfl) t ?_;refine Un 7 rfl (by kernel_rfl) (by kernel_rfl) (by kernel_rfl) (fun _ _ _ h=>h) (by kernel_rfl) t ?_;refine Un 8 rfl (by kernel_rfl) (by kernel_rfl) (by kernel_rfl) (fun _ _ _ h=>h) (by kernel_rfl) t ?_;refine Un 9 rfl (by kernel_rfl) (by kernel_rfl) (by kernel_rfl) (fun _ _ _ h=>h) (by kernel_rfl) t ?_;refine Un 10 rfl (by kernel_rfl) (by kernel_rfl) (by kernel_rfl) (fun _ _ _ h=>h) (by kernel_rfl) t ?_;refine Lt 11 rfl (by kernel_rfl) (by kernel_rfl) (by kernel_rfl) (fun _ _ _ h=>h) (by kernel_rfl) t (fun w' C=>by go_simp;rfl) ?_;refine wpAnyH_done (by kernel_rfl) ?_ _;go_wp2_with fail;go_meet;exact⟨rfl,t⟩
       ·refine nW ?_;refine Ra (fun w'=>VJ wr.heap.size wr w') ?_;refine Lt 0 rfl (by kernel_rfl) (by kernel_rfl) (by kernel_rfl) (fun _ _ _ h=>h) (by kernel_rfl) t (fun w' C=>by go_simp;rfl) ?_;refine Lt 1 rfl (by kernel_rfl) (by kernel_rfl) (by kernel_rfl) (fun _ _ _ h=>h) (by kernel_rfl) t (fun w' C=>by go_simp;rfl) ?_;refine Lt 2 rfl (by kernel_rfl) (by kernel_rfl) (by kernel_rfl) (fun _ _ _ h=>h) (by kernel_rfl) t (fun w' C=>by have bi:=(C.cell (p:=⟨pl,0,B0⟩) aV).trans aW;go_simp;rfl) ?_;refine Lt 4 rfl (by kernel_rfl) (by kernel_rfl) (by kernel_rfl) (fun _ _ _ h=>h) (by kernel_rfl) t (fun w' C=>by go_simp;rfl) ?_;refine Lt 6 rfl (by kernel_rfl) (by kernel_rfl) (by kernel_rfl) (fun _ _ _ h=>h) (by kernel_rfl) t (fun w' C=>by go_simp;rfl) ?_;refine Na 3 7 (by kernel_rfl) rfl rfl (by kernel_rfl) (by kernel_rfl) (fun K j=>?ordP) (fun K j=>?ordQ)
        case' ordP=>
         go_simp;refine j _ _ (((S2 _ _).alloc (L1 _) _).drew) ?_;clear j K;refine Na 5 7 (by kernel_rfl) rfl rfl (by kernel_rfl) (by kernel_rfl) (fun K j=>?ordR) (fun K j=>?ordS)
        case' ordR=>
         have d:VJ wr.heap.size wr ((wr.alloc (.cells #[] 3)).drew):=((S2 _ _).alloc (L1 _) _).drew;have z:World.ownsRow ((wr.alloc (.cells #[] 3)).drew) wr.heap.size 3 1 (.slice (Bs ⟨wr.heap.size,0,B0⟩) 0 0) 0 []:=World.ownsRow_lit (base:=wr.heap.size) (e:=3) (size:=1) wr #[] 0 (L1 _) (by unfold VZ;omega) rfl;have y:=G.o.below (d.mono N);refine q2k ((wr.alloc (.cells #[] 3)).drew) (.tmp 39) (.tmp 40) 26 rfl wr.heap.size 3 (.int .i64 0) 1 8 Tryz.underlying26 Tv rfl (by decide) _ 0 [] rfl z Bo Ao D co (Ar order) rfl y.reads (Ut order) (by unfold VZ;omega) (by omega) d.size ?_;intro ac w5 l s;simp only[Wg,WL] at l;obtain⟨A5,c5,rfl,_,_⟩:=AK l;have m:VJ wr.heap.size wr w5:=d.trans (s.below (fun g hg=>by have e:wr.heap.size=g:=Wj hg;omega) d.size);clear y z s;go_simp;refine j _ _ m ?_;clear j K;refine Lr 7 (by kernel_rfl) rfl (by kernel_rfl) (fun K j=>?_);go_simp;refine j _ _ (m.alloc m.size _) ?_;clear j K;have u:World.ownsRow (w5.alloc (.cells #[.int .i64 (i:Int)] 3)) wr.heap.size 3 1 (.slice A5 D c5) D (Ar order):=l.alloc _;have O:Rd (w5.alloc (.cells #[.int .i64 (i:Int)] 3)) ((w5.alloc (.cells #[.int .i64 (i:Int)] 3))).heap.size 1 (Bs ⟨w5.heap.size,0,B0⟩) 1 (Ar [i]):=by have h:=Rd.lit w5 #[.int .i64 (i:Int)] 3 1 1 rfl;simpa [Ar] using h
         have E:VJ wr.heap.size wr (w5.alloc (.cells #[.int .i64 (i:Int)] 3)):=m.alloc m.size _;obtain⟨X,ad⟩:∃ X:B1,X=(w5.alloc (.cells #[.int .i64 (i:Int)] 3)):=⟨_,rfl⟩
         rw[<- ad] at u O E ⊢;clear ad m l d
        case' ordS=>
         go_simp;refine j _ _ ((((S2 _ _).alloc (L1 _) _).alloc (by simp) _).drew) ?_;clear j K;refine Lr 5 (by kernel_rfl) rfl (by kernel_rfl) (fun K j=>?_);have d:VJ wr.heap.size wr (((wr.alloc (.cells #[] 3)).alloc (.cells #[.int .i64 (i:Int)] 3)).drew):=(((S2 _ _).alloc (L1 _) _).alloc (by simp) _).drew;have z:World.ownsRow (((wr.alloc (.cells #[] 3)).alloc (.cells #[.int .i64 (i:Int)] 3)).drew) wr.heap.size 3 1 (.slice (Bs ⟨wr.heap.size,0,B0⟩) 0 0) 0 []:=(World.ownsRow_lit (base:=wr.heap.size) (e:=3) (size:=1) wr #[] 0 (L1 _) (by unfold VZ;omega) rfl).alloc _;have y:=G.o.below (d.mono N);refine q2k (((wr.alloc (.cells #[] 3)).alloc (.cells #[.int .i64 (i:Int)] 3)).drew) (.tmp 39) (.tmp 40) 26 rfl wr.heap.size 3 (.int .i64 0) 1 8 Tryz.underlying26 Tv rfl (by decide) _ 0 [] rfl z Bo Ao D co (Ar order) rfl y.reads (Ut order) (by unfold VZ;omega) (by omega) d.size ?_;intro ac w5 l s;simp only[Wg,WL] at l;obtain⟨A5,c5,rfl,_,_⟩:=AK l;have m:VJ wr.heap.size wr w5:=d.trans (s.below (fun g hg=>by have e:wr.heap.size=g:=Wj hg;omega) d.size);have O:Rd w5 w5.heap.size 1 (Bs ⟨wr.heap.size+1,0,B0⟩) 1 (Ar [i]):=by
          have h:=Rd.lit (wr.alloc (.cells #[] 3)) #[.int .i64 (i:Int)] 3 1 1 rfl;have e1:(wr.alloc (.cells #[] 3)).heap.size=wr.heap.size+1:=by simp
          rw[e1] at h;have Z:=Rd.fr h ((((Fr.refl (fun k=>Bs k=Bs wr.heap.size) _).drew).trans s.1)) (by simp) (fun g aa e _=>by injection e with e;injection e with e _;intro e2;injection e2;omega);simpa [Ar] using Z.more (by have:=s.size;simp at this;omega)
         clear y z s;go_simp;refine j _ _ m ?_;clear j K;have u:World.ownsRow w5 wr.heap.size 3 1 (.slice A5 D c5) D (Ar order):=l;have E:VJ wr.heap.size wr w5:=m;obtain⟨X,rfl⟩:∃ X:B1,X=w5:=⟨_,rfl⟩
         clear m l d
        case' ordQ=>
         go_simp;refine j _ _ (((S2 _ _).alloc (L1 _) _).drew) ?_;clear j K;refine Lr 3 (by kernel_rfl) rfl (by kernel_rfl) (fun K j=>?_);go_simp;refine j _ _ ((((S2 _ _).alloc (L1 _) _).alloc (by simp) _).drew) ?_;clear j K;refine Lr 5 (by kernel_rfl) rfl (by kernel_rfl) (fun K j=>?_);have d:VJ wr.heap.size wr (((wr.alloc (.cells #[.int .i64 (i:Int)] 3)).alloc (.cells #[] 3)).drew):=(((S2 _ _).alloc (L1 _) _).alloc (by simp) _).drew;have z:World.ownsRow (((wr.alloc (.cells #[.int .i64 (i:Int)] 3)).alloc (.cells #[] 3)).drew) wr.heap.size 3 1 (.slice (Bs ⟨wr.heap.size+1,0,B0⟩) 0 0) 0 []:=by
          have h:=World.ownsRow_lit (base:=wr.heap.size) (e:=3) (size:=1) (wr.alloc (.cells #[.int .i64 (i:Int)] 3)) #[] 0 (by simp) (by unfold VZ;omega) rfl;have e1:(wr.alloc (.cells #[.int .i64 (i:Int)] 3)).heap.size=wr.heap.size+1:=by simp
          rw[e1] at h;exact h
         have y:=G.o.below (d.mono N);refine q2k (((wr.alloc (.cells #[.int .i64 (i:Int)] 3)).alloc (.cells #[] 3)).drew) (.tmp 39) (.tmp 40) 26 rfl wr.heap.size 3 (.int .i64 0) 1 8 Tryz.underlying26 Tv rfl (by decide) _ 0 [] rfl z Bo Ao D co (Ar order) rfl y.reads (Ut order) (by unfold VZ;omega) (by omega) d.size ?_;intro ac w5 l s;simp only[Wg,WL] at l;obtain⟨A5,c5,rfl,_,_⟩:=AK l;have m:VJ wr.heap.size wr w5:=d.trans (s.below (fun g hg=>by have e:wr.heap.size+1=g:=Wj hg;omega) d.size);have O:Rd w5 w5.heap.size 1 (Bs ⟨wr.heap.size,0,B0⟩) 1 (Ar [i]):=by
          have h:=(Rd.lit wr #[.int .i64 (i:Int)] 3 1 1 rfl).fr ((Fr.refl (fun k=>Bs k=Bs (wr.heap.size+1)) _).alloc (.cells #[] 3)) (by simp) (fun g aa e _=>by injection e with e;injection e with e _;intro e2;injection e2;omega);have Z:=Rd.fr h ((((Fr.refl (fun k=>Bs k=Bs (wr.heap.size+1)) _).drew).trans s.1)) (by simp) (fun g aa e _=>by injection e with e;injection e with e _;intro e2;injection e2;omega);simpa [Ar] using Z.more (by have:=s.size;simp at this;omega)
         clear y z s;go_simp;refine j _ _ m ?_;clear j K;have u:World.ownsRow w5 wr.heap.size 3 1 (.slice A5 D c5) D (Ar order):=l;have E:VJ wr.heap.size wr w5:=m;obtain⟨X,rfl⟩:∃ X:B1,X=w5:=⟨_,rfl⟩
         clear m l d
        all_goals
         refine Lr 8 (by kernel_rfl) rfl (by kernel_rfl) (fun K j=>?_);refine q2k X (.tmp 41) (.tmp 43) 26 rfl wr.heap.size 3 (.int .i64 0) 1 8 Tryz.underlying26 Tv rfl (by decide) _ D (Ar order) rfl u _ _ 1 1 (Ar [i]) rfl O.reads (Ut [i]) (by unfold VZ;omega) (by omega) E.size ?_;intro bf U a6 ah;obtain⟨A8,c8,rfl,_,_⟩:=AK a6;have J:VJ wr.heap.size wr U:=E.trans (ah.below (fun g hg=>(u.lt g hg).1) E.size);have a2:Rd U U.heap.size 1 A8 (D+1) (Ar (order++[i])):=by
          have h:=Rd.au a6;rw[qbb];exact h
         clear u O E a6 ah;go_simp;refine j _ _ J ?_;clear j K;refine Lr 9 (by kernel_rfl) rfl (by kernel_rfl) (fun K j=>?_);go_simp;refine(Lf L (order++[i]) U.heap.size n c (D+1) c8 A A8 U ((bn.o.below J).more J.size) (L1 _) (by omega) HS.o a2 (by omega) aF.o).mono ?_;rintro e w9 ⟨rfl,aK⟩;have I:VJ wr.heap.size wr w9:=J.trans (aK.mono J.size);generalize aR:decide (Ii (Am L) (order++[i]))=sb;have bk:=LH aR;clear aR;go_simp;refine j _ _ I ?_;clear j K;refine Lr 10 (by kernel_rfl) rfl (by kernel_rfl) (fun K j=>?_);go_simp;refine j _ _ I ?_;clear j K;refine Lr 11 (by kernel_rfl) rfl (by kernel_rfl) (fun K j=>?_);go_simp;refine j _ _ I ?_;clear j K;refine wpAnyH_done (by kernel_rfl) ?_ _;go_wp2_with fail;go_meet;rw[bk.o];exact⟨rfl,I⟩
      case rest=>
       obtain⟨rfl,b6⟩:=hcut;have R:VJ w.heap.size w wc:=aO.o.trans (b6.mono aO.o.size);have Y:(i∈order\/¬Ii (Am L) (order++[i]))->(b || !decide (Ii (Am L) (order++[i])))=T2:=fun h=>by
        rw[<- be.o];rcases h with h|h
        ·simp[h]
        ·simp[h]
       have ar:¬(i∈order\/¬Ii (Am L) (order++[i]))->(b || !decide (Ii (Am L) (order++[i])))=Jx:=fun h=>by
        rw[<- be.o];simp only[not_or,Decidable.not_not] at h;simp[h.1,h.2]
       generalize (b || !decide (Ii (Am L) (order++[i])))=sk at Y ar;by_cases a4:i∈order\/¬Ii (Am L) (order++[i])
       ·obtain rfl:=Y a4;have hrel:MV (Am L) f order n w (.int .i64 ((i:Int)+1)) wc:=⟨i+1,rfl,by omega,by rw[qa0 _ _ a0.o];unfold DK;rw[if_pos a4],R⟩
        have b9:=LH hrel;clear hrel Y ar a4;go_wp2_with fail;go_roundw
        ·exact b9.o
        ·simp[intOf];omega
       ·obtain rfl:=ar a4;have b0:i ∉ order:=fun h=>a4 (.inl h)
        obtain⟨f',aI⟩:∃ f',f=f'+1:=⟨f-1,by have:=qb8 HD.o HL.o aj b0;have:=bc.o;have:=ax.o;omega⟩
        have aP:DK (Am L) f order i=B9 (Am L) f' (order++[i]):=by unfold DK;rw[if_neg a4,aI];rfl
        have aL:=LH aP;clear aP a4 Y ar;have b1:(order++[i]).Nodup:=by
         rw[Xo];exact⟨HD.o,by simp,fun a ha b hb=>by rw[List.mem_singleton.1 hb];exact fun e=>b0 (e▸ha)⟩
        have aq:(order++[i]).length=D+1:=by rw[VP,ax.o];rfl
        have bg:pl<wc.heap.size:=by have:=R.size;omega
        have aU:pt<wc.heap.size:=by have:=R.size;omega
        have aA:wc.cell? ⟨pt,0,B0⟩=Bs (fnV pl pt):=(R.cell (p:=⟨pt,0,B0⟩) af).trans aN.o;have al:∀ (U:B1) (A8:Option Xb) (c8:Nat),VJ wc.heap.size wc U->Rd U U.heap.size 1 A8 (D+1) (Ar (order++[i]))->
          VX Tryz.prog 24 #[.slice A8 (D+1) c8,.pointer (Bs ⟨pl,0,B0⟩),.pointer (Bs ⟨pt,0,B0⟩)] U (q6g (B9 (Am L) f' (order++[i])) U):=fun U A8 c8 J a2=>by
         have au:VJ w.heap.size w U:=R.trans (J.mono R.size);have h:=IH.o f' (by omega) (order++[i]) U U.heap.size c8 A8 ((au.cell (p:=⟨pl,0,B0⟩) ag).trans ao) ((au.cell (p:=⟨pt,0,B0⟩) af).trans aN.o) (H.o.below (au.mono hB)) (VO hB au.size) b1 aF.o (by rw[aq];have:=bc.o;omega) (by rw[aq];exact a2) (L1 _);rw[aq] at h;exact h
        have am:=LH al;clear al b1 aq;have G:=LH (HO.o.below (R.mono av));have N:Bo<=wc.heap.size:=by have:=R.size;omega
        have bA:=LH aI;clear aI;have bd:=LH R;clear R b6;generalize bh:B9 (Am L) f' (order++[i])=o' at am aL;clear bh;unfold fnV at aA;go_upto_region 13 with (fail)
        go_cut [10,11] (fun s10 s11 wx=>∃ an ab aw,s10=.slice an ab aw/\s11=.bool o'.isSome/\ab=(o'.getD []).length/\Rd wx wx.heap.size 1 an ab (Ar (o'.getD []))/\VJ wc.heap.size wc wx)
        case first=>
         have t:VJ wc.heap.size wc wc.drew:=(S2 _ _).drew;refine nW ?_;refine Ra (fun w'=>VJ wc.heap.size wc w') ?_;refine Lt 0 rfl (by kernel_rfl) (by kernel_rfl) (by kernel_rfl) (fun _ _ _ h=>h) (by kernel_rfl) t (fun w' C=>by have bi:=(C.cell (p:=⟨pt,0,B0⟩) aU).trans aA;go_simp;rfl) ?_;refine Lt 2 rfl (by kernel_rfl) (by kernel_rfl) (by kernel_rfl) (fun _ _ _ h=>h) (by kernel_rfl) t (fun w' C=>by go_simp;rfl) ?_;refine Lt 4 rfl (by kernel_rfl) (by kernel_rfl) (by kernel_rfl) (fun _ _ _ h=>h) (by kernel_rfl) t (fun w' C=>by go_simp;rfl) ?_;refine Na 1 5 (by kernel_rfl) rfl rfl (by kernel_rfl) (by kernel_rfl) (fun K j=>?B6) (fun K j=>?ordU)
         case' B6=>
          go_simp;refine j _ _ (((S2 _ _).alloc (L1 _) _).drew) ?_;clear j K;refine Na 3 5 (by kernel_rfl) rfl rfl (by kernel_rfl) (by kernel_rfl) (fun K j=>?ordV) (fun K j=>?ordW)
         case' ordV=>
          have d:VJ wc.heap.size wc ((wc.alloc (.cells #[] 3)).drew):=((S2 _ _).alloc (L1 _) _).drew;have z:World.ownsRow ((wc.alloc (.cells #[] 3)).drew) wc.heap.size 3 1 (.slice (Bs ⟨wc.heap.size,0,B0⟩) 0 0) 0 []:=World.ownsRow_lit (base:=wc.heap.size) (e:=3) (size:=1) wc #[] 0 (L1 _) (by unfold VZ;omega) rfl;have y:=G.o.below (d.mono N);refine q2k ((wc.alloc (.cells #[] 3)).drew) (.tmp 50) (.tmp 51) 26 rfl wc.heap.size 3 (.int .i64 0) 1 8 Tryz.underlying26 Tv rfl (by decide) _ 0 [] rfl z Bo Ao D co (Ar order) rfl y.reads (Ut order) (by unfold VZ;omega) (by omega) d.size ?_;intro ac w5 l s;simp only[Wg,WL] at l;obtain⟨A5,c5,rfl,_,_⟩:=AK l;have m:VJ wc.heap.size wc w5:=d.trans (s.below (fun g hg=>by have e:wc.heap.size=g:=Wj hg;omega) d.size);clear y z s;go_simp;refine j _ _ m ?_;clear j K;refine Lr 5 (by kernel_rfl) rfl (by kernel_rfl) (fun K j=>?_);go_simp;refine j _ _ (m.alloc m.size _) ?_;clear j K;have u:World.ownsRow (w5.alloc (.cells #[.int .i64 (i:Int)] 3)) wc.heap.size 3 1 (.slice A5 D c5) D (Ar order):=l.alloc _;have O:Rd (w5.alloc (.cells #[.int .i64 (i:Int)] 3)) (w5.alloc (.cells #[.int .i64 (i:Int)] 3)).heap.size 1 (Bs ⟨w5.heap.size,0,B0⟩) 1 (Ar [i]):=by have h:=Rd.lit w5 #[.int .i64 (i:Int)] 3 1 1 rfl;simpa [Ar] using h
          have E:VJ wc.heap.size wc (w5.alloc (.cells #[.int .i64 (i:Int)] 3)):=m.alloc m.size _;obtain⟨X,ad⟩:∃ X:B1,X=w5.alloc (.cells #[.int .i64 (i:Int)] 3):=⟨_,rfl⟩
          rw[<- ad] at u O E ⊢;clear ad m l d
         case' ordW=>
          go_simp;refine j _ _ ((((S2 _ _).alloc (L1 _) _).alloc (by simp) _).drew) ?_;clear j K;refine Lr 3 (by kernel_rfl) rfl (by kernel_rfl) (fun K j=>?_);have d:VJ wc.heap.size wc (((wc.alloc (.cells #[] 3)).alloc (.cells #[.int .i64 (i:Int)] 3)).drew):=(((S2 _ _).alloc (L1 _) _).alloc (by simp) _).drew;have z:World.ownsRow (((wc.alloc (.cells #[] 3)).alloc (.cells #[.int .i64 (i:Int)] 3)).drew) wc.heap.size 3 1 (.slice (Bs ⟨wc.heap.size,0,B0⟩) 0 0) 0 []:=(World.ownsRow_lit (base:=wc.heap.size) (e:=3) (size:=1) wc #[] 0 (L1 _) (by unfold VZ;omega) rfl).alloc _;have y:=G.o.below (d.mono N);refine q2k (((wc.alloc (.cells #[] 3)).alloc (.cells #[.int .i64 (i:Int)] 3)).drew) (.tmp 50) (.tmp 51) 26 rfl wc.heap.size 3 (.int .i64 0) 1 8 Tryz.underlying26 Tv rfl (by decide) _ 0 [] rfl z Bo Ao D co (Ar order) rfl y.reads (Ut order) (by unfold VZ;omega) (by omega) d.size ?_;intro ac w5 l s;simp only[Wg,WL] at l;obtain⟨A5,c5,rfl,_,_⟩:=AK l;have m:VJ wc.heap.size wc w5:=d.trans (s.below (fun g hg=>by have e:wc.heap.size=g:=Wj hg;omega) d.size);have O:Rd w5 w5.heap.size 1 (Bs ⟨wc.heap.size+1,0,B0⟩) 1 (Ar [i]):=by
           have h:=Rd.lit (wc.alloc (.cells #[] 3)) #[.int .i64 (i:Int)] 3 1 1 rfl;have e1:(wc.alloc (.cells #[] 3)).heap.size=wc.heap.size+1:=by simp
           rw[e1] at h;have Z:=Rd.fr h ((((Fr.refl (fun k=>Bs k=Bs wc.heap.size) _).drew).trans s.1)) (by simp) (fun g aa e _=>by injection e with e;injection e with e _;intro e2;injection e2;omega);simpa [Ar] using Z.more (by have:=s.size;simp at this;omega)
          clear y z s;go_simp;refine j _ _ m ?_;clear j K;have u:World.ownsRow w5 wc.heap.size 3 1 (.slice A5 D c5) D (Ar order):=l;have E:VJ wc.heap.size wc w5:=m;obtain⟨X,rfl⟩:∃ X:B1,X=w5:=⟨_,rfl⟩
          clear m l d
         case' ordU=>
          go_simp;refine j _ _ (((S2 _ _).alloc (L1 _) _).drew) ?_;clear j K;refine Lr 1 (by kernel_rfl) rfl (by kernel_rfl) (fun K j=>?_);go_simp;refine j _ _ ((((S2 _ _).alloc (L1 _) _).alloc (by simp) _).drew) ?_;clear j K;refine Lr 3 (by kernel_rfl) rfl (by kernel_rfl) (fun K j=>?_);have d:VJ wc.heap.size wc (((wc.alloc (.cells #[.int .i64 (i:Int)] 3)).alloc (.cells #[] 3)).drew):=(((S2 _ _).alloc (L1 _) _).alloc (by simp) _).drew;have z:World.ownsRow (((wc.alloc (.cells #[.int .i64 (i:Int)] 3)).alloc (.cells #[] 3)).drew) wc.heap.size 3 1 (.slice (Bs ⟨wc.heap.size+1,0,B0⟩) 0 0) 0 []:=by
           have h:=World.ownsRow_lit (base:=wc.heap.size) (e:=3) (size:=1) (wc.alloc (.cells #[.int .i64 (i:Int)] 3)) #[] 0 (by simp) (by unfold VZ;omega) rfl;have e1:(wc.alloc (.cells #[.int .i64 (i:Int)] 3)).heap.size=wc.heap.size+1:=by simp
           rw[e1] at h;exact h
          have y:=G.o.below (d.mono N);refine q2k (((wc.alloc (.cells #[.int .i64 (i:Int)] 3)).alloc (.cells #[] 3)).drew) (.tmp 50) (.tmp 51) 26 rfl wc.heap.size 3 (.int .i64 0) 1 8 Tryz.underlying26 Tv rfl (by decide) _ 0 [] rfl z Bo Ao D co (Ar order) rfl y.reads (Ut order) (by unfold VZ;omega) (by omega) d.size ?_;intro ac w5 l s;simp only[Wg,WL] at l;obtain⟨A5,c5,rfl,_,_⟩:=AK l;have m:VJ wc.heap.size wc w5:=d.trans (s.below (fun g hg=>by have e:wc.heap.size+1=g:=Wj hg;omega) d.size);have O:Rd w5 w5.heap.size 1 (Bs ⟨wc.heap.size,0,B0⟩) 1 (Ar [i]):=by
           have h:=(Rd.lit wc #[.int .i64 (i:Int)] 3 1 1 rfl).fr ((Fr.refl (fun k=>Bs k=Bs (wc.heap.size+1)) _).alloc (.cells #[] 3)) (by simp) (fun g aa e _=>by injection e with e;injection e with e _;intro e2;injection e2;omega);have Z:=Rd.fr h ((((Fr.refl (fun k=>Bs k=Bs (wc.heap.size+1)) _).drew).trans s.1)) (by simp) (fun g aa e _=>by injection e with e;injection e with e _;intro e2;injection e2;omega);simpa [Ar] using Z.more (by have:=s.size;simp at this;omega)
          clear y z s;go_simp;refine j _ _ m ?_;clear j K;have u:World.ownsRow w5 wc.heap.size 3 1 (.slice A5 D c5) D (Ar order):=l;have E:VJ wc.heap.size wc w5:=m;obtain⟨X,rfl⟩:∃ X:B1,X=w5:=⟨_,rfl⟩
          clear m l d
         all_goals
          refine Lr 6 (by kernel_rfl) rfl (by kernel_rfl) (fun K j=>?_);refine q2k X (.tmp 52) (.tmp 54) 26 rfl wc.heap.size 3 (.int .i64 0) 1 8 Tryz.underlying26 Tv rfl (by decide) _ D (Ar order) rfl u _ _ 1 1 (Ar [i]) rfl O.reads (Ut [i]) (by unfold VZ;omega) (by omega) E.size ?_;intro bf U a6 ah;obtain⟨A8,c8,rfl,_,_⟩:=AK a6;have J:VJ wc.heap.size wc U:=E.trans (ah.below (fun g hg=>(u.lt g hg).1) E.size);have a2:Rd U U.heap.size 1 A8 (D+1) (Ar (order++[i])):=by
           have h:=Rd.au a6;rw[qbb];exact h
          clear u O E a6 ah;go_simp;refine j _ _ J ?_;clear j K;refine Lr 7 (by kernel_rfl) rfl (by kernel_rfl) (fun K j=>?_);go_simp;refine(am.o U A8 c8 J a2).mono ?_;rintro e w9 ⟨A9,k9,c9,rfl,b4,ay,aK⟩;have I:VJ wc.heap.size wc w9:=J.trans (aK.mono J.size);have ba:=LH ay;clear ay;have bo:=LH b4;clear b4;go_simp;refine j _ _ I ?_;clear j K;refine Lt 8 rfl (by kernel_rfl) (by kernel_rfl) (by kernel_rfl) (fun _ _ _ h=>h) (by kernel_rfl) I (fun w' C=>by go_simp;rfl) ?_;refine Lt 9 rfl (by kernel_rfl) (by kernel_rfl) (by kernel_rfl) (fun _ _ _ h=>h) (by kernel_rfl) I (fun w' C=>by go_simp;rfl) ?_;refine Lt 10 rfl (by kernel_rfl) (by kernel_rfl) (by kernel_rfl) (fun _ _ _ h=>h) (by kernel_rfl) I (fun w' C=>by go_simp;rfl) ?_;refine Lt 11 rfl (by kernel_rfl) (by kernel_rfl) (by kernel_rfl) (fun _ _ _ h=>h) (by kernel_rfl) I (fun w' C=>by go_simp;rfl) ?_;refine Lr 12 (by kernel_rfl) rfl (by kernel_rfl) (fun K j=>?_);go_simp;refine j _ _ I ?_;clear j K;refine wpAnyH_done (by kernel_rfl) ?_ _;go_wp2_with fail;go_meet;exact⟨A9,k9,c9,rfl,rfl,bo.o,ba.o,I⟩
        case rest=>
         obtain⟨an,ab,aw,rfl,rfl,ai,a5,aE⟩:=hcut;have a8:VJ w.heap.size w wc:=bd.o.trans (aE.mono bd.o.size);clear aE;rcases o' with _|x
         ·have ae:MV (Am L) f order n w (.int .i64 ((i:Int)+1)) wc:=⟨i+1,rfl,by omega,by rw[qa0 _ _ a0.o];exact aL.o,a8⟩
          have bm:=LH ae;clear ae ai a5 a8;simp only[Option.isSome_none];go_wp2_with fail;go_roundw
          ·exact bm.o
          ·simp[intOf];omega
         ·have M:q6g (B9 (Am L) f order) w (.returned (.tuple #[.slice an ab aw,.bool T2])) wc:=by
           rw[a9.o,PB aj a0.o aL.o];exact⟨an,ab,aw,rfl,ai,a5,a8⟩
          have HP:=LH M;clear M ai a5 a8;simp only[Option.isSome_some];go_wp2_with fail;go_ret2;exact HP.o
   ·have aj:i=n:=by omega
    subst aj;have M:q6g (B9 (Am L) f order) w (.returned (.tuple #[.slice B0 0 0,.bool Jx])) wo:=by
     rw[a9.o,a0.o];exact⟨B0,0,0,rfl,rfl,Rd.none_ _ _ _ _,a7⟩
    have HP:=LH M;clear M;go_wp2_with fail;go_ret2;exact HP.o
theorem I5 (L:List CB) (B n c:Nat) (A:Option Xb) (w:B1) (h:Lq w B A n L) (q:B<=w.heap.size) (y:n<=8) (hs:∀ x∈L,x.n<=1000) :
  VX Tryz.prog 8 #[.slice A n c] w (q6g (B9 (Am L) n []) w):=by
 have p:∀ v:Hi,VJ w.heap.size w (((w.alloc (.cells #[.slice A n c] 29)).alloc (.cells #[.nilFunc] 70)).setCell ⟨w.heap.size+1,0,B0⟩ v):=fun v=>(((S2 _ _).alloc (L1 _) _).alloc (by simp) _).setCell (by simp) _
 have D:=LH p;clear p;have H:=LH h;clear h;have z:=LH hs;clear hs;go_enter Tryz.func8,Tryz.ntmps8;go_wp2_with fail;have b:VJ w.heap.size w ((w.alloc (.cells #[.slice A n c] 29)).alloc (.cells #[fnV w.heap.size (w.heap.size+1)] 70)):=((S2 _ _).alloc (L1 _) _).alloc (by simp) _;have e1:(w.alloc (.cells #[.slice A n c] 29)).heap.size=w.heap.size+1:=by simp
 have j:((w.alloc (.cells #[.slice A n c] 29)).alloc (.cells #[fnV w.heap.size (w.heap.size+1)] 70)).cell? ⟨w.heap.size,0,B0⟩=Bs (.slice A n c):=by simp
 have i:((w.alloc (.cells #[.slice A n c] 29)).alloc (.cells #[fnV w.heap.size (w.heap.size+1)] 70)).cell? ⟨w.heap.size+1,0,B0⟩=Bs (fnV w.heap.size (w.heap.size+1)):=by rw[<- e1];simp
 refine(TZ L B n c w.heap.size (w.heap.size+1) A y z.o n [] _ 0 0 B0 j i (H.o.below (b.mono q)) (VO q b.size) List.nodup_nil (by simp) (by simp) (Rd.none_ _ _ _ _) (VK _)).mono ?_;rintro e u ⟨t,m,s,rfl,f,d,l⟩;have a:q6g (B9 (Am L) n []) w (.returned (.tuple #[.slice t m s,.bool (B9 (Am L) n []).isSome])) u:=⟨t,m,s,rfl,f,d,b.trans (l.mono b.size)⟩
 have C:=LH a;clear a f d l b j i e1;go_wp2_with fail;go_ret2;exact C.o
def sx0:CI:=⟨tx0,.slice B0 0 0⟩
def Dg (H:Hs) (L:List CI) (i:Nat):List CI:=(FZ H i).map fun j=>L[j]?.getD sx0
theorem JL (H:Hs) (n:Nat):FZ H (n+1)=FZ H n++(if (H.tx (n+1)).state=3\/(H.tx (n+1)).state=2 then [n] else []):=by
 unfold FZ;rw[Yz,List.filter_append];congr 1;rw[List.filter_cons];by_cases h:(H.tx (n+1)).state=3\/(H.tx (n+1)).state=2
 ·rw[if_pos h,if_pos (by simpa using h)];rfl
 ·rw[if_neg h,if_neg (by simpa using h)];rfl
theorem Q7 {H:Hs} {L:List CI} {i:Nat} {x:CI} (a:L[i]? = Bs x) (h:(H.tx (i+1)).state=3\/(H.tx (i+1)).state=2):Dg H L (i+1)=Dg H L i++[x]:=by
 unfold Dg;rw[JL,if_pos h,List.map_append,List.map_cons,List.map_nil,a];rfl
theorem Uh {H:Hs} {L:List CI} {i:Nat} (h:¬((H.tx (i+1)).state=3\/(H.tx (i+1)).state=2)):Dg H L (i+1)=Dg H L i:=by
 unfold Dg;rw[JL,if_neg h,WM]
theorem Q8 (H:Hs) (L:List CI) (i:Nat):(Dg H L i).length<=i:=by
 unfold Dg FZ;rw[Wh];exact VO (WD _ _) (by simp)
theorem qc0 {H:Hs} {L:List CI} {x:CI} (h:x∈Dg H L L.length):x∈L:=by
 unfold Dg at h;obtain⟨j,a,rfl⟩:=List.mem_map.1 h;have:=(qc8.1 a).1;rw[K0 this];exact List.getElem_mem this
theorem Ov {H:Hs} {L:List CI} {T:List AI} (h:L.map (·.t)=T):(Dg H L L.length).map (·.t)=BK H T:=by
 unfold Dg BK;have b:T.length=L.length:=by rw[<- h,Wh]
 rw[b,List.map_map];refine List.map_congr_left fun j a=>?_
 have a:=(qc8.1 a).1;show(L[j]?.getD sx0).t=T[j]?.getD tx0;subst h;rw[VT,K0 a];rfl
structure SxsI (w:B1) (b0:Nat) (V:Hi) (l:List CI) (B:Nat):Prop where
 row:w.ownsRow b0 52 3 V l.length (l.flatMap Ij)
 ops:∀ x∈l,w.ownsRow 0 56 4 x.V x.t.ops.length (x.t.ops.flatMap q62)/\x.t.ops.length<=B
 fine:B2 (l.map (·.t))
def SR (T':List AI) (B:Nat) (w:B1) (e:WA) (w':B1):Prop:=∃ (V:Hi) (l:List CI),e=.returned V/\SxsI w' w.heap.size V l B/\l.map (·.t)=T'/\VJ w.heap.size w w'
def SS (w:B1) (H:Hs) (L:List CI) (V v:Hi) (wr:B1):Prop:=∃ i:Nat,v=.int .i64 i/\i<=L.length/\wr.ownsRow w.heap.size 52 3 V (Dg H L i).length ((Dg H L i).flatMap Ij)/\VJ w.heap.size w wr
theorem SxsI.reads {w:B1} {b0:Nat} {V:Hi} {l:List CI} {B:Nat} (h:SxsI w b0 V l B) :
  ∃ (A:Option Xb) (c:Nat) (L':List CB),L'.length=l.length/\V=.slice A L'.length c/\Lq w w.heap.size A L'.length L'/\Am L'=l.map (·.t)/\∀ x∈L',x.n<=B:=by
 have b:∀ m:List CI,(∀ x∈m,x∈l)->∃ L':List CB,L'.length=m.length/\L'.flatMap Ty=m.flatMap Ij/\Am L'=m.map (·.t)/\(∀ x∈L',x.n<=B)/\∀ x∈L',q87 w w.heap.size x.A x.n x.t.ops/\∀ o∈x.t.ops,G2 o:=by
  intro m;induction m with
  | nil=>exact fun _=>⟨[],rfl,rfl,rfl,fun _ h=>(nomatch h),fun _ h=>(nomatch h)⟩
  | cons x m u=>
   intro t;obtain⟨L',e1,p,j,i,f⟩:=u (fun y a=>t y (VM _ a));have q:=t x VL;obtain⟨d,z⟩:=h.ops x q;obtain⟨A,c,e,_,_⟩:=AK d;rw[e] at d;refine⟨⟨x.t,A,x.t.ops.length,c⟩::L',by simp[e1],?_,?_,fun y a=>?_,fun y a=>?_⟩
   ·rw[VI,VI,p];show [Value.slice A x.t.ops.length c,_,_]++_=[x.V,_,_]++_;rw[e]
   ·show x.t::Am L'=x.t::m.map (·.t);rw[j]
   ·rcases List.mem_cons.1 a with rfl|a
    ·exact z
    ·exact i y a
   ·rcases List.mem_cons.1 a with rfl|a
    ·refine⟨⟨rfl,Rd.au d⟩,fun o v=>?_⟩;have:=h.fine x.t (YU q) o v;unfold Te at this;unfold G2 VZ;omega
    ·exact f y a
 obtain⟨L',e1,p,j,i,f⟩:=b l (fun _ h=>h);have s:=h.row;obtain⟨A,c,e,_,_⟩:=AK s;subst e;refine⟨A,c,L',e1,by rw[e1],⟨rfl,?_,f⟩,j,i⟩;rw[p,e1];exact Rd.au s
theorem q9m {w a c:B1} {e:VQ} {size n:Nat} {V V':Hi} {xs:List Hi} (d:Aq a c V.ownBlock V'.ownBlock) (h:a.ownsRow w.heap.size e size V n xs) (f:VJ w.heap.size w a):VJ w.heap.size a c:=
 d.1.below (fun b e=>(h.lt b e.symm).1) f.size
section
variable {w w':B1} {own own':Ai} {P:Aw} {F:Nat->Prop} {g r o k:Nat} {H:Hs} {T:List AI} {now:Int} {nodes:Nat} {safe:Bool} {B:Nat}
theorem QH (c:Dd w own P F g r o k H T now safe nodes B) (hm:H.m=T.length) (h7:T.length<=8) (hf:B2 T):VX Tryz.prog 9 #[pw g] w (SR (BK H T) B w):=by
 have Z:=fun wr (d:VJ w.heap.size w wr) (i:Int)=>q50 (w:=wr) (c.hi.below d) (by omega) i
 have a8:=LH Z;obtain⟨V,L,y,hT,hF,c0,c1,c2,c3,c4,gl⟩:=c.cells;have a6:T.length=L.length:=by rw[<- hT,Wh]
 have a1:∀ i:Nat,i<L.length->H.state ((i:Int)+1)=(H.tx (i+1)).state:=fun i hi=>by
  unfold Hs.state;rw[if_neg (by omega),show((i:Int)+1).toNat=i+1 by omega]
 have a9:=LH a1;obtain⟨A0,k0,a0,_,_⟩:=AK y.row;have ae:L.length<=8:=by omega
 have O:=LH y;have aa:=LH (show B2 (L.map (·.t)) from by rw[hT];exact hf);have a7:=LH (Ov (H:=H) hT);have j:=y.row;rw[a0] at j c1;have a3:=LH j;clear Z c y hT hF c2 c3 c4 a0 hf a1 a6 h7 hm j;unfold pw at *;go_enter Tryz.func9,Tryz.ntmps9;go_wp2_with fail;go_loopw [3,4] (fun V v wr=>SS w H L V v wr) (fun _ v _=>L.length-(intOf v).toNat)
 case atStart=>exact⟨0,rfl,VK _,VY _ _ _ _,S2 _ _⟩
 case round=>
  obtain⟨i,rfl,hi,hw,d⟩:=hrel;have d0:=(d.cell (p:=⟨g,0,B0⟩) gl).trans c0;have d1:=(d.cell (p:=⟨g,1,B0⟩) gl).trans c1;have ah:=VH gl d.size;by_cases ad:(i:Int)<L.length
  ·have N:i<L.length:=by omega
   have ab:IntKind.i64.wrap ((i:Int)+1)=(i:Int)+1:=V8 _ ⟨by omega,by omega⟩;obtain⟨x,u⟩:∃ x,L[i]? = Bs x:=⟨_,K0 N⟩
   have D:=LH (a8.o wr d ((i:Int)+1));rw[a9.o i N] at D;obtain⟨r0,o0,x',hA,l,M,z⟩:=(Rd.au a3.o).elem (e1:=Ij) (fun _=>rfl) rfl N;obtain rfl:x'=x:=by rw[u] at M;injection M with e;exact e.symm
   have q0:=z 0 _ rfl;have q1:=z 1 _ rfl;have q2:=z 2 _ rfl;subst hA;have K:=(d.cell (p:=⟨r0,o0+i*3,B0⟩) l).trans q0;have J:=(d.cell (p:=⟨r0,o0+i*3+1,B0⟩) l).trans q1;have I:=(d.cell (p:=⟨r0,o0+i*3+2,B0⟩) l).trans q2;have E:=VH l d.size;have HW:=LH hw;have HB:=LH d;have ac:=Q8 H L i;have Y:=d.size;clear hw d c0 c1 gl q0 q1 q2 l;have HX:=LH u;have s:=LH (fun h=>Q7 (H:=H) u h);have S:=LH (fun h=>Uh (H:=H) (L:=L) (i:=i) h);clear u M z;generalize (H.tx (i+1)).state=st at *;by_cases X:st=3\/st=2
   ·have m:∀ V2 G,G.ownsRow w.heap.size 52 3 V2 ((Dg H L i).length+1) ((Dg H L i).flatMap Ij++[x'.V,.int .i64 x'.t.from_,.int .i64 x'.t.a4])->VJ w.heap.size w G->SS w H L V2 (.int .i64 ((i:Int)+1)) G:=fun V2 G ho a5=>by
     refine⟨i+1,rfl,by omega,?_,a5⟩;rw[s.o X,VP,Wx];exact ho
    have a:=LH m;clear m;have a4:(st=3/\True)\/(¬st=3/\st=2):=by
     by_cases e:st=3
     ·exact .inl ⟨e,trivial⟩
     ·exact .inr ⟨e,X.resolve_left e⟩
    have f:=AK (O.o.ops x' (O0 HX.o)).1;clear HX;obtain⟨U,xV⟩:=x';obtain⟨A7,c7,f,_,_⟩:=f;simp only at f;subst f;simp only at K J I;rcases a4 with ⟨C,_⟩|⟨C,a2⟩
    ·subst C;clear X s S;go_wp2_with fail;refine D.o.mono ?_;rintro e G ⟨rfl,rfl⟩;go_wp2_with (at_builtin;refine stop ?_)
     refine Cn ?_;refine Nf wr _ rfl (.tmp 28) (.tmp 36) 29 rfl w.heap.size 52 _ 3 40 Tryz.underlying29 GJ rfl (by decide) _ _ _ #[.slice A7 U.ops.length c7,.int .i64 U.from_,.int .i64 U.a4] rfl HW.o 1 rfl _ rfl rfl (by simp[Wy]) (by unfold VZ;omega) (by omega) Y ?_;intro V6 w6 b q;have R:=LH (a.o V6 w6 b (HB.o.trans (q9m q HW.o HB.o)));clear b q K J I E a;go_wp2_with fail;go_roundw
     ·exact R.o
     ·simp[intOf];omega
    ·subst a2;clear X C s S;go_wp2_with fail;refine D.o.mono ?_;rintro e G ⟨rfl,rfl⟩;go_wp2_with (at_builtin;refine stop ?_)
     refine Cn ?_;refine Nf wr _ rfl (.tmp 28) (.tmp 36) 29 rfl w.heap.size 52 _ 3 40 Tryz.underlying29 GJ rfl (by decide) _ _ _ #[.slice A7 U.ops.length c7,.int .i64 U.from_,.int .i64 U.a4] rfl HW.o 1 rfl _ rfl rfl (by simp[Wy]) (by unfold VZ;omega) (by omega) Y ?_;intro V6 w6 b q;have R:=LH (a.o V6 w6 b (HB.o.trans (q9m q HW.o HB.o)));clear b q K J I E a;go_wp2_with fail;go_roundw
     ·exact R.o
     ·simp[intOf];omega
   ·have C:(st == 3)=Jx:=by simp;omega
    have a2:(st == 2)=Jx:=by simp;omega
    have ag:decide (st=3)=Jx:=by simp;omega
    have af:decide (st=2)=Jx:=by simp;omega
    have a:=LH (show SS w H L u3 (.int .i64 ((i:Int)+1)) wr from⟨i+1,rfl,by omega,by rw[S.o X];exact HW.o,HB.o⟩);clear X;go_wp2_with fail;refine D.o.mono ?_;rintro e G ⟨rfl,rfl⟩;go_wp2_with fail;go_roundw
    ·exact a.o
    ·simp[intOf];omega
  ·obtain rfl:i=L.length:=by omega
   have HF:=LH (show SR (BK H T) B w (.returned u3) wr from⟨u3,Dg H L L.length,rfl,⟨hw,fun x u=>⟨Lx (O.o.ops x (qc0 u)).1 d,(O.o.ops x (qc0 u)).2.1⟩,fun t ht=>by
    obtain⟨x,u,rfl⟩:=List.mem_map.1 ht;exact aa.o x.t (YU (qc0 u))⟩,a7.o,d⟩)
   clear hw;go_wp2_with fail;go_ret;exact HF.o
end
def q5c (x:ActX):List Hi:=[.int .i64 x.what,.int .i64 x.tx,.int .i64 x.a,.string x.val]
theorem Si:∀ (l:List ActX) (j:Nat) (x:ActX),l[j]? = Bs x->∀ i,i<4->(l.flatMap q5c)[j*4+i]? = (q5c x)[i]?
 | [],j,p,h,i,a=>by simp at h
 | q::l,0,p,h,i,a=>by
  simp at h;subst h;rw[VI,Wc (by show _<4;omega)];simp
 | q::l,j+1,p,h,i,a=>by
  have c:l[j]? = Bs p:=by simpa using h
  have e:(j+1)*4+i=(j*4+i)+4:=by omega
  have b:(q5c q).length=4:=rfl;rw[e,VI,Wd (by rw[b];omega),b,W1];exact Si l j p c i a
theorem Rd.dt {w:B1} {B n j:Nat} {A:Option Xb} {l:List ActX} (h:Rd w B 4 A n (l.flatMap q5c)) (i:l.length=n) (m:j<n):∃ g a x,A=Bs ⟨g,a,B0⟩/\g<B/\l[j]? = Bs x/\
  w.cell? ⟨g,a+j*4,B0⟩=Bs (.int .i64 x.what)/\w.cell? ⟨g,a+j*4+1,B0⟩=Bs (.int .i64 x.tx)/\w.cell? ⟨g,a+j*4+2,B0⟩=Bs (.int .i64 x.a)/\w.cell? ⟨g,a+j*4+3,B0⟩=Bs (.string x.val):=by
 obtain⟨g,a,e,f,c⟩:=h.2 (by omega);have d:l[j]? = Bs l[j]:=K0 (by omega);have b:=Si l j _ d;exact⟨g,a,l[j],e,f,d,c (j*4) _ (b 0 (by omega)),c (j*4+1) _ (b 1 (by omega)),c (j*4+2) _ (b 2 (by omega)),c (j*4+3) _ (b 3 (by omega))⟩
theorem Dd.begin {w c:B1} {own:Ai} {P:Aw} {H:Hs} {r o k n:Nat} {safe:Bool} (K:Em w c own P H) (m:NmI w r o k) (nodes:Int) {f:B1} (d:VJ c.heap.size c f) (a:Ab f c.heap.size 37 #[pw P.g,.slice B0 0 0,.int .i64 0,.bool safe,.int .i64 nodes]) :
  Dd f own P (fun b=>b=c.heap.size) c.heap.size r o k H [] 0 safe nodes n:=by
 have p:=K.below d;have u:=m.lt0;have s:=m.lt;have q:=K.bl.size;refine⟨p.hi,p.ns,⟨.slice B0 0 0,[],⟨a,VY _ _ _ _,fun x l=>(nomatch l),fun i j x y h=>by simp at h⟩,rfl,fun b d=>?_⟩,m.fr (DV p.bl) (fun h=>by omega) (fun h=>by omega),?_,?_,?_,?_⟩
 ·rcases d with rfl|d|⟨x,l,_⟩
  ·rfl
  ·simp[V4] at d
  ·cases l
 ·cases e:own 0 with
  | none=>rfl
  | some t=>have:=K.lo 0 (by rw[e];simp);omega
 ·cases e:own r with
  | none=>rfl
  | some t=>have:=K.lo r (by rw[e];simp);omega
 ·rintro b rfl;exact⟨K.hi.free (L1 _),by omega,by omega⟩
 ·rintro b rfl;exact a.lt
structure Vs (H:Hs) (G:Gh) (T:List AI) (i:Int):Prop where
 ser:AO H G (4+3*i)
 sto:Bw H G T i
 fine:B2 T
 m7:T.length<=7
theorem Vs.act {H H':Hs} {G:Gh} {T T':List AI} {i:Int} {safe:Bool} {nodes:Nat} {x:ActX} (h:Vs H G T i) (e:0<=i/\i<=10000) (r:Br safe nodes (i+1) x H T H' T'):∃ a,Vs H' a (BT H' (i+1) T') (i+1):=by
 have c:=h.sto.len;have b:=h.m7;have d:=r.cnt h.ser.a (by omega) c b;obtain⟨a,s1,s2⟩:=h.ser.mid h.sto (by omega) (by omega) b r;exact⟨a,s1.mono (by omega),s2.late,(h.fine.mid h.ser (by omega) r).late _ _,by rw[Pd];exact d.2.1⟩
structure BgI (W:B1) (r o k gS:Nat) (safe:Bool) (nd i:Nat) (own:Ai) (P:Aw) (F:Nat->Prop) (H:Hs) (T:List AI) (B:Nat) (wr:B1):Prop where
 sy:Dd wr own P F gS r o k H T i safe nd B
 st:∃ G,Vs H G T i
 B:B<=i
 fr:Fr (fun b=>W.heap.size<=b) W wr
 lo:∀ b,own b≠B0\/F b->W.heap.size<=b
def Tl (W:B1) (r o k a:Nat) (safe:Bool) (n nd:Nat) (v:Hi) (wr:B1):Prop:=∃ (i:Nat) (own:Ai) (P:Aw) (F:Nat->Prop) (H:Hs) (T:List AI) (B:Nat),v=.int .i64 i/\i<=n/\BgI W r o k a safe nd i own P F H T B wr
def Tm (W:B1) (r o k:Nat) (safe:Bool) (nd n:Nat) (e:WA) (w':B1):Prop:=
 (120<n/\e=.returned (.tuple #[.pointer B0,.bool T2])/\W=w')\/(n<=120/\∃ (a:Nat) (own:Ai) (P:Aw) (F:Nat->Prop) (H:Hs) (T:List AI) (B:Nat),e=.returned (.tuple #[pw a,.bool T2])/\BgI W r o k a safe nd n own P F H T B w')
theorem BgI.act {W:B1} {r o k l:Nat} {safe:Bool} {nd i:Nat} {own:Ai} {P:Aw} {F:Nat->Prop} {H:Hs} {T:List AI} {B:Nat} {wr:B1} {d:B1} {a:Ai} {t:Aw} {q:Nat->Prop} {c:Hs} {p:List AI} {s:Nat} {x:ActX} (h:BgI W r o k l safe nd i own P F H T B wr) (C:i<1000)
  (y:Dd d a t q l r o k c (BT c ((i:Int)+1) p) ((i:Int)+1) safe nd s) (f:Ia wr own F d a q) (D:s<=B+1) (hM:Br safe nd ((i:Int)+1) x H T c p) :
  BgI W r o k l safe nd (i+1) a t q c (BT c ((i:Int)+1) p) s d:=by
 obtain⟨G,v⟩:=h.st;obtain⟨z,j⟩:=v.act (by omega) hM;have hs:=h.fr.size;refine⟨y,⟨z,j⟩,by have:=h.B;omega,h.fr.trans' f.fr (fun b _ e=>h.lo b e),fun b u=>?_⟩;by_cases e:b<wr.heap.size
 ·refine h.lo b (u.imp (fun m=>by rw[<- f.ext b e];exact m) (fun m=>(f.F b m).elim id (fun E=>by omega)))
 ·omega
theorem PS (l:List ActX) (nodes:Int) (safe:Bool) (n cp:Nat) (A:Option Xb) (W:B1) {r o k:Nat} (hr:Rd W W.heap.size 4 A n (l.flatMap q5c)) (hl:l.length=n) (hv:∀ x∈l,x.val.size<=VZ) (y:NmI W r o k) :
  VX Tryz.prog 7 #[.int .i64 nodes,.bool safe,.slice A n cp] W (Tm W r o k safe (1+AX nodes 3) n):=by
 have HR:=LH hr;have HV:=LH hv;have a4:=LH y;have S:=LH (fun w=>Mn w);have R:=LH (q3v nodes 3 (by omega) (by omega) W);have aa:=Rj nodes (n:=3) (by omega);clear hr hv y;generalize ab:1+AX nodes 3=nd;have z:1<=nd/\nd<=3:=by omega
 have a7:IntKind.i64.wrap (1+(AX nodes 3:Int))=nd:=by rw[V8 _ ⟨by omega,by omega⟩];omega
 go_enter Tryz.func7,Tryz.ntmps7;by_cases a2:120<n
 ·have hd:decide ((120:Int)<n)=T2:=decide_eq_true (by omega);go_wp2_with fail;go_ret2;exact .inl ⟨a2,rfl,rfl⟩
 have a6:decide ((120:Int)<n)=Jx:=decide_eq_false (by omega);have HN:=LH (show VX Tryz.prog 20 #[.int .i64 2,.int .i64 nd] W (Vy nd W) from FN (w:=W) nd (by omega) (by omega));have O:=LH (AO.new (n:=nd) (by omega));have N:=LH (Bw.new (n:=nd) (by omega));go_wp2_with fail;refine R.o.mono ?_;rintro e w0 ⟨rfl,rfl⟩;go_wp2_with fail;refine HN.o.mono ?_;rintro e w1 ⟨P,own,rfl,hI,u,a,hg,C⟩;have HK:=LH (show Em W w1 own P (BD nd) from⟨hI,u,a,C⟩);have HH:=LH (S.o w1);unfold Ic at HH;clear HN R hI u a hg C;go_wp2_with fail;refine HH.o.mono ?_;rintro e p ⟨rfl,I⟩;have m:=LH (HK.o.below I);clear HK HH I;unfold pw at *;obtain⟨q,c⟩:∃ q:B1,q=p.alloc (.cells #[.pointer (Bs ⟨P.g,0,B0⟩),.slice B0 0 0,.int .i64 0,.bool safe,.int .i64 nd] 37):=⟨_,rfl⟩
 have f:=LH (show Tl W r o k p.heap.size safe n nd (.int .i64 0) q from by
  have E:VJ p.heap.size p q:=by rw[c];exact(S2 _ _).alloc (L1 _) _
  have X:Ab q p.heap.size 37 #[pw P.g,.slice B0 0 0,.int .i64 0,.bool safe,.int .i64 nd]:=by rw[c];exact Ab.new _ _ _
  have Y:=Dd.begin (n:=0) m.o a4.o (nd:Int) E X;have hK:=m.o;have a1:=hK.bl.size;refine⟨0,own,P,_,BD nd,[],0,rfl,VK _,Y,⟨_,O.o.mono (by omega),N.o,B2.nil,VK _⟩,L1 _,(DV (hK.bl.trans (E.mono a1))).mono (fun b a e=>e),fun b a=>?_⟩;rcases a with a|a
  ·exact hK.lo b a
  ·omega)
 clear m O N S;go_wp2_with fail;rw[<- c];clear c;generalize p.heap.size=V at *;go_loopw [11] (Tl W r o k V safe n nd) (fun v _=>n-(intOf v).toNat)
 case atStart=>exact f.o
 case round=>
  clear f;obtain⟨i,t,P1,F1,H,T,B,rfl,hi,d⟩:=hrel;by_cases ac:(i:Int)<n
  ·have Z:i<n:=by omega
   have h:VJ W.heap.size W wr:=d.fr.below (fun b a=>a) (L1 _);obtain⟨g0,a8,x,hA,D,hx,k0,k1,k2,k3⟩:=(HR.o.below h).dt hl Z;have a0:g0<wr.heap.size:=VH D h.size;obtain⟨G,U⟩:=d.st;have j:=LH (OT d.sy U.ser.a (by omega) U.sto.len U.m7 (by omega) (by omega) (by have:=d.B;omega) z x (HV.o x (O0 hx)));have HL:=LH d;subst hA;unfold SL SyP pw at j;clear d h hx U;go_wp2_with fail;refine j.o.mono ?_;rintro e w4 ⟨rfl,s,P4,F4,H4,T4,a5,B4,L,J,rfl,M,T1,K,rfl⟩;have a3:=LH (show Tl W r o k V safe n nd (.int .i64 ((i+1:Nat):Int)) w4 from⟨i+1,s,P4,F4,H4,_,B4,rfl,by omega,HL.o.act (by omega) L J M K⟩);have a9:IntKind.i64.wrap ((i:Int)+1)=((i+1:Nat):Int):=by rw[V8 _ ⟨by omega,by omega⟩];omega
   clear k0 k1 k2 k3 a0 D j L J M K HL;go_wp2_with fail;go_roundw
   ·exact a3.o
   ·simp[intOf];omega
  ·obtain rfl:i=n:=by omega
   have HF:=LH (show Tm W r o k safe nd i (.returned (.tuple #[pw V,.bool T2])) wr from .inr ⟨by omega,V,t,P1,F1,H,T,B,rfl,d⟩);unfold pw at HF;clear d;go_wp2_with fail;go_ret2;exact HF.o
def SQ (w:B1) (e:WA) (w':B1):Prop:=e=.returned (.bool T2)/\VJ w.heap.size w w'
theorem q88 (l:List ActX) (nodes:Int) (n Y:Nat) (A:Option Xb) (W:B1) {r o k:Nat} (S:Rd W W.heap.size 4 A n (l.flatMap q5c)) (hl:l.length=n) (R:∀ x∈l,x.val.size<=VZ) (q:NmI W r o k) :
  VX Tryz.prog 3 #[.int .i64 nodes,.slice A n Y] W (SQ W):=by
 have N:=LH (PS l nodes Jx n Y A W S hl R q);clear S R q;go_enter Tryz.func3,Tryz.ntmps3;go_wp2_with fail;refine N.o.mono ?_;rintro e w1 (⟨h1,rfl,rfl⟩|⟨h1,gS,own,P,F,H,T,B,rfl,z⟩)
 ·clear N;have M:=LH (show SQ W (.returned (.bool T2)) W from⟨rfl,S2 _ _⟩);go_wp2_with fail;go_ret;exact M.o
 ·obtain⟨G,i⟩:=z.st;have Z:=LH (QH z.sy i.sto.len (by have:=i.m7;omega) i.fine);have L:=LH (IG i.ser.s i.sto);have v:VJ W.heap.size W w1:=z.fr.below (fun b hb=>hb) (L1 _);have C:=LH v;have J:B<=1000:=by have:=z.B;omega
  have y:(BK H T).length<=8:=by
   rw[II];unfold FZ;have:=i.m7;exact VO (WD _ _) (by simp;omega)
  unfold pw SR at *;clear N z i v;go_wp2_with fail;refine Z.o.mono ?_;rintro e O ⟨V,lS,rfl,X,E,u⟩;obtain⟨A2,c2,L',d,rfl,p,j,U⟩:=X.reads;have s:L'.length<=8:=by rw[d,<- Wh (f:=(·.t)),E];exact y
  have h:=I5 L' O.heap.size L'.length c2 A2 O p (L1 _) s (fun x hx=>by have:=U x hx;omega);have c:(B9 (Am L') L'.length []).isSome=T2:=by
   have e1:L'.length=(BK H T).length:=by rw[d,<- Wh (f:=(·.t)),E]
   have e2:Am L'=BK H T:=by rw[j,E]
   rw[e2,e1,<- I3];exact L.o
  have K:=LH c;have a:=LH h;have D:=LH (C.o.trans (u.mono C.o.size));unfold q6g at a;rw[c] at a;clear Z X E u p j U h c K y d s J;go_wp2_with fail;refine a.o.mono ?_;rintro e w3 ⟨A3,k3,c3,rfl,I,m,t⟩;have M:=LH (show SQ W (.returned (.bool T2)) w3 from⟨rfl,D.o.trans (t.mono D.o.size)⟩);clear a I m t;go_wp2_with fail;go_ret;exact M.o
section
open Go.RowKit Go.WideShapes Go.ChangeShapes
section
variable {H:Type} {enc:VQ×Hi->H} {P:WQ}
theorem qc4 {f:Func} {s:ChangeSpec} {i x h y:Bool} {W z:B1} {args:Array Hi} {v:Hi} {G gs:List (Yv H)} {a pa pv:List Zc}
  (J:DataW.Whole enc P f.params.toList s.vars i W args.toList G gs a)
  (m:∀ (b:Nat) (u:Nat->Bool) (N:Bool),YC enc P z b u N f.resultTypes.toList (v.resultList f.resultTypes.size) (s.fn H (G++gs)).results [])
  (e:∀ u:Nat->Bool,(∀ p∈a,u p.block=T2)->YC enc P z 0 u T2 f.params.toList args.toList (s.fn H (G++gs)).args pa)
  (c:∀ u:Nat->Bool,(∀ p∈a,u p.block=T2)->DataW.TrodVars enc P z u s.vars (s.fn H (G++gs)).vars pv)
  (l:a=pa++pv) (K:VJ W.heap.size W z)
  (I:∀ (j:Nat) (t:VQ) (r:Hi),f.resultTypes[j]? = Bs t->(v.resultList f.resultTypes.size)[j]? = Bs r->Value.okWide P z .any 0 t r) :
  s.post enc P f i x h y W args v z:=by
 have D:∀ p∈a,p.block<W.heap.size:=fun p d=>J.lt p d
 have q:∀ p∈a,(fun b=>decide (b<W.heap.size)) p.block=T2:=fun p d=>by simpa using D p d
 refine⟨G,gs,a,[],pa,pv,J,m _ _ _,e _ q,c _ q,World.keptBut_mono (fun p d=>⟨d,?_⟩) (K.frame (·∈a)),fun _=>?_⟩
 ·rw[l,Xs] at d;exact Or.inr d
 ·obtain⟨_,_,_,_,_,L,M⟩:=J;refine⟨I,_,_,([]++pa)++pv,⟨[]++pa,pv,trodAll_append (e _ (fun _ _=>rfl)) (m _ _ _),c _ (fun _ _=>rfl),rfl,?_,?_⟩,?_⟩
  ·intro b C d;have E:MemPlace.cell b C∈a:=by rw[l];simpa using d
   rw[K.frozen (D _ E)];exact L b C E
  ·intro O;have:=M O;rw[l] at this;simpa using this
  ·intro p d _;rw[l];simpa using d
end
end
section
open Go.ChangeShapes Go.WideShapes Go.ChangeAt Go.RowKit Go.Deep
section
variable {H:Type} {enc:VQ×Hi->H} {P:WQ}
theorem q6i (f:laidOutB P=T2) {W i:B1} {e:Nat->Bool} : ∀ (ts:List VQ) (a:List Hi) (c:List (Yv H)) (ps:List Zc),(∀ t∈ts,P.readableRec t=T2/\t<P.types.size)->
  YC enc P W 0 (fun _=>T2) T2 ts a c ps->(∀ p∈ps,W.sameAt i p)->(∀ p∈ps,e p.block=T2)->YC enc P i 0 e T2 ts a c ps
 | [],a,c,ps,_,h,_,_=>by
  cases a <;> cases c <;> simp_all [YC]
 | t::ts,[],c,ps,_,h,_,_=>by simp[YC] at h
 | t::ts,v::a,[],ps,_,h,_,_=>by simp[YC] at h
 | t::ts,v::a,d::c,ps,hr,h,hsame,hs=>by
  obtain⟨p,q,u,s,rfl⟩:=h;obtain⟨l,j⟩:=hr t (VL ..);exact⟨p,q,WideElems.Trod_stays f l j u (fun x b=>hsame x (Wa _ b)) (fun x b=>hs x (Wa _ b)),
   q6i f ts a c q (fun t m=>hr t (VM _ m)) s (fun x b=>hsame x (List.mem_append_right _ b)) (fun x b=>hs x (List.mem_append_right _ b)),rfl⟩
theorem close_law {f:Func} {s:ChangeSpec} {c h b i:Bool} {W I:B1} {args:Array Hi} {z gs:List (Yv H)} {d:List Zc} {C:VQ}
  (L:laidOutB P=T2) (J:∀ t∈f.params.toList,P.readableRec t=T2/\t<P.types.size) (m:f.resultTypes=#[C]) (l:P.underlying C=Bs .bool) (j:s.vars=[])
  (E:DataW.Whole enc P f.params.toList s.vars c W args.toList z gs d) (a:s.fn H (z++gs) = { results:=[.lit (.bool T2)],args:=z }) (D:VJ W.heap.size W I) :
  s.post enc P f c h b i W args (.bool T2) I:=by
 have e:=E;obtain⟨p,q,N,G,rfl,M,K⟩:=E;rw[j] at G;obtain⟨rfl,rfl⟩:=trodVars_none G;simp only[WM] at e a;have y:∀ x∈p,x.block<W.heap.size:=fun x u=>e.lt x u
 refine qc4 (pa:=p) (pv:=[]) e (fun _ _ _=>?_) (fun O v=>?_) (fun _ _=>?_) (by simp) D (ok_one m rfl (okWide_bool_mk l _))
 ·rw[m];simp only[WM,a];exact trodAll_cons_mk (shut_bool l _) trodAll_mk0
 ·simp only[WM,a];exact q6i L _ _ _ _ J N (fun x u=>D.same (y x u)) v
 ·rw[j];simp only[WM,a];rfl
end
theorem TU {H:Type} {d:Yv H} {l:List (Yv H)} (h:d∈l):Rows.uptoBulk d<=Rows.uptoBulkAll l:=by
 induction l with
 | nil=>cases h
 | cons x r a=>
  simp only[Rows.uptoBulkAll];rcases List.mem_cons.1 h with e|e
  ·subst e;omega
  ·have:=a e;omega
theorem QE {H:Type} (l r:List (Yv H)):Rows.uptoBulkAll l<=Rows.uptoBulk (DataW.slice l r):=by simp only[Rows.uptoBulk];omega
theorem q92 {w:B1} {g o:Nat} {a:Option Nat} {v:Hi} (h:w.cell? ⟨g,o,a⟩=Bs v):a=B0:=by
 rcases a with _|a
 ·rfl
 ·unfold World.cell? at h;split at h
  ·simp at h
  ·cases h
theorem q6f {w:B1} {a:Xb} {k:Nat} {v:Hi} (h:w.cell? (a.add k)=Bs v) (g o:Nat) (c:Option Nat) (e:a=⟨g,o,c⟩):w.cell? ⟨g,o+k,B0⟩=Bs v/\g<w.heap.size:=by
 subst e;have b:=V0 w _ h;rw[Ht] at b;refine⟨?_,b⟩;unfold Addr.add at h;split at h
 ·rename_i d;subst d;have:=q92 h;subst this;exact h
 ·exact h
section
variable {H:Type} {enc:VQ×Hi->H} {W:B1}
theorem Sf {α:Type} (size:Nat) (a:α->List Hi) (d:∀ x,(a x).length=size) (Q:α->Prop) (g o:Nat):∀ m:Nat,(∀ i,i<m->∃ x,Q x/\∀ j u,(a x)[j]? = Bs u->W.cell? ⟨g,o+(i*size+j),B0⟩=Bs u)->
  ∃ l:List α,l.length=m/\(∀ x∈l,Q x)/\∀ j u,(l.flatMap a)[j]? = Bs u->W.cell? ⟨g,o+j,B0⟩=Bs u
 | 0,_=>⟨[],rfl,(fun x q=>by cases q),(fun j u b=>by simp at b)⟩
 | m+1,h=>by
  obtain⟨l,s,v,z⟩:=Sf size a d Q g o m (fun i D=>h i (by omega));obtain⟨x,q,t⟩:=h m (by omega);have f:(l.flatMap a).length=m*size:=by
   rw[<- s];clear s v z;induction l with
   | nil=>simp
   | cons y r C=>simp only[VI,VP,d,C,WH,Nat.succ_mul];omega
  refine⟨l++[x],by simp[s],fun y c=>?_,fun j u b=>?_⟩
  ·rcases List.mem_append.1 c with c|c
   ·exact v y c
   ·rw[List.mem_singleton.1 c];exact q
  ·rw[Wx] at b;rcases Nat.lt_or_ge j (l.flatMap a).length with p|p
   ·rw[Wc p] at b;exact z j u b
   ·rw[Wd p] at b;have:=t (j-m*size) u (by rw[<- f];simpa using b);rw[f] at p;have e:m*size+(j-m*size)=j:=by omega
    rwa [e] at this
theorem open_gen {α:Type} {P:WQ} {T e:VQ} (hT:P.underlying T=Bs (.slice e)) (size:Nat) (hC:P.cellsOf e=size) (BD:0<size) (d:α->List Hi) (q:∀ x,(d x).length=size) (Q:Nat->α->Prop) {sp:Nat->Bool}
  (J:∀ (n:Nat) (cs:List Hi) (y:Yv H×List Zc),DataW.trod enc P W 0 sp T2 n e cs=Bs y->∃ x,cs=d x/\Q (Rows.uptoBulk y.1) x)
  {n:Nat} {v:Hi} {y:Yv H×List Zc} (h:DataW.trod enc P W 0 sp T2 n T [v]=Bs y) :
  ∃ (A:Option Xb) (k c:Nat) (l:List α),v=.slice A k c/\k<=c/\l.length=k/\Rd W W.heap.size size A k (l.flatMap d)/\∀ x∈l,∃ m,m<=Rows.uptoBulk y.1/\Q m x:=by
 rcases open_slice hT h with ⟨hc,_⟩|⟨a,f,cap,m,n',D,Pl,hc,_,X,_,hm,rfl,hi⟩
 ·obtain rfl:v=.slice B0 0 0:=by simpa using hc
  exact⟨B0,0,0,[],rfl,L1 _,rfl,Rd.none_ _ _ _ _,(fun p G=>by cases G)⟩
 ·obtain rfl:v=.slice (Bs a) f cap:=by simpa using hc
  have a3:f<=m:=by rw[hm];split <;> omega
  obtain⟨g,o,z⟩:=a;have a0:=QE ((Wu f).map D) ((Wu (m-f)).map fun j=>D (f+j));have I:∀ i,i<f->∃ x:α,((∃ b,b<=Rows.uptoBulk (DataW.slice ((Wu f).map D) ((Wu (m-f)).map fun j=>D (f+j)))/\Q b x)/\g<W.heap.size/\z=B0)/\∀ j u,(d x)[j]? = Bs u->W.cell? ⟨g,o+(i*size+j),B0⟩=Bs u:=fun i Y=>by
   obtain⟨a5,K,ht⟩:=hi i (by omega);rw[hC] at K;obtain⟨p,rfl,G⟩:=J _ _ _ ht;obtain⟨_,_,a2⟩:=World.cells?_some K;have t:∀ j u,(d p)[j]? = Bs u->W.cell? ⟨g,o+(i*size+j),B0⟩=Bs u/\g<W.heap.size:=fun j u O=>by
    have hj:j<size:=by rw[<- q p];exact(List.getElem?_eq_some_iff.1 O).1
    have N:=a2 j hj;rw[O,MP] at N;exact q6f N g o z rfl
   have a1:Rows.uptoBulk (D i)<=Rows.uptoBulkAll ((Wu f).map D):=TU (List.mem_map.2 ⟨i,List.mem_range.2 Y,rfl⟩);obtain⟨u0,S⟩:∃ u0,(d p)[0]? = Bs u0:=⟨_,K0 (by rw[q];exact BD)⟩
   have s:z=B0:=by
    obtain⟨a4,E,U⟩:=hi 0 (by omega);rw[hC] at E;obtain⟨p0,rfl,_⟩:=J _ _ _ U;obtain⟨_,_,M⟩:=World.cells?_some E;have N:=M 0 BD;obtain⟨u1,R⟩:∃ u1,(d p0)[0]? = Bs u1:=⟨_,K0 (by rw[q];exact BD)⟩
    rw[R] at N;exact q92 (w:=W) (g:=g) (o:=o) (v:=u1) (by simpa [Addr.add] using N)
   exact⟨p,⟨⟨Rows.uptoBulk (D i),VO a1 a0,G⟩,(t 0 _ S).2,s⟩,fun j u O=>(t j u O).1⟩
  obtain⟨l,C,V,L⟩:=Sf size d q _ g o f I;have Z:(l.flatMap d).length=f*size:=by
   rw[<- C];clear C V L;induction l with
   | nil=>simp
   | cons y r ih=>simp only[VI,VP,ih,WH,q,Nat.succ_mul];omega
  refine⟨Bs ⟨g,o,z⟩,f,cap,l,rfl,X,C,⟨Z,fun h0=>?_⟩,fun p G=>(V p G).1⟩;obtain⟨x,hx⟩:∃ x,x∈l:=by
   cases l with
   | nil=>simp at C;omega
   | cons x r=>exact⟨x,VL ..⟩
  obtain⟨_,hg,s⟩:=V x hx;subst s;exact⟨g,o,rfl,hg,L⟩
end
end
section
open Go.ChangeShapes Go.WideShapes Go.ChangeAt Go.RowKit Go.Deep
theorem own_knob:ownKnob Tryz.prog.godebug=B0:=by kernel_rfl
theorem h_size:Tryz.prog.types.size=259:=by kernel_rfl
theorem U4:Tryz.prog.globalNamed "chainmail/chainmailkeep.names" = Bs 0:=by kernel_rfl
theorem Ub:(Tryz.prog.globals[0]?).map (·.type)=Bs 39:=by kernel_rfl
def qcb:List (String×Yv Unit):=[("chainmail/chainmailkeep.names",Rows.laid_chainmail_chainmailkeep_names)]
theorem names_of {W:B1} (h:laidMetH Tryz.prog qcb W):∃ r o k,NmI W r o k:=by
 rw[MakeChecks.laidMetH_plain _ _ _ (by kernel_rfl)] at h;obtain⟨ps,⟨M,J,I,N,L,K,e,j,f,p,_,_⟩,_,_⟩:=h;obtain rfl:=Wj (U4.symm.trans e);obtain rfl:=Wj (Ub.symm.trans j);obtain⟨a,cap,t,D,m⟩:=open_row Tryz.underlying39 (by kernel_rfl) p;have b:W.cell? ⟨0,0,B0⟩=Bs (.slice (Bs a) 4 cap):=by
  have:=World.var?_cell e f 0;rw[Array.eq_one_of_toList t] at this;simpa using this
 have hs:∀ (i:Nat) (x:Sx),names[i]? = Bs x->W.cell? (a.add i)=Bs (.string ⟨x.toArray⟩):=fun i x c=>by
  have E:([.lit (.string [97]),.lit (.string [98]),.lit (.string [99]),.lit (.string [100])]:List (Yv Unit))[i]? = Bs (.lit (.string x)):=by
   have d:=(List.getElem?_eq_some_iff.1 c).1;have d:i<4:=d;rcases(by omega:i=0\/i=1\/i=2\/i=3) with rfl|rfl|rfl|rfl <;> (simp[names] at c;subst c;rfl)
  obtain⟨v,n,q,G,C⟩:=m i _ E;obtain⟨s,u,e1,_⟩:=DataW.trod_string Tryz.underlying9 C;simp only[Prod.mk.injEq,DataW.lit.injEq,Lit.string.injEq] at e1;have u:v=.string s:=by simpa using u
  rw[G,u];congr 2;rw[e1.1]
 obtain⟨g,o,z⟩:=a;have y:=hs 0 [97] rfl;have l:z=B0:=q92 (w:=W) (g:=g) (o:=o) (by simpa [Addr.add] using y);subst l;refine⟨g,o,cap,b,fun q x c=>(q6f (hs q x c) g o B0 rfl).1,V0 W _ b,(q6f y g o B0 rfl).2⟩
theorem door_met (a:Os) (args:Array Hi):laidMetH Tryz.prog qcb ((World.doorLaid Tryz.prog 400 a).forCall (fun _ _=>0) ⟨#[],args,[]⟩).memory:=
 laidMetH_of_parts3 (fuel:=8) (laidMet_of_run' 8 (by kernel_rfl) (by kernel_rfl)) (by kernel_rfl) (by kernel_rfl)
end
end Go.Proofs.YtccahlhdifadfaaGreatDoor
