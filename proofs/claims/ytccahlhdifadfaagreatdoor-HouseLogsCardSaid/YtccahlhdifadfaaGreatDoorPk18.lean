/- Part 19 of the texts that the claim rests on (of 19): Row, Gen, Handle3. -/
import Derived.Test.YtccahlhdifadfaaGreatDoorPk17
import Derived.Below
import Derived.ChangeSame
import Derived.Test.YtccahlhdifadfaaGreatDoorRows
import Derived.WalkKit
import Derived.ProofKit
import Derived.OpenShut
import Derived.Carry
import Derived.Deep.Slices
import Derived.Deep.DeepHandedRow
import Derived.LaidMore
import Derived.LaidLaws
import Derived.LaidHandle
import Derived.MakeChecks
import Derived.Stop.Joined
namespace Go.Proofs.YtccahlhdifadfaaGreatDoor
open Go.RowKit
set_option maxRecDepth 100000
set_option maxHeartbeats 16000000
section
open Go.RowKit Go.WideShapes Go.ChangeShapes
section
variable {H:Type} {enc:TypeId×Value→H} {P:Program}
theorem q9s {f:Func} {s:ChangeSpec} {apart fresh handsOn again:Bool} {W W':World} {args:Array Value} {v:Value} {ds gs:List (DataW H)} {before pa pv:List MemPlace}
  (hW:DataW.Whole enc P f.params.toList s.vars apart W args.toList ds gs before)
  (hres:∀ (b:Nat) (sp:Nat→Bool) (hd:Bool),DataW.TrodAll enc P W' b sp hd f.resultTypes.toList (v.resultList f.resultTypes.size) (s.fn H (ds++gs)).results [])
  (hargs:∀ sp:Nat→Bool,(∀ p∈before,sp p.block=true)→DataW.TrodAll enc P W' 0 sp true f.params.toList args.toList (s.fn H (ds++gs)).args pa)
  (hvars:∀ sp:Nat→Bool,(∀ p∈before,sp p.block=true)→DataW.TrodVars enc P W' sp s.vars (s.fn H (ds++gs)).vars pv)
  (hps:before=pa++pv) (hb:Below W.heap.size W W')
  (hok:∀ (j:Nat) (t:TypeId) (r:Value),f.resultTypes[j]? = some t→(v.resultList f.resultTypes.size)[j]? = some r→Value.okWide P W' .any 0 t r) :
  s.post enc P f apart fresh handsOn again W args v W':=by
 have hlt:∀ p∈before,p.block<W.heap.size:=fun p hp=>hW.lt p hp
 have hold:∀ p∈before,(fun b=>decide (b<W.heap.size)) p.block=true:=fun p hp=>by simpa using hlt p hp
 refine⟨ds,gs,before,[],pa,pv,hW,hres _ _ _,hargs _ hold,hvars _ hold,World.keptBut_mono (fun p hp=>⟨hp,?_⟩) (hb.frame (·∈before)),fun _=>?_⟩
 ·rw[hps,List.mem_append] at hp
  exact Or.inr hp
 ·obtain⟨_,_,_,_,_,hz,hn⟩:=hW
  refine⟨hok,_,_,([]++pa)++pv,⟨[]++pa,pv,trodAll_append (hargs _ (fun _ _=>rfl)) (hres _ _ _),hvars _ (fun _ _=>rfl),rfl,?_,?_⟩,?_⟩
  ·intro b off hp
   have hin:MemPlace.cell b off∈before:=by rw[hps];simpa using hp
   rw[hb.frozen (hlt _ hin)]
   exact hz b off hin
  ·intro ha
   have:=hn ha
   rw[hps] at this
   simpa using this
  ·intro p hp _
   rw[hps]
   simpa using hp
end
end
section
open Go.ChangeShapes Go.WideShapes Go.ChangeAt Go.RowKit Go.Deep
section
variable {H:Type} {enc:TypeId×Value→H} {P:Program}
theorem q4z (hl:laidOutB P=true) {W W':World} {sp:Nat→Bool} : ∀ (ts:List TypeId) (vs:List Value) (ds:List (DataW H)) (ps:List MemPlace),(∀ t∈ts,P.readableRec t=true∧t<P.types.size)→
  DataW.TrodAll enc P W 0 (fun _=>true) true ts vs ds ps→(∀ p∈ps,W.sameAt W' p)→(∀ p∈ps,sp p.block=true)→DataW.TrodAll enc P W' 0 sp true ts vs ds ps
 | [],vs,ds,ps,_,h,_,_=>by
  cases vs <;> cases ds <;> simp_all [DataW.TrodAll]
 | t::ts,[],ds,ps,_,h,_,_=>by simp[DataW.TrodAll] at h
 | t::ts,v::vs,[],ps,_,h,_,_=>by simp[DataW.TrodAll] at h
 | t::ts,v::vs,d::ds,ps,hr,h,hsame,hs=>by
  obtain⟨p,q,h1,h2,rfl⟩:=h
  obtain⟨r1,r2⟩:=hr t (List.mem_cons_self ..)
  exact⟨p,q,WideElems.Trod_stays hl r1 r2 h1 (fun x hx=>hsame x (List.mem_append_left _ hx)) (fun x hx=>hs x (List.mem_append_left _ hx)),
   q4z hl ts vs ds q (fun t ht=>hr t (List.mem_cons_of_mem _ ht)) h2 (fun x hx=>hsame x (List.mem_append_right _ hx)) (fun x hx=>hs x (List.mem_append_right _ hx)),rfl⟩
theorem close_law {f:Func} {s:ChangeSpec} {apart fresh handsOn again:Bool} {W W':World} {args:Array Value} {ds gs:List (DataW H)} {before:List MemPlace} {tb:TypeId}
  (hl:laidOutB P=true) (hp:∀ t∈f.params.toList,P.readableRec t=true∧t<P.types.size) (hrt:f.resultTypes=#[tb]) (hub:P.underlying tb=some .bool) (hvs:s.vars=[])
  (hW:DataW.Whole enc P f.params.toList s.vars apart W args.toList ds gs before) (hspec:s.fn H (ds++gs) = { results:=[.lit (.bool true)],args:=ds }) (hb:Below W.heap.size W W') :
  s.post enc P f apart fresh handsOn again W args (.bool true) W':=by
 have hW':=hW
 obtain⟨p,q,hA,hV,rfl,hfz,hnd⟩:=hW
 rw[hvs] at hV
 obtain⟨rfl,rfl⟩:=trodVars_none hV
 simp only[List.append_nil] at hW' hspec
 have hlt:∀ x∈p,x.block<W.heap.size:=fun x hx=>hW'.lt x hx
 refine q9s (pa:=p) (pv:=[]) hW' (fun _ _ _=>?_) (fun sp hsp=>?_) (fun _ _=>?_) (by simp) hb (ok_one hrt rfl (okWide_bool_mk hub _))
 ·rw[hrt]
  simp only[List.append_nil,hspec]
  exact trodAll_cons_mk (shut_bool hub _) trodAll_mk0
 ·simp only[List.append_nil,hspec]
  exact q4z hl _ _ _ _ hp hA (fun x hx=>hb.same (hlt x hx)) hsp
 ·rw[hvs]
  simp only[List.append_nil,hspec]
  rfl
end
theorem up_part {H:Type} {d:DataW H} {l:List (DataW H)} (h:d∈l):Rows.uptoBulk d≤Rows.uptoBulkAll l:=by
 induction l with
 | nil=>cases h
 | cons x r ih=>
  simp only[Rows.uptoBulkAll]
  rcases List.mem_cons.1 h with e|e
  ·subst e;omega
  ·have:=ih e;omega
theorem up_slice {H:Type} (l r:List (DataW H)):Rows.uptoBulkAll l≤Rows.uptoBulk (DataW.slice l r):=by simp only[Rows.uptoBulk];omega
theorem q7a {w:World} {g o:Nat} {sp:Option Nat} {v:Value} (h:w.cell? ⟨g,o,sp⟩=some v):sp=none:=by
 rcases sp with _|sp
 ·rfl
 ·unfold World.cell? at h
  split at h
  ·simp at h
  ·cases h
theorem q4v {w:World} {a:Addr} {k:Nat} {v:Value} (h:w.cell? (a.add k)=some v) (g o:Nat) (sp:Option Nat) (ha:a=⟨g,o,sp⟩):w.cell? ⟨g,o+k,none⟩=some v∧g<w.heap.size:=by
 subst ha
 have hb:=World.block_lt_of_cell? w _ h
 rw[block_of_add] at hb
 refine⟨?_,hb⟩
 unfold Addr.add at h
 split at h
 ·rename_i hk
  subst hk
  have:=q7a h
  subst this
  exact h
 ·exact h
section
variable {H:Type} {enc:TypeId×Value→H} {W:World}
theorem gather {α:Type} (size:Nat) (enc1:α→List Value) (hsz:∀ x,(enc1 x).length=size) (Q:α→Prop) (g o:Nat):∀ m:Nat,(∀ i,i<m→∃ x,Q x∧∀ j u,(enc1 x)[j]? = some u→W.cell? ⟨g,o+(i*size+j),none⟩=some u)→
  ∃ l:List α,l.length=m∧(∀ x∈l,Q x)∧∀ j u,(l.flatMap enc1)[j]? = some u→W.cell? ⟨g,o+j,none⟩=some u
 | 0,_=>⟨[],rfl,(fun x hx=>by cases hx),(fun j u hu=>by simp at hu)⟩
 | m+1,h=>by
  obtain⟨l,hl,hq,hc⟩:=gather size enc1 hsz Q g o m (fun i hi=>h i (by omega))
  obtain⟨x,hx,hcx⟩:=h m (by omega)
  have hfl:(l.flatMap enc1).length=m*size:=by
   rw[← hl]
   clear hl hq hc
   induction l with
   | nil=>simp
   | cons y r ih=>simp only[List.flatMap_cons,List.length_append,hsz,ih,List.length_cons,Nat.succ_mul];omega
  refine⟨l++[x],by simp[hl],fun y hy=>?_,fun j u hu=>?_⟩
  ·rcases List.mem_append.1 hy with hy|hy
   ·exact hq y hy
   ·rw[List.mem_singleton.1 hy];exact hx
  ·rw[List.flatMap_append] at hu
   rcases Nat.lt_or_ge j (l.flatMap enc1).length with hj|hj
   ·rw[List.getElem?_append_left hj] at hu
    exact hc j u hu
   ·rw[List.getElem?_append_right hj] at hu
    have:=hcx (j-m*size) u (by rw[← hfl];simpa using hu)
    rw[hfl] at hj
    have e:m*size+(j-m*size)=j:=by omega
    rwa [e] at this
theorem open_gen {α:Type} {P:Program} {T e:TypeId} (hT:P.underlying T=some (.slice e)) (size:Nat) (hC:P.cellsOf e=size) (hs0:0<size) (enc1:α→List Value) (hsz:∀ x,(enc1 x).length=size) (Q:Nat→α→Prop) {sp:Nat→Bool}
  (hel:∀ (n:Nat) (cs:List Value) (y:DataW H×List MemPlace),DataW.trod enc P W 0 sp true n e cs=some y→∃ x,cs=enc1 x∧Q (Rows.uptoBulk y.1) x)
  {n:Nat} {v:Value} {y:DataW H×List MemPlace} (h:DataW.trod enc P W 0 sp true n T [v]=some y) :
  ∃ (A:Option Addr) (k c:Nat) (l:List α),v=.slice A k c∧k≤c∧l.length=k∧Rd W W.heap.size size A k (l.flatMap enc1)∧∀ x∈l,∃ m,m≤Rows.uptoBulk y.1∧Q m x:=by
 rcases open_slice hT h with ⟨hc,_⟩|⟨a,len,cap,m,n',D,Pl,hc,_,hlc,_,hm,rfl,hi⟩
 ·obtain rfl:v=.slice none 0 0:=by simpa using hc
  exact⟨none,0,0,[],rfl,Nat.le_refl _,rfl,Rd.none_ _ _ _ _,(fun p hp=>by cases hp)⟩
 ·obtain rfl:v=.slice (some a) len cap:=by simpa using hc
  have hlm:len≤m:=by rw[hm];split <;> omega
  obtain⟨g,o,spt⟩:=a
  have hb2:=up_slice ((List.range len).map D) ((List.range (m-len)).map fun j=>D (len+j))
  have hel2:∀ i,i<len→∃ x:α,((∃ b,b≤Rows.uptoBulk (DataW.slice ((List.range len).map D) ((List.range (m-len)).map fun j=>D (len+j)))∧Q b x)∧g<W.heap.size∧spt=none)∧∀ j u,(enc1 x)[j]? = some u→W.cell? ⟨g,o+(i*size+j),none⟩=some u:=fun i hil=>by
   obtain⟨cs',hcs,ht⟩:=hi i (by omega)
   rw[hC] at hcs
   obtain⟨p,rfl,hp⟩:=hel _ _ _ ht
   obtain⟨_,_,hat⟩:=World.cells?_some hcs
   have hcell:∀ j u,(enc1 p)[j]? = some u→W.cell? ⟨g,o+(i*size+j),none⟩=some u∧g<W.heap.size:=fun j u hu=>by
    have hj:j<size:=by rw[← hsz p];exact(List.getElem?_eq_some_iff.1 hu).1
    have h1:=hat j hj
    rw[hu,add_of_add] at h1
    exact q4v h1 g o spt rfl
   have hb1:Rows.uptoBulk (D i)≤Rows.uptoBulkAll ((List.range len).map D):=up_part (List.mem_map.2 ⟨i,List.mem_range.2 hil,rfl⟩)
   obtain⟨u0,hu0⟩:∃ u0,(enc1 p)[0]? = some u0:=⟨_,List.getElem?_eq_getElem (by rw[hsz];exact hs0)⟩
   have hspt:spt=none:=by
    obtain⟨cs0,hcs0,ht0⟩:=hi 0 (by omega)
    rw[hC] at hcs0
    obtain⟨p0,rfl,_⟩:=hel _ _ _ ht0
    obtain⟨_,_,hat0⟩:=World.cells?_some hcs0
    have h1:=hat0 0 hs0
    obtain⟨u1,hu1⟩:∃ u1,(enc1 p0)[0]? = some u1:=⟨_,List.getElem?_eq_getElem (by rw[hsz];exact hs0)⟩
    rw[hu1] at h1
    exact q7a (w:=W) (g:=g) (o:=o) (v:=u1) (by simpa [Addr.add] using h1)
   exact⟨p,⟨⟨Rows.uptoBulk (D i),Nat.le_trans hb1 hb2,hp⟩,(hcell 0 _ hu0).2,hspt⟩,fun j u hu=>(hcell j u hu).1⟩
  obtain⟨l,hll,hq,hcl⟩:=gather size enc1 hsz _ g o len hel2
  have hfl:(l.flatMap enc1).length=len*size:=by
   rw[← hll]
   clear hll hq hcl
   induction l with
   | nil=>simp
   | cons y r ih=>simp only[List.flatMap_cons,List.length_append,ih,List.length_cons,hsz,Nat.succ_mul];omega
  refine⟨some ⟨g,o,spt⟩,len,cap,l,rfl,hlc,hll,⟨hfl,fun h0=>?_⟩,fun p hp=>(hq p hp).1⟩
  obtain⟨x,hx⟩:∃ x,x∈l:=by
   cases l with
   | nil=>simp at hll;omega
   | cons x r=>exact⟨x,List.mem_cons_self ..⟩
  obtain⟨_,hg,hspt⟩:=hq x hx
  subst hspt
  exact⟨g,o,rfl,hg,hcl⟩
end
end
section
open Go.ChangeShapes Go.WideShapes Go.ChangeAt Go.RowKit Go.Deep
theorem own_knob:ownKnob Tryz.prog.godebug=none:=by kernel_rfl
theorem h_size:Tryz.prog.types.size=259:=by kernel_rfl
theorem g_names:Tryz.prog.globalNamed "chainmail/chainmailkeep.names" = some 0:=by kernel_rfl
theorem t_names:(Tryz.prog.globals[0]?).map (·.type)=some 39:=by kernel_rfl
def q9v:List (String×DataW Unit):=[("chainmail/chainmailkeep.names",Rows.laid_chainmail_chainmailkeep_names)]
theorem names_of {W:World} (h:laidMetH Tryz.prog q9v W):∃ r o k,NmI W r o k:=by
 rw[MakeChecks.laidMetH_plain _ _ _ (by kernel_rfl)] at h
 obtain⟨ps,⟨g0,t0,cs0,f0,p0,q0,hg0,ht0,hv0,hd0,_,_⟩,_,_⟩:=h
 obtain rfl:=Option.some.inj (g_names.symm.trans hg0)
 obtain rfl:=Option.some.inj (t_names.symm.trans ht0)
 obtain⟨a,cap,hcs,hle,hel⟩:=open_row Tryz.underlying39 (by kernel_rfl) hd0
 have hcell:W.cell? ⟨0,0,none⟩=some (.slice (some a) 4 cap):=by
  have:=World.var?_cell hg0 hv0 0
  rw[Array.eq_one_of_toList hcs] at this
  simpa using this
 have hs:∀ (i:Nat) (x:Sx),names[i]? = some x→W.cell? (a.add i)=some (.string ⟨x.toArray⟩):=fun i x hx=>by
  have hd:([.lit (.string [97]),.lit (.string [98]),.lit (.string [99]),.lit (.string [100])]:List (DataW Unit))[i]? = some (.lit (.string x)):=by
   have hlt:=(List.getElem?_eq_some_iff.1 hx).1
   have hlt:i<4:=hlt
   rcases(by omega:i=0∨i=1∨i=2∨i=3) with rfl|rfl|rfl|rfl <;> (simp[names] at hx;subst hx;rfl)
  obtain⟨v,n,q,hc,ht⟩:=hel i _ hd
  obtain⟨s,e0,e1,_⟩:=DataW.trod_string Tryz.underlying9 ht
  simp only[Prod.mk.injEq,DataW.lit.injEq,Lit.string.injEq] at e1
  have e0:v=.string s:=by simpa using e0
  rw[hc,e0]
  congr 2
  rw[e1.1]
 obtain⟨g,o,sp⟩:=a
 have h0:=hs 0 [97] rfl
 have hsp:sp=none:=q7a (w:=W) (g:=g) (o:=o) (by simpa [Addr.add] using h0)
 subst hsp
 refine⟨g,o,cap,hcell,fun q x hx=>(q4v (hs q x hx) g o none rfl).1,World.block_lt_of_cell? W _ hcell,(q4v h0 g o none rfl).2⟩
theorem door_met (os:Os) (args:Array Value):laidMetH Tryz.prog q9v ((World.doorLaid Tryz.prog 400 os).forCall (fun _ _=>0) ⟨#[],args,[]⟩).memory:=
 laidMetH_of_parts3 (fuel:=8) (laidMet_of_run' 8 (by kernel_rfl) (by kernel_rfl)) (by kernel_rfl) (by kernel_rfl)
end
end Go.Proofs.YtccahlhdifadfaaGreatDoor
