/- Part 2 of the texts that the claim rests on (of 19): HeldN, HeldD, HeldW, ChP, Net1, RowOps, Net2, Net3, Ch1. -/
import Derived.Test.YtccahlhdifadfaaGreatDoorPk00
import Derived.IntWalk
import Derived.Lib.SliceRun
import Derived.Laws.ResultCell
import Derived.Deep.DeepCutAuto
import Derived.StillTailTactics
import Derived.Laws.Rows
namespace Go.Proofs.YtccahlhdifadfaaGreatDoor
open Go.RowKit
set_option maxRecDepth 100000
set_option maxHeartbeats 16000000
section
variable {P:Program} {ops:Array Oper} {Q:Exit→Act→World→Prop} {md:Region.Mode} {N:Nat} {C:World→Prop}
def q0l (P:Program) (md:Region.Mode) (ops:Array Oper) (Q:Exit→Act→World→Prop) (N:Nat) (C:World→Prop):Nat→Array Bool→Act→World→Prop
 | 0,listed,a,w=>Region.ready md ops listed=[]∧Q .normal a w
 | fuel+1,listed,a,w=>
  (Region.ready md ops listed=[]→Q .normal a w)∧
  ∀ i∈Region.ready md ops listed,wpOp P ops Q i (fun a' w'=>(i<N→C w')∧q0l P md ops Q N C fuel (listed.setIfInBounds i true) a' w') a w
theorem q8k:∀ (fuel:Nat) (listed:Array Bool) (a:Act) (w:World),q0l P md ops Q N C fuel listed a w→wpAny P md ops Q fuel listed a w
 | 0,_,_,_,h=>h
 | fuel+1,_,_,_,h=>⟨h.1,fun i hi=>wpOp_mono (fun a' w' h'=>q8k fuel _ a' w' h'.2) (h.2 i hi)⟩
def lateB (md:Region.Mode) (ops:Array Oper) (listed:Array Bool) (i N:Nat):Bool:=
 (List.range ops.size).all fun j=>j == i || listed.getD j true || decide (j<N) || (match ops[j]? with|some o=>o.after.any fun e=>Region.binds md e && e.on == i|none=>true)
theorem q95 {listed:Array Bool} {i:Nat} (h:lateB md ops listed i N=true):∀ j oj,ops[j]? = some oj→j≠i→listed.getD j true=false→(∀ e∈oj.after,Region.binds md e=true→e.on≠i)→j<N:=fun j oj hj hji hl hno=>by
 have hlt:j<ops.size:=(Array.getElem?_eq_some_iff.1 hj).1
 have h1:=List.all_eq_true.1 h j (List.mem_range.2 hlt)
 rw[hj] at h1
 simp only[Bool.or_eq_true,beq_iff_eq,decide_eq_true_eq] at h1
 rcases h1 with ((h1|h1)|h1)|h1
 ·exact absurd h1 hji
 ·rw[hl] at h1;cases h1
 ·exact h1
 ·obtain⟨e,he,h2⟩:=Array.any_eq_true'.1 h1
  simp only[Bool.and_eq_true,beq_iff_eq] at h2
  exact absurd h2.2 (hno e he h2.1)
theorem q6e {i:Nat} {oi:Oper} {v:Value} (hi:ops[i]? = some oi) (hsel:∀ (j:Nat) (o:Oper) cs b,ops[j]? = some o→o.op≠.select cs b)
  (hQ:∀ c a w,Q (.panic c) (a.put oi.dst v) w→Q (.panic c) a w) :
  ∀ (fuel:Nat) (listed:Array Bool) (a:Act) (w:World),
   (∀ j oj,ops[j]? = some oj→j≠i→listed.getD j true=false→(∀ e∈oj.after,Region.binds md e=true→e.on≠i)→oi.apart ops oj=true∧j<N)→
   i∈Region.ready md ops listed→YieldsIf P ops C oi v a→C w→
   q0l P md ops Q N C fuel (listed.setIfInBounds i true) (a.put oi.dst v) w→q0l P md ops Q N C (fuel+1) listed a w:=by
 intro fuel
 induction fuel with
 | zero=>
  intro listed a w _ hr hy hS H
  refine⟨fun h=>(by rw[h] at hr;cases hr),fun j hj=>?_⟩
  by_cases hji:j=i
  ·subst hji;exact hy.wpOp hi hS ⟨fun _=>hS,H⟩
  ·have:=ready_mono hj hji
   rw[H.1] at this
   cases this
 | succ fuel ih=>
  intro listed a w hfree hr hy hS H
  refine⟨fun h=>(by rw[h] at hr;cases hr),fun j hj=>?_⟩
  by_cases hji:j=i
  ·subst hji;exact hy.wpOp hi hS ⟨fun _=>hS,H⟩
  ·have h1:=H.2 j (ready_mono hj hji)
   obtain⟨hjun,oj,hoj,hall⟩:=mem_ready.1 hj
   have hnot:∀ e∈oj.after,Region.binds md e=true→e.on≠i:=fun e he hb heq=>by
    have h1:=hall e he hb
    have h0:=(mem_ready.1 hr).1
    rw[heq] at h1
    rcases Nat.lt_or_ge i listed.size with h'|h'
    ·simp[h'] at h0 h1;rw[h0] at h1;cases h1
    ·simp[Array.getElem?_eq_none h'] at h1
   obtain⟨hap,hjN⟩:=hfree j oj hoj hji hjun hnot
   have h2:=wpOp_putIf hoj hap (fun cs b=>hsel i oi cs b hi) (fun cs b=>hsel j oj cs b hoj) hQ hy h1
   have hfree':∀ k ok,ops[k]? = some ok→k≠i→(listed.setIfInBounds j true).getD k true=false→
     (∀ e∈ok.after,Region.binds md e=true→e.on≠i)→oi.apart ops ok=true∧k<N:=fun k ok hk hki hun hno=>by
    refine hfree k ok hk hki ?_ hno
    by_cases hjk:j=k
    ·subst hjk;exact hjun
    ·rw[getD_set_ne true hjk] at hun;exact hun
   refine wpOp_mono (fun a' w' h3=>⟨h3.2.1,ih (listed.setIfInBounds j true) a' w' hfree' (ready_mono hr (Ne.symm hji)) h3.1 (h3.2.1 hjN) ?_⟩) h2
   rw[Array.setIfInBounds_comm _ _ hji]
   exact h3.2.2
theorem ntake (i:Nat) {oi:Oper} {v:Value} {fuel:Nat} {listed:Array Bool} {a:Act} {w:World} (hi:ops[i]? = some oi)
  (hs:Region.noSelect ops=true) (hf:Region.free md ops listed i=true) (hl:lateB md ops listed i N=true) (hr:(Region.ready md ops listed).contains i=true)
  (hQ:∀ c a w,Q (.panic c) (a.put oi.dst v) w→Q (.panic c) a w) (hw:Region.wanted oi (yielded ops a.tmps)=true) (hC:C w)
  (hy:∀ w,C w→(execOp a.eval oi).run P w=.ok (.value v) w)
  (h:q0l P md ops Q N C fuel (listed.setIfInBounds i true) (a.put oi.dst v) w):q0l P md ops Q N C (fuel+1) listed a w:=
 q6e hi (Region.noSelect_spec hs) hQ fuel listed a w (fun j oj hj hji hjl hno=>⟨Region.free_spec hi hf j oj hj hji hjl hno,q95 hl j oj hj hji hjl hno⟩) (by simpa using hr) (.inl ⟨hw,hy⟩) hC h
theorem nskip (i:Nat) {oi:Oper} {fuel:Nat} {listed:Array Bool} {a:Act} {w:World} (hi:ops[i]? = some oi)
  (hs:Region.noSelect ops=true) (hf:Region.free md ops listed i=true) (hl:lateB md ops listed i N=true) (hr:(Region.ready md ops listed).contains i=true)
  (hQ:∀ c a w,Q (.panic c) (a.put oi.dst undef) w→Q (.panic c) a w) (hw:Region.wanted oi (yielded ops a.tmps)=false) (hC:C w)
  (h:q0l P md ops Q N C fuel (listed.setIfInBounds i true) (a.put oi.dst undef) w):q0l P md ops Q N C (fuel+1) listed a w:=
 q6e hi (Region.noSelect_spec hs) hQ fuel listed a w (fun j oj hj hji hjl hno=>⟨Region.free_spec hi hf j oj hj hji hjl hno,q95 hl j oj hj hji hjl hno⟩) (by simpa using hr) (.inr ⟨hw,rfl⟩) hC h
theorem nonly (i:Nat) {o:Oper} {fuel:Nat} {listed:Array Bool} {a:Act} {w:World} (hr:Region.ready md ops listed=[i]) (ho:ops[i]? = some o)
  (hw:Region.wanted o (yielded ops a.tmps)=true) (h:∀ K':Act→World→Prop,(∀ a w,(i<N→C w)→q0l P md ops Q N C fuel (listed.setIfInBounds i true) a w→K' a w)→Oper.wp P o a w K' Q):q0l P md ops Q N C (fuel+1) listed a w:=
 ⟨(fun h0=>by rw[hr] at h0;cases h0),fun j hj=>by
  rw[hr] at hj
  obtain rfl:j=i:=by simpa using hj
  exact wpOp_step ho (fun K' hK=>by rw[if_pos hw];exact h K' (fun a w hs ha=>hK a w ⟨hs,ha⟩))⟩
theorem ndone {listed:Array Bool} {a:Act} {w:World} (hr:Region.ready md ops listed=[]) (h:Q .normal a w):∀ fuel,q0l P md ops Q N C fuel listed a w
 | 0=>⟨hr,h⟩
 | _+1=>⟨fun _=>h,by rw[hr];simp⟩
theorem q4i {fuel:Nat} {listed:Array Bool} {a:Act} {w:World} (C:World→Prop) (N:Nat) (h:q0l P md ops Q N C fuel listed a w):wpAny P md ops Q fuel listed a w:=q8k fuel listed a w h
end
section
variable {P:Program} {ops:Array Oper} {Q:Exit→Act→World→Prop} {md:Region.Mode} {N:Nat} {C:World→Prop}
theorem nC (i:Nat) {oi:Oper} {v:Value} {fuel:Nat} {listed:Array Bool} {a:Act} {w:World} (hi:ops[i]? = some oi)
  (hQ:∀ c a w,Q (.panic c) (a.put oi.dst v) w→Q (.panic c) a w) (hC:C w) (hy:∀ w,C w→(execOp a.eval oi).run P w=.ok (.value v) w)
  (h:q0l P md ops Q N C fuel (listed.setIfInBounds i true) (a.put oi.dst v) w)
  (hs:Region.noSelect ops=true:=by kernel_rfl) (hf:Region.free md ops listed i=true:=by kernel_rfl) (hl:lateB md ops listed i N=true:=by kernel_rfl) (hr:(Region.ready md ops listed).contains i=true:=by kernel_rfl)
  (hw:Region.wanted oi (yielded ops a.tmps)=true:=by kernel_rfl):q0l P md ops Q N C (fuel+1) listed a w:=ntake i hi hs hf hl hr hQ hw hC hy h
theorem nO (i:Nat) {o:Oper} {fuel:Nat} {listed:Array Bool} {a:Act} {w:World} (ho:ops[i]? = some o)
  (h:∀ K':Act→World→Prop,(∀ a w,(i<N→C w)→q0l P md ops Q N C fuel (listed.setIfInBounds i true) a w→K' a w)→Oper.wp P o a w K' Q) (hr:Region.ready md ops listed=[i]:=by kernel_rfl) (hw:Region.wanted o (yielded ops a.tmps)=true:=by kernel_rfl) :
  q0l P md ops Q N C (fuel+1) listed a w:=nonly i hr ho hw h
end
theorem q0e {P:Program} {md:Region.Mode} {ops:Array Oper} {Q:Exit→Act→World→Prop} {fuel:Nat} {listed:Array Bool} {a:Act} {w:World} (C:World→Prop) (N:Nat) (hQ:∀ c a (d:Nat) (v:Value) w,Q (.panic c) (Act.put a (some d) v) w→Q (.panic c) a w)
  (h:(∀ c a (d:Nat) (v:Value) w,Q (.panic c) (Act.put a (some d) v) w→Q (.panic c) a w)→q0l P md ops Q N C fuel listed a w):wpAny P md ops Q fuel listed a w:=q4i C N (h hQ)
theorem q1g {P:Program} (w:World) (H:Nat) (hH:w.heap.size=H) (o1:Obj) {o:Oper} {a:Act} {K:Act→World→Prop} {Q:Exit→Act→World→Prop} (s x:Operand) (t:TypeId)
  (ho:o.op=.call { callee:=.builtin .append,args:=#[s,x],argTypes:=#[t,t] })
  (base:Nat) (e:TypeId) (z:Value) (size bytes:Nat) (ht:P.underlying t=some (.slice e)) (hi:(P.info? e).map (fun i=>(i.zero,i.size,i.bytes))=some (some z,size,bytes)) (hzs:z.cells.size=size) (hs0:0<size)
  (v:Value) (n:Nat) (xs:List Value) (ys:Array Value) (hs:a.eval s=v) (hown:w.ownsRow base e size v n xs)
  (c:Nat) (hx:a.eval x=.slice (some ⟨H,0,none⟩) 1 c) (e1:TypeId) (hon:o1=.cells ys e1) (hys:ys.size=size) (h1:∀ u∈ys.toList,u.oneCell'=true)
  (h63:n+1≤maxLen) (hbytes:(n+1)*bytes≤140737488355328) (hbase:base≤w.heap.size)
  (h:∀ v' w',w'.ownsRow base e size v' (n+1) (xs++ys.toList)→Moved w w' v.ownBlock v'.ownBlock→K (a.put o.dst v') w') :
  o.wp P a (w.alloc o1) K Q:=by
 obtain⟨i,hi,hz,hsize,hby⟩:=info_parts hi
 subst hon hH
 have hr:Reads (w.alloc (.cells ys e1)) (w.heap.size+1) size (some ⟨w.heap.size,0,none⟩) 1 ys.toList:=(Rd.lit w ys e1 1 size (by omega)).reads
 exact q4x _ s x t ho base e i z size bytes ht hi hz hsize hby hzs hs0 v n xs hs (hown.alloc _) (w.heap.size+1) _ 1 c ys.toList hx hr h1 h63 hbytes (by simp;omega)
  fun v' w' hown' hg hat=>h v' w' hown' ((Moved.alloc w _ _).trans (Moved.of_append hg hat))
section
variable {P:Program} {ops:Array Oper} {Q:Exit→Act→World→Prop} {md:Region.Mode} {N:Nat} {C:World→Prop}
def qa5 (md:Region.Mode) (ops:Array Oper) (listed:Array Bool) (i:Nat) (D:List Nat):Bool:=
 D.all fun k=>!(k == i) && (listed.getD k true == false) && (match ops[k]? with|some o=>o.after.any fun e=>Region.binds md e && (e.on == i || D.contains e.on)|none=>false)
def lateD (md:Region.Mode) (ops:Array Oper) (listed:Array Bool) (i N:Nat) (D:List Nat):Bool:=
 (List.range ops.size).all fun j=>j == i || listed.getD j true || decide (j<N) || D.contains j || (match ops[j]? with|some o=>o.after.any fun e=>Region.binds md e && e.on == i|none=>true)
theorem lateD_spec {listed:Array Bool} {i:Nat} {D:List Nat} (h:lateD md ops listed i N D=true):∀ j oj,ops[j]? = some oj→j≠i→listed.getD j true=false→(∀ e∈oj.after,Region.binds md e=true→e.on≠i)→j ∉ D→j<N:=fun j oj hj hji hl hno hD=>by
 have hlt:j<ops.size:=(Array.getElem?_eq_some_iff.1 hj).1
 have h1:=List.all_eq_true.1 h j (List.mem_range.2 hlt)
 rw[hj] at h1
 simp only[Bool.or_eq_true,beq_iff_eq,decide_eq_true_eq] at h1
 rcases h1 with (((h1|h1)|h1)|h1)|h1
 ·exact absurd h1 hji
 ·rw[hl] at h1;cases h1
 ·exact h1
 ·exact absurd (by simpa using h1) hD
 ·obtain⟨e,he,h2⟩:=Array.any_eq_true'.1 h1
  simp only[Bool.and_eq_true,beq_iff_eq] at h2
  exact absurd h2.2 (hno e he h2.1)
theorem q4u {listed:Array Bool} {i:Nat} {D:List Nat} (h:qa5 md ops listed i D=true):∀ k∈D,k≠i∧listed.getD k true=false∧∃ o,ops[k]? = some o∧∃ e∈o.after,Region.binds md e=true∧(e.on=i∨e.on∈D):=fun k hk=>by
 have h1:=List.all_eq_true.1 h k hk
 simp only[Bool.and_eq_true,beq_iff_eq,Bool.not_eq_true',beq_eq_false_iff_ne] at h1
 obtain⟨⟨h2,h3⟩,h4⟩:=h1
 refine⟨h2,h3,?_⟩
 split at h4
 ·rename_i o ho
  obtain⟨e,he,h5⟩:=Array.any_eq_true'.1 h4
  simp only[Bool.and_eq_true,Bool.or_eq_true,beq_iff_eq] at h5
  exact⟨o,ho,e,he,h5.1,h5.2.imp id (fun h=>by simpa using h)⟩
 ·cases h4
theorem q9h {i:Nat} {oi:Oper} {v:Value} (D:List Nat) (hi:ops[i]? = some oi) (hsel:∀ (j:Nat) (o:Oper) cs b,ops[j]? = some o→o.op≠.select cs b)
  (hQ:∀ c a w,Q (.panic c) (a.put oi.dst v) w→Q (.panic c) a w) (hDd:∀ k∈D,∃ o,ops[k]? = some o∧∃ e∈o.after,Region.binds md e=true∧(e.on=i∨e.on∈D)) :
  ∀ (fuel:Nat) (listed:Array Bool) (a:Act) (w:World),
   (∀ j oj,ops[j]? = some oj→j≠i→listed.getD j true=false→(∀ e∈oj.after,Region.binds md e=true→e.on≠i)→oi.apart ops oj=true∧(j ∉ D→j<N))→
   (∀ k∈D,k≠i∧listed.getD k true=false)→
   i∈Region.ready md ops listed→YieldsIf P ops C oi v a→C w→
   q0l P md ops Q N C fuel (listed.setIfInBounds i true) (a.put oi.dst v) w→q0l P md ops Q N C (fuel+1) listed a w:=by
 intro fuel
 induction fuel with
 | zero=>
  intro listed a w _ _ hr hy hS H
  refine⟨fun h=>(by rw[h] at hr;cases hr),fun j hj=>?_⟩
  by_cases hji:j=i
  ·subst hji;exact hy.wpOp hi hS ⟨fun _=>hS,H⟩
  ·have:=ready_mono hj hji
   rw[H.1] at this
   cases this
 | succ fuel ih=>
  intro listed a w hfree hDl hr hy hS H
  refine⟨fun h=>(by rw[h] at hr;cases hr),fun j hj=>?_⟩
  by_cases hji:j=i
  ·subst hji;exact hy.wpOp hi hS ⟨fun _=>hS,H⟩
  ·have h1:=H.2 j (ready_mono hj hji)
   obtain⟨hjun,oj,hoj,hall⟩:=mem_ready.1 hj
   have hun:∀ x,listed.getD x true=false→∀ e∈oj.after,Region.binds md e=true→e.on≠x:=fun x h0 e he hb heq=>by
    have h1:=hall e he hb
    rw[heq] at h1
    rcases Nat.lt_or_ge x listed.size with h'|h'
    ·simp[h'] at h0 h1;rw[h0] at h1;cases h1
    ·simp[Array.getElem?_eq_none h'] at h1
   have hnot:∀ e∈oj.after,Region.binds md e=true→e.on≠i:=hun i (mem_ready.1 hr).1
   have hjD:j ∉ D:=fun hD=>by
    obtain⟨o,ho,e,he,hb,h⟩:=hDd j hD
    rw[hoj] at ho
    obtain rfl:=Option.some.inj ho
    rcases h with h|h
    ·exact hnot e he hb h
    ·exact hun _ (hDl _ h).2 e he hb rfl
   obtain⟨hap,hjN⟩:=hfree j oj hoj hji hjun hnot
   have h2:=wpOp_putIf hoj hap (fun cs b=>hsel i oi cs b hi) (fun cs b=>hsel j oj cs b hoj) hQ hy h1
   have hfree':∀ k ok,ops[k]? = some ok→k≠i→(listed.setIfInBounds j true).getD k true=false→
     (∀ e∈ok.after,Region.binds md e=true→e.on≠i)→oi.apart ops ok=true∧(k ∉ D→k<N):=fun k ok hk hki hun hno=>by
    refine hfree k ok hk hki ?_ hno
    by_cases hjk:j=k
    ·subst hjk;exact hjun
    ·rw[getD_set_ne true hjk] at hun;exact hun
   have hDl':∀ k∈D,k≠i∧(listed.setIfInBounds j true).getD k true=false:=fun k hk=>by
    refine⟨(hDl k hk).1,?_⟩
    rw[getD_set_ne true (fun e:j=k=>hjD (e▸hk))]
    exact(hDl k hk).2
   refine wpOp_mono (fun a' w' h3=>⟨h3.2.1,ih (listed.setIfInBounds j true) a' w' hfree' hDl' (ready_mono hr (Ne.symm hji)) h3.1 (h3.2.1 (hjN hjD)) ?_⟩) h2
   rw[Array.setIfInBounds_comm _ _ hji]
   exact h3.2.2
theorem ntakeD (i:Nat) (D:List Nat) {oi:Oper} {v:Value} {fuel:Nat} {listed:Array Bool} {a:Act} {w:World} (hi:ops[i]? = some oi)
  (hs:Region.noSelect ops=true) (hf:Region.free md ops listed i=true) (hb:qa5 md ops listed i D=true) (hl:lateD md ops listed i N D=true) (hr:(Region.ready md ops listed).contains i=true)
  (hQ:∀ c a w,Q (.panic c) (a.put oi.dst v) w→Q (.panic c) a w) (hw:Region.wanted oi (yielded ops a.tmps)=true) (hC:C w)
  (hy:∀ w,C w→(execOp a.eval oi).run P w=.ok (.value v) w)
  (h:q0l P md ops Q N C fuel (listed.setIfInBounds i true) (a.put oi.dst v) w):q0l P md ops Q N C (fuel+1) listed a w:=
 q9h D hi (Region.noSelect_spec hs) hQ (fun k hk=>(q4u hb k hk).2.2) fuel listed a w (fun j oj hj hji hjl hno=>⟨Region.free_spec hi hf j oj hj hji hjl hno,lateD_spec hl j oj hj hji hjl hno⟩)
  (fun k hk=>⟨(q4u hb k hk).1,(q4u hb k hk).2.1⟩) (by simpa using hr) (.inl ⟨hw,hy⟩) hC h
end
section
variable {P:Program} {md:Region.Mode} {ops:Array Oper} {Q:Exit→Act→World→Prop} {N:Nat} {C:World→Prop}
theorem ntakeW (i:Nat) {d:Nat} {v:Value} {oi:Oper} {fuel:Nat} {listed:Array Bool} {a:Act} {w:World} (hi:ops[i]? = some oi) (hd:oi.dst=some d)
  (hs:Region.noSelect ops=true) (hf:Region.free md ops listed i=true) (hl:lateB md ops listed i N=true) (hr:(Region.ready md ops listed).contains i=true)
  (hQ:∀ c a w,Q (.panic c) (Act.put a (some d) v) w→Q (.panic c) a w) (hw:Region.wanted oi (yielded ops a.tmps)=true) (hC:C w)
  (hy:∀ w,C w→(execOp a.eval oi).run P w=.ok (.value v) w)
  (h:q0l P md ops Q N C fuel (listed.setIfInBounds i true) (a.put (some d) v) w):q0l P md ops Q N C (fuel+1) listed a w:=
 ntake i hi hs hf hl hr (by rw[hd];exact hQ) hw hC hy (by rw[hd];exact h)
theorem nskipW (i:Nat) {d:Nat} {oi:Oper} {fuel:Nat} {listed:Array Bool} {a:Act} {w:World} (hi:ops[i]? = some oi) (hd:oi.dst=some d)
  (hs:Region.noSelect ops=true) (hf:Region.free md ops listed i=true) (hl:lateB md ops listed i N=true) (hr:(Region.ready md ops listed).contains i=true)
  (hQ:∀ c a w,Q (.panic c) (Act.put a (some d) undef) w→Q (.panic c) a w) (hw:Region.wanted oi (yielded ops a.tmps)=false) (hC:C w)
  (h:q0l P md ops Q N C fuel (listed.setIfInBounds i true) (a.put (some d) undef) w):q0l P md ops Q N C (fuel+1) listed a w:=
 nskip i hi hs hf hl hr (by rw[hd];exact hQ) hw hC (by rw[hd];exact h)
theorem ntakeDW (i:Nat) (D:List Nat) {d:Nat} {v:Value} {oi:Oper} {fuel:Nat} {listed:Array Bool} {a:Act} {w:World} (hi:ops[i]? = some oi) (hd:oi.dst=some d)
  (hs:Region.noSelect ops=true) (hf:Region.free md ops listed i=true) (hb:qa5 md ops listed i D=true) (hl:lateD md ops listed i N D=true) (hr:(Region.ready md ops listed).contains i=true)
  (hQ:∀ c a w,Q (.panic c) (Act.put a (some d) v) w→Q (.panic c) a w) (hw:Region.wanted oi (yielded ops a.tmps)=true) (hC:C w)
  (hy:∀ w,C w→(execOp a.eval oi).run P w=.ok (.value v) w)
  (h:q0l P md ops Q N C fuel (listed.setIfInBounds i true) (a.put (some d) v) w):q0l P md ops Q N C (fuel+1) listed a w:=
 ntakeD i D hi hs hf hb hl hr (by rw[hd];exact hQ) hw hC hy (by rw[hd];exact h)
theorem nB (i:Nat) {d:Nat} {v:Value} {oi:Oper} {fuel:Nat} {listed:Array Bool} {a:Act} {w:World} (hi:ops[i]? = some oi) (hd:oi.dst=some d)
  (hQ:∀ c a (d:Nat) (v:Value) w,Q (.panic c) (Act.put a (some d) v) w→Q (.panic c) a w) (hC:C w) (hy:∀ w,C w→(execOp a.eval oi).run P w=.ok (.value v) w)
  (h:q0l P md ops Q N C fuel (listed.setIfInBounds i true) (a.put (some d) v) w)
  (hs:Region.noSelect ops=true:=by kernel_rfl) (hf:Region.free md ops listed i=true:=by kernel_rfl) (hl:lateB md ops listed i N=true:=by kernel_rfl) (hr:(Region.ready md ops listed).contains i=true:=by kernel_rfl)
  (hw:Region.wanted oi (yielded ops a.tmps)=true:=by kernel_rfl):q0l P md ops Q N C (fuel+1) listed a w:=ntakeW i hi hd hs hf hl hr (fun c a w=>hQ c a d v w) hw hC hy h
theorem nS (i:Nat) {d:Nat} {oi:Oper} {fuel:Nat} {listed:Array Bool} {a:Act} {w:World} (hi:ops[i]? = some oi) (hd:oi.dst=some d)
  (hQ:∀ c a (d:Nat) (v:Value) w,Q (.panic c) (Act.put a (some d) v) w→Q (.panic c) a w) (hC:C w)
  (h:q0l P md ops Q N C fuel (listed.setIfInBounds i true) (a.put (some d) undef) w)
  (hs:Region.noSelect ops=true:=by kernel_rfl) (hf:Region.free md ops listed i=true:=by kernel_rfl) (hl:lateB md ops listed i N=true:=by kernel_rfl) (hr:(Region.ready md ops listed).contains i=true:=by kernel_rfl)
  (hw:Region.wanted oi (yielded ops a.tmps)=false:=by kernel_rfl):q0l P md ops Q N C (fuel+1) listed a w:=nskipW i hi hd hs hf hl hr (fun c a w=>hQ c a d undef w) hw hC h
theorem nA (i:Nat) (D:List Nat) {d:Nat} {v:Value} {oi:Oper} {fuel:Nat} {listed:Array Bool} {a:Act} {w:World} (hi:ops[i]? = some oi) (hd:oi.dst=some d)
  (hQ:∀ c a (d:Nat) (v:Value) w,Q (.panic c) (Act.put a (some d) v) w→Q (.panic c) a w) (hC:C w) (hy:∀ w,C w→(execOp a.eval oi).run P w=.ok (.value v) w)
  (h:q0l P md ops Q N C fuel (listed.setIfInBounds i true) (a.put (some d) v) w)
  (hs:Region.noSelect ops=true:=by kernel_rfl) (hf:Region.free md ops listed i=true:=by kernel_rfl) (hb:qa5 md ops listed i D=true:=by kernel_rfl) (hl:lateD md ops listed i N D=true:=by kernel_rfl) (hr:(Region.ready md ops listed).contains i=true:=by kernel_rfl)
  (hw:Region.wanted oi (yielded ops a.tmps)=true:=by kernel_rfl):q0l P md ops Q N C (fuel+1) listed a w:=ntakeDW i D hi hd hs hf hb hl hr (fun c a w=>hQ c a d v w) hw hC hy h
end
structure Nd where
 id:Int
 epoch:Int
 nodes:List Int
 at_:Int
 log:List Cm
 stable:Int
def cm0:Cm:=⟨0,0,0,[]⟩
def Nd.head (d:Nd):Bool:=d.at_ == 0
def Nd.tail (d:Nd):Bool:=decide (d.at_≥0) && d.at_ == (d.nodes.length:Int)-1
def Nd.to_ (d:Nd) (b:Int):Int:=(d.nodes[(d.at_+b).toNat]?).getD 0
def Nd.msg (d:Nd) (kind b k:Int):Ms:=⟨kind,d.id,d.to_ b,d.epoch,k,cm0⟩
def Nd.forward (d:Nd) (k:Nat):Ms:=⟨3,d.id,d.to_ 1,d.epoch,k,(d.log[k]?).getD cm0⟩
def Nd.tick (d:Nd):Nd×List Ms:=
 if d.at_<0 then(d,[]) else if d.tail then({ d with stable:=d.log.length },if d.at_ > 0 then [d.msg 4 (-1) d.log.length] else []) else(d,[d.msg 1 1 d.log.length])
def Nd.push (d:Nd) (c:Cm):Nd:={ d with log:=d.log++[c] }
def Nd.grow (d:Nd) (c:Cm):Nd×List Ms:=if d.tail then(d.push c).tick else(d.push c,[(d.push c).forward d.log.length])
def Nd.add (d:Nd) (c:Cm) (b:Bool):(Nd×List Ms)×Int×Int:=
 if !d.head then((d,[]),0,6) else if d.log.length=500 then((d,[]),0,4) else(d.grow c,if b then d.log.length+1 else d.log.length,0)
def Nd.step (d:Nd) (m:Ms):Nd×List Ms:=
 if d.at_<0∨m.epoch≠d.epoch∨m.to_≠d.id then(d,[]) else
 let ahead:=decide (d.at_ > 0) && m.from_ == d.to_ (-1)
 let next:=!d.tail && m.from_ == d.to_ 1
 if m.kind=1∧ahead=true then(d,[d.msg 2 (-1) d.log.length]) else
 if m.kind=2∧next=true∧0≤m.n then(d,(List.range' m.n.toNat (d.log.length-m.n.toNat)).map d.forward) else
 if m.kind=3∧ahead=true∧m.n=d.log.length∧m.n<500 then d.grow m.cmd else
 if m.kind=4∧next=true∧0≤m.n∧m.n≤d.log.length then
  ({ d with stable:=max d.stable m.n },if d.at_ > 0 then [d.msg 4 (-1) (max d.stable m.n)] else []) else(d,[])
def OwnC (w:World) (base:Nat) (x:CmR):Prop:=w.ownsRow base 45 3 (.slice x.A x.n x.k) x.n (x.c.writes.flatMap q0g)∧x.c.writes.length=x.n∧x.n≤100000
structure NdI (w:World) (base g:Nat) (C V:Value) (L:List CmR) (d:Nd):Prop where
 blk:Blk w g 150 #[.int .i64 d.id,.int .i64 d.epoch,C,.int .i64 d.at_,V,.int .i64 d.stable]
 conf:w.ownsRow base 3 1 C d.nodes.length (d.nodes.map (Value.int .i64))
 row:w.ownsRow base 69 4 V L.length (L.flatMap q0m)
 own:∀ x∈L,OwnC w base x
 log:csOf L=d.log
 len:L.length≤500
 few:d.nodes.length≤6
 at0:-1≤d.at_
 at1:d.at_<d.nodes.length
 st0:0≤d.stable
 st1:d.stable≤500
 lo:base≤g
def NdF (g:Nat) (C V:Value) (L:List CmR) (b:Nat):Prop:=b=g∨C.ownBlock=some b∨V.ownBlock=some b∨∃ x∈L,(Value.slice x.A x.n x.k).ownBlock=some b
section
variable {w w':World} {base g:Nat} {C V:Value} {L:List CmR} {d:Nd}
theorem NdI.fr {S:Nat→Prop} (h:NdI w base g C V L d) (hf:Fr S w w') (hn:∀ b,NdF g C V L b→¬S b):NdI w' base g C V L d:=
 ⟨hf.blk h.blk (hn g (.inl rfl)),hf.own h.conf (fun b hb=>hn b (.inr (.inl hb))),hf.own h.row (fun b hb=>hn b (.inr (.inr (.inl hb)))),
  fun x hx=>⟨hf.own (h.own x hx).1 (fun b hb=>hn b (.inr (.inr (.inr ⟨x,hx,hb⟩)))),(h.own x hx).2⟩,h.log,h.len,h.few,h.at0,h.at1,h.st0,h.st1,h.lo⟩
theorem NdI.foot_lt (h:NdI w base g C V L d) {b:Nat} (hb:NdF g C V L b):base≤b∧b<w.heap.size:=by
 rcases hb with rfl|hb|hb|⟨x,hx,hb⟩
 ·exact⟨h.lo,h.blk.lt⟩
 ·exact h.conf.lt b hb
 ·exact h.row.lt b hb
 ·exact(h.own x hx).1.lt b hb
theorem NdI.tall (h:NdI w base g C V L d) (hb:Below w.heap.size w w'):NdI w' base g C V L d:=
 h.fr (S:=fun b=>w.heap.size≤b) ⟨hb.os,hb.tape,hb.output,hb.size,fun i _ hn=>hb.block i (by omega)⟩ (fun b hb2 h2=>by have:=(h.foot_lt hb2).2;omega)
theorem NdI.cells (h:NdI w base g C V L d):w.cell? ⟨g,0,none⟩=some (.int .i64 d.id)∧w.cell? ⟨g,1,none⟩=some (.int .i64 d.epoch)∧w.cell? ⟨g,2,none⟩=some C∧w.cell? ⟨g,3,none⟩=some (.int .i64 d.at_)∧w.cell? ⟨g,4,none⟩=some V∧w.cell? ⟨g,5,none⟩=some (.int .i64 d.stable)∧g<w.heap.size:=by
 have c0:=h.blk.cell 0
 have c1:=h.blk.cell 1
 have c2:=h.blk.cell 2
 have c3:=h.blk.cell 3
 have c4:=h.blk.cell 4
 have c5:=h.blk.cell 5
 simp only[List.getElem?_toArray,List.getElem?_cons_zero,List.getElem?_cons_succ] at c0 c1 c2 c3 c4 c5
 exact⟨c0,c1,c2,c3,c4,c5,h.blk.lt⟩
theorem NdI.len_log (h:NdI w base g C V L d):d.log.length=L.length:=by rw[← h.log];simp[csOf]
theorem NdI.confV (h:NdI w base g C V L d):∃ A c,C=.slice A d.nodes.length c:=by obtain⟨A,c,e,_⟩:=q01 h.conf;exact⟨A,c,e⟩
theorem NdI.logV (h:NdI w base g C V L d):∃ A c,V=.slice A L.length c:=by obtain⟨A,c,e,_⟩:=q01 h.row;exact⟨A,c,e⟩
theorem id_any (h:NdI w base g C V L d):Calls Tryz.prog 74 #[.pointer (some ⟨g,0,none⟩)] w fun e w'=>e=.returned (.int .i64 d.id)∧w=w':=by
 obtain⟨c0,_,_,_,_,_,kl⟩:=h.cells
 clear h
 go_enter Tryz.func74,Tryz.ntmps74
 go_wp2_with fail
 go_ret
 exact⟨rfl,rfl⟩
theorem qa0 (h:NdI w base g C V L d):Calls Tryz.prog 57 #[.pointer (some ⟨g,0,none⟩)] w fun e w'=>e=.returned (.bool d.head)∧w=w':=by
 obtain⟨_,_,_,c3,_,_,kl⟩:=h.cells
 clear h
 unfold Nd.head
 go_enter Tryz.func57,Tryz.ntmps57
 go_wp2_with fail
 go_ret
 exact⟨rfl,rfl⟩
theorem q8u (h:NdI w base g C V L d):Calls Tryz.prog 96 #[.pointer (some ⟨g,0,none⟩)] w fun e w'=>e=.returned (.int .i64 d.stable)∧w=w':=by
 obtain⟨_,_,_,_,_,c5,kl⟩:=h.cells
 clear h
 go_enter Tryz.func96,Tryz.ntmps96
 go_wp2_with fail
 go_ret
 exact⟨rfl,rfl⟩
theorem tail_q (h:NdI w base g C V L d):Calls Tryz.prog 58 #[.pointer (some ⟨g,0,none⟩)] w fun e w'=>e=.returned (.bool d.tail)∧∃ m,w'=w.drewN m:=by
 obtain⟨_,_,c2,c3,_,_,kl⟩:=h.cells
 obtain⟨A,c,rfl⟩:=h.confV
 have hf:=h.few
 have ht:d.tail=(decide (d.at_≥0) && d.at_ == (d.nodes.length:Int)-1):=rfl
 have HT:=LH ht;clear ht h
 generalize d.nodes.length=n at *
 generalize d.at_=a at *
 by_cases h0:a≥0
 ·go_enter Tryz.func58,Tryz.ntmps58
  go_wp2_with fail
  have hd:decide (0≤a)=true:=decide_eq_true h0
  have hw:IntKind.i64.wrap ((n:Int)-1)=(n:Int)-1:=IntWalk.i64_in _ ⟨by omega,by omega⟩
  go_quiet (fail)
  go_wp2_with fail
  go_ret
  rw[HT.out,decide_eq_true h0]
  exact⟨rfl,_,rfl⟩
 ·go_enter Tryz.func58,Tryz.ntmps58
  go_wp2_with fail
  have hd:decide (0≤a)=false:=decide_eq_false (by omega)
  go_quiet (fail)
  go_wp2_with fail
  go_ret
  rw[HT.out,decide_eq_false (by omega)]
  exact⟨rfl,_,rfl⟩
theorem q6p (h:NdI w base g C V L d):Calls Tryz.prog 58 #[.pointer (some ⟨g,0,none⟩)] w fun e w'=>e=.returned (.bool d.tail)∧Below w.heap.size w w':=
 (tail_q h).mono fun e w' ⟨h1,m,h2⟩=>⟨h1,by rw[h2];exact q08 (Below.refl _ _) _⟩
end
theorem q58:(Tryz.prog.info? 116).map (fun i=>(i.zero,i.size,i.bytes))=some (some (.agg #[.int .i64 0,.int .i64 0,.int .i64 0,.int .i64 0,.int .i64 0,.int .i64 0,.int .i64 0,.int .i64 0,.slice none 0 0]),9,88):=by kernel_rfl
section
variable {w w':World} {base g off nd:Nat} {T:TypeId} {cs:Array Value} {V:Value} {D:Option Nat} {L:List MsR} {dead:Int→Bool} {lost:Int}
theorem NetI.fr {S:Nat→Prop} (h:NetI w base g off T cs V D nd L dead lost) (hf:Fr S w w') (hg:¬S g) (hV:∀ b,V.ownBlock=some b→¬S b) (hD:∀ b,D=some b→¬S b) (hP:∀ b t cs,Blk w b t cs→t=45→¬S b):NetI w' base g off T cs V D nd L dead lost:=
 ⟨hf.blk h.blk hg,h.c0,h.c1,h.c2,hf.own h.row hV,fun x hx=>⟨hf.own (h.own x hx).1 (fun b hb e=>by
  rcases(h.own x hx).1.2 with ⟨hv,_⟩|⟨g',cap,cur,hv,_,hh,_⟩
  ·rw[hv] at hb;simp[Value.ownBlock] at hb
  ·rw[hv] at hb
   have e2:g'=b:=by simpa [Value.ownBlock] using hb
   subst e2
   exact hP g' _ _ hh rfl e),(h.own x hx).2⟩,h.down.fr hf hD,h.len,h.ne,Nat.le_trans h.bg hf.size⟩
theorem NetI.vlt (h:NetI w base g off T cs V D nd L dead lost) {b:Nat} (hb:V.ownBlock=some b):b<w.heap.size:=(h.row.lt b hb).2
end
def SendPost (base g off nd:Nat) (T:TypeId) (cs:Array Value) (V:Value) (D:Option Nat) (L:List MsR) (dead:Int→Bool) (_lost:Int) (l:List MsR) (w:World) (e:Ending) (w':World):Prop:=
 ∃ V' L' lost' d,e=.returned (.int .i64 d)∧(∀ x∈L',x∈L∨NewR w.heap.size x)∧NetI w' base g off T ((cs.setIfInBounds off V').setIfInBounds (off+2) (.int .i64 lost')) V' D nd L' dead lost'∧q0o ⟨msOf L,dead⟩ (msOf l)=⟨msOf L',dead⟩∧Fr (NetB g V D) w w'∧(V'.ownBlock=V.ownBlock∨∃ b,V'.ownBlock=some b∧w.heap.size≤b)
def SendRel (base g off nd:Nat) (T:TypeId) (cs:Array Value) (V:Value) (D:Option Nat) (L:List MsR) (dead:Int→Bool) (lost:Int) (l:List MsR) (n:Nat) (w:World) (i c:Value) (wr:World):Prop:=
 ∃ (j k:Nat) (V':Value) (L':List MsR),i=.int .i64 j∧c=.int .i64 k∧j≤n∧k≤j∧(∀ x∈L',x∈L∨NewR w.heap.size x)∧NetI wr base g off T (cs.setIfInBounds off V') V' D nd L' dead lost∧q0o ⟨msOf L,dead⟩ (msOf (l.take j))=⟨msOf L',dead⟩∧Fr (NetB g V D) w wr∧(V'.ownBlock=V.ownBlock∨∃ b,V'.ownBlock=some b∧w.heap.size≤b)
section
variable {w wr w2:World} {base g off nd n:Nat} {T:TypeId} {cs:Array Value} {V V':Value} {D:Option Nat} {L L':List MsR} {dead:Int→Bool} {lost:Int} {l:List MsR} {j kk:Nat} {x:MsR}
theorem msOf_take (hx:l[j]? = some x):msOf (l.take (j+1))=msOf (l.take j)++[x.m]:=by
 rw[List.take_add_one,hx];simp[msOf]
theorem q7e (hpr:∀ x∈L',x∈L∨NewR w.heap.size x) (hI:NetI wr base g off T (cs.setIfInBounds off V') V' D nd L' dead lost) (hs:q0o ⟨msOf L,dead⟩ (msOf (l.take j))=⟨msOf L',dead⟩) (hf:Fr (NetB g V D) w wr)
  (hV:V'.ownBlock=V.ownBlock∨∃ b,V'.ownBlock=some b∧w.heap.size≤b) (hx:l[j]? = some x) (hj:j<n) (hk:kk≤j) (hst:stopB ⟨msOf L',dead⟩ x.m=true) (h2:Fr (fun _=>False) wr w2) :
  SendRel base g off nd T cs V D L dead lost l n w (.int .i64 ((j:Int)+1)) (.int .i64 ((kk:Int)+1)) w2:=
 ⟨j+1,kk+1,V',L',rfl,rfl,hj,by omega,hpr,hI.fr h2 (fun h=>h) (fun _ _ h=>h) (fun _ _ h=>h) (fun _ _ _ _ _ h=>h),by
  rw[msOf_take hx,q7c,hs]
  unfold sendS
  rw[hst,if_pos rfl],hf.trans' h2 (fun _ _ h=>h.elim),hV⟩
end
theorem q3i (cs:Array Value) (i:Nat) (u v:Value):(cs.setIfInBounds i u).setIfInBounds i v=cs.setIfInBounds i v:=by
 ext k h1 h2
 ·simp
 ·by_cases h:i=k <;> simp[h]
theorem q48 {cs:Array Value} {i:Nat} {v:Value} (h:cs[i]? = some v):cs.setIfInBounds i v=cs:=by
 ext k h1 h2
 ·simp
 ·by_cases e:i=k
  ·subst e
   rw[Array.getElem?_eq_getElem h2] at h
   rw[Array.getElem_setIfInBounds_self]
   exact(Option.some.inj h).symm
  ·exact Array.getElem_setIfInBounds_ne h2 e
section
variable {w wr w2 w4:World} {base g off nd n:Nat} {T:TypeId} {cs:Array Value} {V V' V2:Value} {D:Option Nat} {L L':List MsR} {dead:Int→Bool} {lost:Int} {l:List MsR} {j kk:Nat} {x x2:MsR}
theorem send_put (hpr:∀ x∈L',x∈L∨NewR w.heap.size x) (hn2:NewR w.heap.size x2) (hI:NetI wr base g off T (cs.setIfInBounds off V') V' D nd L' dead lost) (hs:q0o ⟨msOf L,dead⟩ (msOf (l.take j))=⟨msOf L',dead⟩) (hf:Fr (NetB g V D) w wr)
  (hV:V'.ownBlock=V.ownBlock∨∃ b,V'.ownBlock=some b∧w.heap.size≤b) (hx:l[j]? = some x) (hj:j<n) (hk:kk≤j) (hst:stopB ⟨msOf L',dead⟩ x.m=false)
  (h3:Fr (fun k=>wr.heap.size≤k) wr w2) (hx2:x2.m=x.m) (hown:OwnW w2 base x2) (hm:Moved w2 w4 V'.ownBlock V2.ownBlock) (hrow:w4.ownsRow base 116 9 V2 (L'.length+1) (L'.flatMap q0c++q0c x2)) :
  SendRel base g off nd T cs V D L dead lost l n w (.int .i64 ((j:Int)+1)) (.int .i64 (kk:Int)) (w4.setCell ⟨g,off,none⟩ V2):=by
 have hI2:NetI w2 base g off T (cs.setIfInBounds off V') V' D nd L' dead lost:=hI.fr h3 (fun h=>by have:=hI.blk.lt;omega) (fun b hb h=>by have:=hI.vlt hb;omega) (fun b hb h=>by have:=hI.down;rw[hb] at this;have:=this.lt;omega) (fun b t cs hb _ h=>by have:=hb.lt;omega)
 have hoff:off<cs.size:=by have:=hI.c0;rw[Array.getElem?_setIfInBounds_self] at this;split at this <;> simp_all
 have hgV:¬some g=V'.ownBlock:=fun e=>q02 hI2.row hI2.blk (fun e=>hI.ne.1 e.symm) e.symm
 have hb4:Blk w4 g T (cs.setIfInBounds off V'):=hm.1.blk hI2.blk hgV
 have hset:Fr (fun k=>k=g) w4 (w4.setCell ⟨g,off,none⟩ V2):=Fr.set1 g w4 off V2
 have hb5:=hb4.set_ off V2
 rw[q3i] at hb5
 have hnP:∀ b v m xs,w4.ownsRow base 45 3 v m xs→v.ownBlock=some b→¬b=g:=fun b v m xs ho hb e=>by subst e;exact q02 ho hb4 (fun e=>hI.ne.2 e.symm) hb
 have hown4:∀ y,OwnW w2 base y→OwnW (w4.setCell ⟨g,off,none⟩ V2) base y:=fun y hy=>by
  have h4:=hm.1.own hy.1 (fun b hb e=>q0i hy.1 hI2.row (by decide) hb e.symm)
  exact⟨hset.own h4 (fun b hb e=>hnP b _ _ _ h4 hb e),hy.2⟩
 refine⟨j+1,kk,V2,L'++[x2],rfl,rfl,hj,by omega,(fun y hy=>(List.mem_append.1 hy).elim (hpr y) (fun h=>.inr (by rw[List.mem_singleton.1 h];exact hn2))),⟨hb5,?_,?_,?_,?_,fun y hy=>?_,?_,?_,hI.ne,?_⟩,?_,?_,?_⟩
 ·simp[hoff]
 ·have:=hI.c1
  rwa [Array.getElem?_setIfInBounds_ne (by omega)] at this ⊢
 ·have:=hI.c2
  rwa [Array.getElem?_setIfInBounds_ne (by omega)] at this ⊢
 ·rw[List.length_append,List.flatMap_append,List.flatMap_singleton]
  exact hset.own hrow (fun b hb e=>by subst e;exact q02 hrow hb4 (fun e=>hI.ne.1 e.symm) hb)
 ·rcases List.mem_append.1 hy with hy|hy
  ·exact hown4 y (hI2.own y hy)
  ·rw[List.mem_singleton.1 hy];exact hown4 x2 hown
 ·refine(hI2.down.fr hm.1 (fun b hb e=>?_)).fr hset (fun b hb e=>?_)
  ·exact hI2.down.notOwn hI2.row hb e.symm
  ·subst e;exact hI2.down.notBlk hI2.blk hb
 ·unfold stopB at hst
  simp only[Bool.or_eq_false_iff,decide_eq_false_iff_not] at hst
  have h1:=hI.len
  have h2:=hst.2
  simp[msOf] at h2 ⊢
  omega
 ·exact Nat.le_trans hI2.bg (Nat.le_trans hm.1.size hset.size)
 ·rw[msOf_take hx,q7c,hs]
  unfold sendS
  rw[hst,if_neg (by simp)]
  simp[msOf,hx2]
 ·refine(hf.trans' h3 (fun i hi h=>?_)).trans' ((hm.1.mono (T:=fun k=>some k=V'.ownBlock∨k=g) (fun i _ h=>.inl h)).trans' hset (fun i _ h=>.inr h)) (fun i hi h=>?_)
  ·have:=hf.size;omega
  ·rcases h with h|h
   ·rcases hV with hV|⟨b,hb,hlb⟩
    ·rw[hV] at h;exact .inr (.inl h)
    ·rw[hb] at h;injection h with h;subst h;omega
   ·exact .inl h
 ·rcases hm.2 with h|⟨b,hb,hlb⟩
  ·rw[h];exact hV
  ·exact .inr ⟨b,hb,Nat.le_trans (Nat.le_trans hf.size h3.size) hlb⟩
end
theorem send_any (base g off nd n k:Nat) (T:TypeId) (cs:Array Value) (V:Value) (D:Option Nat) (L:List MsR) (dead:Int→Bool) (lost:Int) (A:Option Addr) (l:List MsR) (w:World)
  (hI:NetI w base g off T cs V D nd L dead lost) (hR:ReadsM w (NetB g V D) A n l) (hn:n≤100000) (hwf:∀ x∈l,okI x.m.from_∧okI x.m.to_∧x.n≤100000∧(x.A=none→x.k=0)) :
  Calls Tryz.prog 50 #[.pointer (some ⟨g,off,none⟩),.slice A n k] w (SendPost base g off nd T cs V D L dead lost l w):=by
 have HI:=LH hI
 have HR:=LH hR;clear hR
 have HWF:=LH hwf;clear hwf
 go_enter Tryz.func50,Tryz.ntmps50
 go_wp2_with fail
 go_loopw [10,5] (SendRel base g off nd T cs V D L dead lost l n w) (fun i _ _=>n-(intOf i).toNat)
 case atStart=>exact⟨0,0,V,L,rfl,rfl,Nat.zero_le _,Nat.le_refl _,fun _ h=>.inl h,by rw[q48 HI.out.c0];exact HI.out,by simp[msOf,q0o],Fr.refl _ _,.inl rfl⟩
 case round=>
  obtain⟨j,kk,V',L',rfl,rfl,hj,hk,hpr,hI',hs,hf,hV'⟩:=hrel
  by_cases hlt:(j:Int)<n
  ·obtain⟨ga,oa,x,hA,hga,hx,h0,h1,h2,h3,h4,h5,h6,h7,h8⟩:=HR.out.2.1.cells9 HR.out.1 (j:=j) (by omega)
   subst hA
   have hav:=HR.out.2.2.1 ga oa rfl (by omega)
   have hk:∀ o,wr.cell? ⟨ga,o,none⟩=w.cell? ⟨ga,o,none⟩:=fun o=>hf.cell (p:=⟨ga,o,none⟩) hga hav
   have q0:=(hk _).trans h0
   have q1:=(hk _).trans h1
   have q2:=(hk _).trans h2
   have q3:=(hk _).trans h3
   have q4:=(hk _).trans h4
   have q5:=(hk _).trans h5
   have q6:=(hk _).trans h6
   have q7:=(hk _).trans h7
   have q8:=(hk _).trans h8
   have hgr:ga<wr.heap.size:=Nat.lt_of_lt_of_le hga hf.size
   clear h0 h1 h2 h3 h4 h5 h6 h7 h8 hk hav
   have HI':=LH hI';clear hI'
   have HPR:=LH hpr;clear hpr
   have HS:=LH hs;clear hs
   have HF:=LH hf;clear hf
   have HV:=LH hV';clear hV'
   have HX:=LH hx;clear hx
   have hI1:NetI (wr.alloc (.cells (q04 x.m x.A x.n x.k) 116)) base g off T (cs.setIfInBounds off V') V' D nd L' dead lost:=HI'.out.fr ((Fr.refl (fun _=>False) _).alloc _) (fun h=>h) (fun _ _ h=>h) (fun _ _ h=>h) (fun _ _ _ _ _ h=>h)
   have hB1:Blk (wr.alloc (.cells (q04 x.m x.A x.n x.k) 116)) wr.heap.size 116 (q04 x.m x.A x.n x.k):=Blk.new wr _ _
   obtain⟨A',c',hV',hc',hA'⟩:=q01 HI'.out.row
   have x0:=(hI1.blk.cell off).trans hI1.c0
   have x1:=(hI1.blk.cell (off+1)).trans hI1.c1
   rw[hV'] at x0
   have y1:=hB1.cell 1
   have y2:=hB1.cell 2
   have hlk1:=fun K=>(show DeadM ((wr.alloc (.cells (q04 x.m x.A x.n x.k) 116)).drewN K) nd D dead from hI1.down).look (HWF.out x (List.mem_of_getElem? HX.out)).1
   have hlk2:=fun K=>(show DeadM ((wr.alloc (.cells (q04 x.m x.A x.n x.k) 116)).drewN K) nd D dead from hI1.down).look (HWF.out x (List.mem_of_getElem? HX.out)).2.1
   have hlen:=HI'.out.len
   have HI1:=LH hI1;clear hI1
   have HB1:=LH hB1;clear hB1
   have HVV:=LH hV';clear hV'
   have HAA:=LH hA';clear hA'
   have hst:∀ b1 b2,dead x.m.from_=b1→dead x.m.to_=b2→stopB ⟨msOf L',dead⟩ x.m=(b1 || b2 || decide (L'.length=200)):=fun b1 b2 e1 e2=>by unfold stopB;dsimp only;rw[e1,e2];simp[msOf]
   have HST:=LH hst;clear hst
   rcases hd1:dead x.m.from_ with _|_
   ·rcases hd2:dead x.m.to_ with _|_
    ·rw[hd1] at hlk1
     rw[hd2] at hlk2
     by_cases hfull:L'.length=200
     ·have hz:((L'.length:Int) == 200)=true:=by rw[hfull];rfl
      have hs2:stopB ⟨msOf L',dead⟩ x.m=true:=(HST.out _ _ hd1 hd2).trans (by simp[hfull])
      have HST2:=LH hs2;clear hs2
      clear hd1 hd2 hfull
      unfold q04 at *
      go_wp2_with fail
      go_quiet (fail)
      go_wp2_with fail
      go_roundw
      case rel=>exact q7e HPR.out HI'.out HS.out HF.out HV.out HX.out (by omega) hk HST2.out ((((Fr.refl _ wr).alloc _)).drewN _)
      case measure=>simp[intOf];omega
     ·have hz:((L'.length:Int) == 200)=false:=by simpa using (by omega:¬(L'.length:Int)=200)
      have hs2:stopB ⟨msOf L',dead⟩ x.m=false:=(HST.out _ _ hd1 hd2).trans (by simp[hfull])
      have HST2:=LH hs2;clear hs2
      have HLT:=LH (show L'.length+1≤200 by omega)
      clear hd1 hd2 hfull
      have hxl:=HR.out.2.2.2 x (List.mem_of_getElem? HX.out)
      have hrp:q1k wr w.heap.size x.A x.n x.m.cmd.writes:=hxl.1.fr HF.out (Nat.le_refl _) hxl.2
      have hwx:=HWF.out x (List.mem_of_getElem? HX.out)
      have hcl:=fun K=>q8b wr.heap.size w.heap.size x.n x.k x.A x.m.cmd.writes ((wr.alloc (.cells (q04 x.m x.A x.n x.k) 116)).drewN K) ⟨hrp.1,hrp.2.below (q08 (((Below.refl _ _).alloc (Nat.le_refl _) _).mono HF.out.size) K)⟩ (by have:=HF.out.size;simp;omega) (by simp) hwx.2.2.1 hwx.2.2.2
      have HRPL:=LH (show x.m.cmd.writes.length=x.n from hrp.1)
      have HCL:=LH hcl;clear hcl hwx hrp hxl
      unfold q04 at *
      go_wp2_with fail
      go_quiet (fail)
      go_wp2_with fail
      refine(HCL.out _).mono ?_
      rintro e w2 ⟨A2,k2,rfl,hown2,hb2⟩
      have HN2:=LH (show NewR w.heap.size ⟨x.m,A2,x.n,k2⟩ from fun b hb=>Nat.le_trans HF.out.size (hown2.lt b hb).1)
      have hown2:=q17 hown2 HI'.out.bg
      have hz2:=hb2.size
      simp only[size_dN,World.size_alloc] at hz2
      have hB2:Blk w2 wr.heap.size 116 #[.int .i64 x.m.kind,.int .i64 x.m.from_,.int .i64 x.m.to_,.int .i64 x.m.epoch,.int .i64 x.m.n,.int .i64 x.m.cmd.kind,.int .i64 x.m.cmd.tx,.int .i64 x.m.cmd.time,.slice x.A x.n x.k]:=(hb2.block wr.heap.size (by show wr.heap.size<(wr.alloc _).heap.size;simp)).trans HB1.out
      have z0:=hB2.cell 8
      have z1:=hB2.frozen 8
      have HB2:=LH hB2;clear hB2
      have HO2:=LH hown2;clear hown2
      have HBB:=LH hb2;clear hb2
      go_wp2_with fail
      have hF2:Fr (fun k=>wr.heap.size≤k) wr w2:=(((Fr.refl _ wr).alloc _).drewN _).trans ((q06 HBB.out).mono (fun i _ h=>by
       have h':(wr.alloc (.cells (q04 x.m x.A x.n x.k) 116)).heap.size≤i:=h
       simp at h';omega))
      have hset8:=Fr.set1 wr.heap.size w2 8 (.slice A2 x.n k2)
      have hF3:=hF2.trans (hset8.mono (T:=fun k=>wr.heap.size≤k) (fun i _ h=>Nat.le_of_eq h.symm))
      have hB3:=HB2.out.set_ 8 (.slice A2 x.n k2)
      simp only[List.setIfInBounds_toArray,List.set_cons_succ,List.set_cons_zero] at hB3
      have hne8:∀ b,Value.ownBlock (.slice A2 x.n k2)=some b→¬b=wr.heap.size:=fun b hb e=>by subst e;exact q02 HO2.out HB2.out (by decide) hb
      have hO3:=hset8.own HO2.out hne8
      generalize w2.setCell ⟨wr.heap.size,8,none⟩ (.slice A2 x.n k2)=w3 at *
      have hg3:g<wr.heap.size:=HI'.out.blk.lt
      have n0:=(hF3.cell (p:=⟨g,off,none⟩) hg3 (fun h:wr.heap.size≤g=>by omega)).trans ((HI'.out.blk.cell off).trans HI'.out.c0)
      rw[HVV.out] at n0
      have b0:=hB3.cell 0
      have b1:=hB3.cell 1
      have b2:=hB3.cell 2
      have b3:=hB3.cell 3
      have b4:=hB3.cell 4
      have b5:=hB3.cell 5
      have b6:=hB3.cell 6
      have b7:=hB3.cell 7
      have b8:=hB3.cell 8
      simp only[List.getElem?_toArray,List.getElem?_cons_succ,List.getElem?_cons_zero] at b0 b1 b2 b3 b4 b5 b6 b7 b8
      have hz3:=hF3.size
      have HF3:=LH hF3;clear hF3
      have HB3:=LH hB3;clear hB3
      have HO3:=LH hO3;clear hO3
      clear hset8 hF2 hne8 z0 z1
      refine wp_region_any (by kernel_rfl) ?_
      change wpAny _ _ _ _ _ _ _ (World.drew _)
      refine q4i (fun w'=>w'.cell? ⟨g,off,none⟩=some (.slice A' L'.length c')∧w'.cell? ⟨wr.heap.size,0,none⟩=some (.int .i64 x.m.kind)∧w'.cell? ⟨wr.heap.size,1,none⟩=some (.int .i64 x.m.from_)∧w'.cell? ⟨wr.heap.size,2,none⟩=some (.int .i64 x.m.to_)∧w'.cell? ⟨wr.heap.size,3,none⟩=some (.int .i64 x.m.epoch)∧w'.cell? ⟨wr.heap.size,4,none⟩=some (.int .i64 x.m.n)∧w'.cell? ⟨wr.heap.size,5,none⟩=some (.int .i64 x.m.cmd.kind)∧w'.cell? ⟨wr.heap.size,6,none⟩=some (.int .i64 x.m.cmd.tx)∧w'.cell? ⟨wr.heap.size,7,none⟩=some (.int .i64 x.m.cmd.time)∧w'.cell? ⟨wr.heap.size,8,none⟩=some (.slice A2 x.n k2)) 8 ?_
      have HCC:=And.intro n0 (And.intro b0 (And.intro b1 (And.intro b2 (And.intro b3 (And.intro b4 (And.intro b5 (And.intro b6 (And.intro b7 b8))))))))
      refine nC 0 rfl (fun _ _ _ h=>h) HCC (fun w' hw'=>by go_simp;rfl) ?_
      refine nC 1 rfl (fun _ _ _ h=>h) HCC (fun w' hw'=>by go_simp;rfl) ?_
      refine nC 2 rfl (fun _ _ _ h=>h) HCC (fun w' hw'=>by go_simp;rfl) ?_
      refine nC 3 rfl (fun _ _ _ h=>h) HCC (fun w' hw'=>by go_simp;rfl) ?_
      refine nC 4 rfl (fun _ _ _ h=>h) HCC (fun w' hw'=>by obtain⟨c0,c1,c2,c3,c4,c5,c6,c7,c8,c9⟩:=hw';go_simp;rfl) ?_
      refine nC 5 rfl (fun _ _ _ h=>h) HCC (fun w' hw'=>by obtain⟨c0,c1,c2,c3,c4,c5,c6,c7,c8,c9⟩:=hw';go_simp;rfl) ?_
      have hkeep:∀ o q p,q<w3.heap.size→(w3.alloc o).cell? ⟨q,p,none⟩=w3.cell? ⟨q,p,none⟩:=fun o q p hq=>World.cell?_alloc_lt w3 o ⟨q,p,none⟩ hq
      have hblt:=HB3.out.lt
      have hrow3:w3.ownsRow base 116 9 (.slice A' L'.length c') L'.length (L'.flatMap q0c):=by
       rw[← HVV.out]
       exact HF3.out.own HI'.out.row (fun b hb (h:wr.heap.size≤b)=>by have:=HI'.out.vlt hb;omega)
      have HROW3:=LH hrow3;clear hrow3
      have hbase3:base≤w3.heap.size:=by have:=HI'.out.bg;omega
      refine nO 6 rfl (fun K hK=>?_)
      go_simp
      refine hK _ _ (fun _=>⟨(hkeep _ _ _ (by omega)).trans n0,(hkeep _ _ _ hblt).trans b0,(hkeep _ _ _ hblt).trans b1,(hkeep _ _ _ hblt).trans b2,(hkeep _ _ _ hblt).trans b3,(hkeep _ _ _ hblt).trans b4,(hkeep _ _ _ hblt).trans b5,(hkeep _ _ _ hblt).trans b6,(hkeep _ _ _ hblt).trans b7,(hkeep _ _ _ hblt).trans b8⟩) ?_
      clear hK K HCC hkeep
      refine nO 7 rfl (fun K hK=>?_)
      have hlt2:=HLT.out
      refine q1g w3.drew w3.heap.size rfl _ (.tmp 50) (.tmp 52) 86 rfl base 116 _ 9 88 Tryz.underlying86 q58 rfl (by decide) _ _ _ #[.int .i64 x.m.kind,.int .i64 x.m.from_,.int .i64 x.m.to_,.int .i64 x.m.epoch,.int .i64 x.m.n,.int .i64 x.m.cmd.kind,.int .i64 x.m.cmd.tx,.int .i64 x.m.cmd.time,.slice A2 x.n k2] rfl HROW3.out 1 rfl _ rfl rfl (by simp[Value.oneCell']) (by unfold maxLen;omega) (by omega) hbase3 ?_
      clear hlt2
      intro V2 w4 hrow4 hm4
      obtain⟨A4,c4,rfl,_,_⟩:=q01 hrow4
      have hm4':Moved w3 w4 V'.ownBlock (Value.ownBlock (.slice A4 (L'.length+1) c4)):=by rw[HVV.out];exact⟨⟨hm4.1.os,hm4.1.tape,hm4.1.output,hm4.1.size,hm4.1.block⟩,hm4.2⟩
      have hbg3:Blk w3 g T (cs.setIfInBounds off V'):=HF3.out.blk HI'.out.blk (fun h:wr.heap.size≤g=>by omega)
      have hrowV:w3.ownsRow base 116 9 V' L'.length (L'.flatMap q0c):=by rw[HVV.out];exact HROW3.out
      have hgV:¬some g=V'.ownBlock:=fun e=>q02 hrowV hbg3 (fun e=>HI'.out.ne.1 e.symm) e.symm
      have hxV:¬some wr.heap.size=V'.ownBlock:=fun e=>by have:=HI'.out.vlt e.symm;omega
      have hb4:=hm4'.1.blk hbg3 hgV
      have hbx4:=hm4'.1.blk HB3.out hxV
      have y0:=hb4.cell off
      have y1:=hb4.frozen off
      have hc0:=HI'.out.c0
      rw[hc0,HVV.out] at y0
      have hC4:=And.intro y0 (And.intro (hbx4.cell 0) (And.intro (hbx4.cell 1) (And.intro (hbx4.cell 2) (And.intro (hbx4.cell 3) (And.intro (hbx4.cell 4) (And.intro (hbx4.cell 5) (And.intro (hbx4.cell 6) (And.intro (hbx4.cell 7) (hbx4.cell 8)))))))))
      have HC4:=LH hC4;clear hC4
      have hput:=send_put (x2:=⟨x.m,A2,x.n,k2⟩) HPR.out HN2.out HI'.out HS.out HF.out HV.out HX.out (by omega:j<n) hk HST2.out HF3.out rfl ⟨HO3.out,HRPL.out⟩ hm4' hrow4
      have HPUT:=LH hput;clear hput hrow4 hm4 hm4' hb4 hbx4 hbg3 hrowV hgV hxV hc0
      go_simp
      refine hK _ _ (fun _=>HC4.out) ?_
      clear hK K
      refine nO 8 rfl (fun K hK=>?_)
      go_simp
      refine hK _ _ (fun h=>absurd h (by decide)) ?_
      clear hK K
      refine nO 9 rfl (fun K hK=>?_)
      go_simp
      refine hK _ _ (fun h=>absurd h (by decide)) ?_
      clear hK K
      refine nO 10 rfl (fun K hK=>?_)
      go_simp
      refine hK _ _ (fun h=>absurd h (by decide)) ?_
      clear hK K
      refine ndone (by kernel_rfl) ?_ _
      go_wp2_with fail
      go_roundw
      case rel=>exact HPUT.out
      case measure=>simp[intOf];omega
    ·rw[hd1] at hlk1
     rw[hd2] at hlk2
     have hs2:stopB ⟨msOf L',dead⟩ x.m=true:=(HST.out _ _ hd1 hd2).trans (by simp)
     have HST2:=LH hs2;clear hs2
     clear hd1 hd2
     unfold q04 at *
     go_wp2_with fail
     go_quiet (fail)
     go_wp2_with fail
     go_roundw
     case rel=>exact q7e HPR.out HI'.out HS.out HF.out HV.out HX.out (by omega) hk HST2.out ((((Fr.refl _ wr).alloc _)).drewN _)
     case measure=>simp[intOf];omega
   ·rw[hd1] at hlk1
    have hs2:stopB ⟨msOf L',dead⟩ x.m=true:=(HST.out _ _ hd1 rfl).trans (by simp)
    have HST2:=LH hs2;clear hs2
    clear hd1 hlk2
    unfold q04 at *
    go_wp2_with fail
    go_quiet (fail)
    go_wp2_with fail
    go_roundw
    case rel=>exact q7e HPR.out HI'.out HS.out HF.out HV.out HX.out (by omega) hk HST2.out ((((Fr.refl _ wr).alloc _)).drewN _)
    case measure=>simp[intOf];omega
  ·obtain rfl:j=n:=by omega
   have hll:l.take j=l:=List.take_of_length_le (by have:=HR.out.1;omega)
   rw[hll] at hs
   have x2:=(hI'.blk.cell (off+2)).trans hI'.c2
   have x3:=hI'.blk.frozen (off+2)
   have hfin:SendPost base g off nd T cs V D L dead lost l w (.returned (.int .i64 kk)) (wr.setCell ⟨g,off+2,none⟩ (.int .i64 (wrap64 (lost+kk)))):=by
    have hset:=Fr.set1 g wr (off+2) (.int .i64 (wrap64 (lost+kk)))
    have hI2:NetI (wr.setCell ⟨g,off+2,none⟩ (.int .i64 (wrap64 (lost+kk)))) base g off T ((cs.setIfInBounds off V').setIfInBounds (off+2) (.int .i64 (wrap64 (lost+kk)))) V' D nd L' dead (wrap64 (lost+kk)):=by
     have hsz:off+2<cs.size:=by
      have:=hI'.c2
      rcases Nat.lt_or_ge (off+2) cs.size with h|h
      ·exact h
      ·rw[Array.getElem?_eq_none (by simpa using h)] at this;cases this
     refine⟨hI'.blk.set_ _ _,?_,?_,by simp[hsz],hset.own hI'.row (fun b hb e=>by subst e;exact q02 hI'.row hI'.blk (fun e=>hI'.ne.1 e.symm) hb),fun x hx=>⟨hset.own (hI'.own x hx).1 (fun b hb e=>by subst e;exact q02 (hI'.own x hx).1 hI'.blk (fun e=>hI'.ne.2 e.symm) hb),(hI'.own x hx).2⟩,hI'.down.fr hset (fun b hb e=>by subst e;exact hI'.down.notBlk hI'.blk hb),hI'.len,hI'.ne,Nat.le_trans hI'.bg hset.size⟩
     ·rw[Array.getElem?_setIfInBounds_ne (by omega)];exact hI'.c0
     ·rw[Array.getElem?_setIfInBounds_ne (by omega)];exact hI'.c1
    exact⟨V',L',_,kk,rfl,hpr,hI2,hs,hf.trans' hset (fun i _ h=>.inl h),hV'⟩
   have HFIN:=LH hfin;clear hfin hI' hs hf hV' hll hI
   go_wp2_with fail
   go_ret
   exact HFIN.out
theorem add_zero_addr' (a:Addr):a.add 0=a:=by unfold Addr.add;rw[if_pos rfl]
section
variable {P:Program} {w:World} {base e size g n cap:Nat} {xs:List Value}
theorem q93 (h:w.ownsRow base e size (.slice (some ⟨g,0,none⟩) n cap) n xs) {i:Nat} (hi:i≤n):w.ownsRow base e size (.slice (some ⟨g,0,none⟩) i cap) i (xs.take (i*size)):=by
 have hm:i*size≤n*size:=Nat.mul_le_mul_right _ hi
 refine⟨by rw[List.length_take,h.1];omega,?_⟩
 rcases h.2 with ⟨h,_⟩|⟨g',cap',cur,h,hbg,hg,hnc,hcm,hcs,htake⟩
 ·cases h
 ·simp only[Value.slice.injEq,Option.some.injEq,Addr.mk.injEq,and_true,true_and] at h
  obtain⟨rfl,rfl⟩:=h
  refine .inr ⟨g,cap,cur,rfl,hbg,hg,by omega,hcm,hcs,?_⟩
  rw[← htake,List.take_take,Nat.min_eq_left hm]
theorem own_cap (h:w.ownsRow base e size (.slice (some ⟨g,0,none⟩) n cap) n xs):n≤cap∧cap≤maxLen:=by
 rcases h.2 with ⟨h,_⟩|⟨g',cap',cur,h,hbg,hg,hnc,hcm,hcs,htake⟩
 ·cases h
 ·simp only[Value.slice.injEq,Option.some.injEq,Addr.mk.injEq,and_true,true_and] at h
  obtain⟨rfl,rfl⟩:=h
  exact⟨hnc,hcm⟩
def skipA (g k cap size:Nat):Option Addr:=if cap=k then some ⟨g,0,none⟩ else some ⟨g,k*size,none⟩
theorem q8w (g k cap size:Nat):∃ o,skipA g k cap size=some ⟨g,o,none⟩∧(k<cap→o=k*size):=by
 unfold skipA
 split
 ·rename_i hk;exact⟨0,rfl,fun h=>by omega⟩
 ·exact⟨_,rfl,fun _=>rfl⟩
theorem run_cutOut (t ty:TypeId) (i:TypeInfo) (ht:P.underlying t=some (.slice e)) (hi:P.info? e=some i) (hsize:i.size=size)
  (h:w.ownsRow base e size (.slice (some ⟨g,0,none⟩) n cap) n xs) (h1:∀ u∈xs,u.oneCell'=true) {a b:Nat} (hab:a≤b) (hb:b≤n) :
  ∃ w',(Builtin.append_ #[t,t] ty #[.slice (some ⟨g,0,none⟩) a cap,.slice (skipA g b cap size) (n-b) (cap-b)]).run P w=.ok (.slice (some ⟨g,0,none⟩) (a+(n-b)) cap) w'∧
   w'.ownsRow base e size (.slice (some ⟨g,0,none⟩) (a+(n-b)) cap) (a+(n-b)) (xs.take (a*size)++xs.drop (b*size))∧Fr (fun k=>k=g) w w':=by
 obtain⟨o,ho,ho2⟩:=q8w g b cap size
 have hc:=(own_cap h).1
 have hl:(xs.drop (b*size)).length=(n-b)*size:=by rw[List.length_drop,h.1,Nat.sub_mul]
 obtain⟨w',h2,h3,h4⟩:=run_append_fits (P:=P) w base t ty e i size ht hi hsize g a cap _ (q93 h (by omega:a≤n)) ⟨g,o,none⟩ (n-b) (cap-b) (xs.drop (b*size)) hl (fun j u hu=>by
  have hj:j<(n-b)*size:=by rw[← hl];exact(List.getElem?_eq_some_iff.1 hu).1
  have hlt:b<n:=by
   rcases Nat.lt_or_ge b n with h|h
   ·exact h
   ·rw[Nat.sub_eq_zero_of_le h,Nat.zero_mul] at hj;omega
  rw[Addr.add_lit,ho2 (by omega),h.cellAt]
  ·rw[← hu,List.getElem?_drop]
  ·rw[Nat.sub_mul] at hj;omega) (fun u hu=>h1 u (List.mem_of_mem_drop hu)) (by omega)
 rw[ho]
 exact⟨w',h2,h3,Fr.of_grown h4 (fun k e=>(Option.some.inj e).symm)⟩
theorem q4h (t:TypeId) (z:Value) (ht:P.underlying t=some (.slice e)) (hv:∀ w,(zeroValue e).run P w=.ok z w) (hz:z.cells.size=size) (hz1:∀ u∈z.cells.toList,u.oneCell'=true)
  (h:w.ownsRow base e size (.slice (some ⟨g,0,none⟩) n cap) n xs) {m c:Nat} (hm:n+m≤cap) :
  ∃ w',(∀ ty,(Builtin.clear_ #[t] ty #[.slice (skipA g n cap size) m c]).run P w=.ok (.tuple #[]) w')∧w'.ownsRow base e size (.slice (some ⟨g,0,none⟩) n cap) n xs∧Fr (fun k=>k=g) w w':=by
 obtain⟨o,ho,ho2⟩:=q8w g n cap size
 rw[ho]
 rcases Nat.eq_zero_or_pos m with h0|h0
 ·subst h0
  exact⟨w,fun ty=>by simp[Builtin.clear_,run_underlying ht],h,Fr.refl _ _⟩
 have ho3:=ho2 (by omega)
 subst ho3
 rcases h.2 with ⟨h',_⟩|⟨g',cap',cur,h',hbg,hg,hnc,hcm,hcs,htake⟩
 ·cases h'
 ·simp only[Value.slice.injEq,Option.some.injEq,Addr.mk.injEq,and_true,true_and] at h'
  obtain⟨rfl,rfl⟩:=h'
  have hzl:(Builtin.zeroCells z.cells m).toList.length=m*size:=by rw[Array.length_toList,size_zeroCells,hz]
  have hzo:∀ u∈(Builtin.zeroCells z.cells m).toList,u.oneCell'=true:=fun u hu=>by
   obtain⟨i,hi,hu⟩:=List.getElem_of_mem hu
   have hzs:0<z.cells.size:=by
    rcases Nat.eq_zero_or_pos z.cells.size with h|h
    ·rw[hzl,← hz,h] at hi;omega
    ·exact h
   refine hz1 u ?_
   rw[← hu]
   simp[Builtin.zeroCells]
   have hlt:i % z.cells.size<z.cells.size:=Nat.mod_lt _ hzs
   simp[hlt]
  have hfit:n*size+(Builtin.zeroCells z.cells m).toList.length≤cur.size:=by rw[hzl,hcs,← Nat.add_mul];exact Nat.mul_le_mul_right _ hm
  have hst:=run_storeCells_at (P:=P) g (n*size) e (Builtin.zeroCells z.cells m).toList 0 cur w hg (by simpa using hfit) hzo
  simp only[Nat.add_zero] at hst
  obtain⟨m',rfl⟩:∃ m',m=m'+1:=⟨m-1,by omega⟩
  refine⟨w.setRow g (cur.toList.take (n*size)++(Builtin.zeroCells z.cells (m'+1)).toList++cur.toList.drop (n*size+(Builtin.zeroCells z.cells (m'+1)).toList.length)).toArray,?_,⟨h.1,.inr ⟨g,cap,_,rfl,hbg,setRow_heap w g cur _ e _ hg,hnc,hcm,?_,?_⟩⟩,⟨rfl,rfl,rfl,by simp,fun k _ hk=>setRow_other w g k _ hk⟩⟩
  ·intro ty;simp[Builtin.clear_,run_underlying ht,hv,hst]
  ·simp only[List.size_toArray,List.length_append,List.length_take,List.length_drop,Array.length_toList]
   simp only[Array.length_toList] at hfit
   omega
  ·have hlen:(cur.toList.take (n*size)).length=n*size:=by rw[htake,h.1]
   rw[List.append_assoc,List.take_append_of_le_length (by rw[hlen];omega),List.take_of_length_le (by rw[hlen];omega),htake]
theorem q7b (T:TypeId) (hu:P.underlying T=some (.slice (P.elem T))) (hs:∀ w,(sizeOf (P.elem T)).run P w=.ok size w) (w:World) (g n c v:Nat) (h:Int) (hh:h=v) (hv:v≤n) :
  (Instr.slice T (.slice (some ⟨g,0,none⟩) n c) (some (.int .i64 h)) none none).run P w=.ok (.slice (skipA g v c size) (n-v) (c-v)) w:=by
 subst hh
 rw[run_slice_l w T _ n c hu .i64 (v:Int) (by omega) (by omega),hs]
 simp only[Result.andThen,sliced,Int.toNat_natCast,skipA]
 congr 2
 split <;> simp[Addr.add_lit]
theorem slice_toG (T:TypeId) (hu:P.underlying T=some (.slice (P.elem T))) (hs:∀ w,(sizeOf (P.elem T)).run P w=.ok size w) (w:World) (g n c v:Nat) (h:Int) (hh:h=v) (hv:v≤c) :
  (Instr.slice T (.slice (some ⟨g,0,none⟩) n c) none (some (.int .i64 h)) none).run P w=.ok (.slice (some ⟨g,0,none⟩) v c) w:=by
 subst hh
 rw[run_slice_h w T _ n c hu .i64 (v:Int) (by omega) (by omega),hs]
 simp only[Result.andThen,sliced,Int.toNat_natCast,Nat.zero_mul,Nat.sub_zero]
 congr 2
 split <;> simp[add_zero_addr']
theorem slice_midG (T:TypeId) (hu:P.underlying T=some (.slice (P.elem T))) (hs:∀ w,(sizeOf (P.elem T)).run P w=.ok size w) (w:World) (g n c u v:Nat) (l h:Int) (hl:l=u) (hh:h=v) (huv:u≤v) (hv:v≤c) :
  (Instr.slice T (.slice (some ⟨g,0,none⟩) n c) (some (.int .i64 l)) (some (.int .i64 h)) none).run P w=.ok (.slice (skipA g u c size) (v-u) (c-u)) w:=by
 subst hl hh
 rw[run_slice_lh w T _ n c hu .i64 .i64 (u:Int) (v:Int) (by omega) (by omega) (by omega),hs]
 simp only[Result.andThen,sliced,Int.toNat_natCast,skipA]
 congr 2
 split <;> simp[Addr.add_lit]
end
theorem q9g {P:Program} {w w':World} {o:Oper} {a:Act} {K:Act→World→Prop} {Q:Exit→Act→World→Prop} (s x:Operand) (t:TypeId)
  (ho:o.op=.call { callee:=.builtin .append,args:=#[s,x],argTypes:=#[t,t] }) (v u r:Value) (hs:a.eval s=v) (hx:a.eval x=u)
  (hrun:(Builtin.append_ #[t,t] o.type #[v,u]).run P w=.ok r w') (h:K (a.put o.dst r) w'):o.wp P a w K Q:=by
 unfold Oper.wp execOp
 simp only[ho,resolve,invoke,builtin,Sem.run_bind,Sem.run_pure,Result.andThen_ok,List.map_toArray,List.map_cons,List.map_nil,hs,hx,hrun]
 exact h
theorem elem_msg:Tryz.prog.elem 86=116:=by kernel_rfl
theorem q4y:Tryz.prog.underlying 86=some (.slice (Tryz.prog.elem 86)):=by rw[elem_msg];exact Tryz.underlying86
theorem q52 (w:World):(sizeOf (Tryz.prog.elem 86)).run Tryz.prog w=.ok 9 w:=by rw[elem_msg];kernel_rfl
def zmsgV:Value:=.agg #[.int .i64 0,.int .i64 0,.int .i64 0,.int .i64 0,.int .i64 0,.int .i64 0,.int .i64 0,.int .i64 0,.slice none 0 0]
theorem zero_msg (w:World):(zeroValue 116).run Tryz.prog w=.ok zmsgV w:=by kernel_rfl
theorem mrs_one (l:List MsR):∀ u∈l.flatMap q0c,u.oneCell'=true:=fun u hu=>by
 obtain⟨p,_,hp⟩:=List.mem_flatMap.1 hu
 simp only[q0c,q04,List.mem_cons,List.not_mem_nil,or_false] at hp
 rcases hp with rfl|rfl|rfl|rfl|rfl|rfl|rfl|rfl|rfl <;> rfl
def DelP (base gv n cap:Nat) (xs:List Value) (w:World) (e:Ending) (w':World):Prop:=
 e=.returned (.slice (some ⟨gv,0,none⟩) n cap)∧w'.ownsRow base 116 9 (.slice (some ⟨gv,0,none⟩) n cap) n xs∧Fr (fun k=>k=gv) w w'
theorem delete_any (base gv n cap k:Nat) (xs:List Value) (w:World) (h:w.ownsRow base 116 9 (.slice (some ⟨gv,0,none⟩) n cap) n xs) (hk:k<n) (hn:n≤100000) (h1:∀ u∈xs,u.oneCell'=true) :
  Calls Tryz.prog 77 #[.slice (some ⟨gv,0,none⟩) n cap,.int .i64 k,.int .i64 ((k:Int)+1)] w (DelP base gv (n-1) cap (xs.take (k*9)++xs.drop ((k+1)*9)) w):=by
 have hcap:=(own_cap h).1
 obtain⟨i,hi,_,hsize,_⟩:=info_parts q58
 have hone:((k:Int) == (k:Int)+1)=false:=by simpa using (by omega:¬(k:Int)=(k:Int)+1)
 have s1:=fun w=>slice_toG (size:=9) 86 q4y q52 w gv n cap k (k:Int) rfl (by omega)
 have s2:=fun w=>q7b (size:=9) 86 q4y q52 w gv n cap (k+1) ((k:Int)+1) (by omega) (by omega)
 obtain⟨w1,hap,hrow,hf⟩:=run_cutOut (w:=w.drew) 86 86 i Tryz.underlying86 hi hsize h h1 (a:=k) (b:=k+1) (by omega) (by omega)
 have hkn:k+(n-(k+1))=n-1:=by omega
 rw[hkn] at hap hrow
 have hf:Fr (fun k=>k=gv) w w1:=⟨hf.os,hf.tape,hf.output,hf.size,hf.block⟩
 obtain⟨w2,hcl,hrow2,hf2⟩:=q4h 86 zmsgV Tryz.underlying86 zero_msg (by rfl) (by decide) hrow (m:=n-(n-1)) (c:=cap-(n-1)) (by omega)
 have s3:=fun w=>slice_midG (size:=9) 86 q4y q52 w gv (n-1) cap (n-1) n ((n-1:Nat):Int) (n:Int) rfl rfl (by omega) (by omega)
 have hfin:DelP base gv (n-1) cap (xs.take (k*9)++xs.drop ((k+1)*9)) w (.returned (.slice (some ⟨gv,0,none⟩) (n-1) cap)) w2:=⟨rfl,hrow2,hf.trans hf2⟩
 have HFIN:=LH hfin;clear hfin hrow hrow2 hf hf2 h
 have hkn1:(k:Int)+1≤n:=by omega
 go_enter Tryz.func77,Tryz.ntmps77
 go_wp2_with fail
 refine wp_region_any (by kernel_rfl) ?_
 change wpAny _ _ _ _ _ _ _ (World.drew _)
 refine rtake 0 rfl (by kernel_rfl) (by kernel_rfl) (by kernel_rfl) (fun _ _ _ h=>h) (by kernel_rfl) (fun w=>by go_simp;rfl) ?_
 refine rtake 1 rfl (by kernel_rfl) (by kernel_rfl) (by kernel_rfl) (fun _ _ _ h=>h) (by kernel_rfl) (fun w=>by go_simp;rfl) ?_
 refine rtake 2 rfl (by kernel_rfl) (by kernel_rfl) (by kernel_rfl) (fun _ _ _ h=>h) (by kernel_rfl) (fun w=>by have:=s1 w;go_simp;rfl) ?_
 refine rtake 3 rfl (by kernel_rfl) (by kernel_rfl) (by kernel_rfl) (fun _ _ _ h=>h) (by kernel_rfl) (fun w=>by go_simp;rfl) ?_
 refine rtake 4 rfl (by kernel_rfl) (by kernel_rfl) (by kernel_rfl) (fun _ _ _ h=>h) (by kernel_rfl) (fun w=>by go_simp;rfl) ?_
 refine rtake 5 rfl (by kernel_rfl) (by kernel_rfl) (by kernel_rfl) (fun _ _ _ h=>h) (by kernel_rfl) (fun w=>by have:=s2 w;go_simp;rfl) ?_
 refine ronly 6 (by kernel_rfl) rfl (by kernel_rfl) (fun K hK=>?_)
 refine q9g (.tmp 22) (.tmp 25) 86 rfl _ _ _ rfl rfl hap ?_
 go_simp
 refine hK _ _ ?_
 clear hK K
 refine ronly 7 (by kernel_rfl) rfl (by kernel_rfl) (fun K hK=>?_)
 go_simp
 refine hK _ _ ?_
 clear hK K
 refine wpAny_done (by kernel_rfl) ?_ _
 have:=s3 w1
 go_wp2_with fail
 go_ret
 exact HFIN.out
def mrV (x:MsR):Value:=msgV x.m x.A x.n x.k
def zmr:MsR:=⟨⟨0,0,0,0,0,⟨0,0,0,[]⟩⟩,none,0,0⟩
theorem msg_size':(Tryz.prog.info? 116).map (·.size)=some 9:=by kernel_rfl
theorem ret_mr {fn:Func} {p u:Tmp} (h:fn.results=#[.cell p 116,.tmp u]) (tmps:Array Value) (w:World) (g:Nat) (x:MsR) (hp:tmps.getD p undef=.pointer (some ⟨g,0,none⟩)) (hb:Blk w g 116 (q04 x.m x.A x.n x.k)) :
  (results fn tmps).run Tryz.prog w=.ok (.tuple #[mrV x,tmps.getD u undef]) w:=by
 rw[results_cell_tmp h,hp]
 simp only[asAddr,Sem.run_pure,Result.andThen]
 rw[run_loadVar_row w g 116 116 (q04 x.m x.A x.n x.k) (0,0) _ hb Tryz.underlying116 rfl msg_size']
 rfl
theorem q6b:∀ (l:List MsR) (k:Nat),(l.flatMap q0c).take (k*9)=(l.take k).flatMap q0c
 | [],k=>by simp
 | x::l,0=>by simp
 | x::l,k+1=>by
  have e:(k+1)*9=9+k*9:=by omega
  rw[List.flatMap_cons,List.take_succ_cons,List.flatMap_cons,e,← q6b l k]
  rw[List.take_append,q21,Nat.add_sub_cancel_left,List.take_of_length_le (by rw[q21];omega)]
theorem q9d:∀ (l:List MsR) (k:Nat),(l.flatMap q0c).drop (k*9)=(l.drop k).flatMap q0c
 | [],k=>by simp
 | x::l,0=>by simp
 | x::l,k+1=>by
  have e:(k+1)*9=9+k*9:=by omega
  rw[List.flatMap_cons,List.drop_succ_cons,e,← q9d l k]
  rw[List.drop_append,q21,Nat.add_sub_cancel_left,List.drop_of_length_le (by rw[q21];omega),List.nil_append]
theorem flat9_erase (l:List MsR) (k:Nat):(l.flatMap q0c).take (k*9)++(l.flatMap q0c).drop ((k+1)*9)=(l.eraseIdx k).flatMap q0c:=by
 rw[q6b,q9d,← List.flatMap_append,List.eraseIdx_eq_take_drop_succ]
def fill9 (w:World) (g:Nat) (x:MsR):World:=
 ((((((((w.setCell ⟨g,0,none⟩ (.int .i64 x.m.kind)).setCell ⟨g,1,none⟩ (.int .i64 x.m.from_)).setCell ⟨g,2,none⟩ (.int .i64 x.m.to_)).setCell ⟨g,3,none⟩ (.int .i64 x.m.epoch)).setCell ⟨g,4,none⟩ (.int .i64 x.m.n)).setCell ⟨g,5,none⟩ (.int .i64 x.m.cmd.kind)).setCell ⟨g,6,none⟩ (.int .i64 x.m.cmd.tx)).setCell ⟨g,7,none⟩ (.int .i64 x.m.cmd.time)).setCell ⟨g,8,none⟩ (.slice x.A x.n x.k)
theorem fill9_fr (w:World) (g:Nat) (x:MsR):Fr (fun i=>i=g) w (fill9 w g x):=
 (((((((((Fr.refl (fun i=>i=g) w).setCell (p:=⟨g,0,none⟩) (.inl rfl) _).setCell (p:=⟨g,1,none⟩) (.inl rfl) _).setCell (p:=⟨g,2,none⟩) (.inl rfl) _).setCell (p:=⟨g,3,none⟩) (.inl rfl) _).setCell (p:=⟨g,4,none⟩) (.inl rfl) _).setCell (p:=⟨g,5,none⟩) (.inl rfl) _).setCell (p:=⟨g,6,none⟩) (.inl rfl) _).setCell (p:=⟨g,7,none⟩) (.inl rfl) _).setCell (p:=⟨g,8,none⟩) (.inl rfl) _
theorem fill9_blk {w:World} {g:Nat} {x0:MsR} (h:Blk w g 116 (q04 x0.m x0.A x0.n x0.k)) (x:MsR):Blk (fill9 w g x) g 116 (q04 x.m x.A x.n x.k):=by
 have:=((((((((h.set_ 0 (.int .i64 x.m.kind)).set_ 1 (.int .i64 x.m.from_)).set_ 2 (.int .i64 x.m.to_)).set_ 3 (.int .i64 x.m.epoch)).set_ 4 (.int .i64 x.m.n)).set_ 5 (.int .i64 x.m.cmd.kind)).set_ 6 (.int .i64 x.m.cmd.tx)).set_ 7 (.int .i64 x.m.cmd.time)).set_ 8 (.slice x.A x.n x.k)
 unfold fill9
 simpa [q04] using this
def TakeYes (base g off nd:Nat) (T:TypeId) (cs:Array Value) (V:Value) (D:Option Nat) (L:List MsR) (dead:Int→Bool) (lost:Int) (k:Nat) (w:World) (e:Ending) (w':World):Prop:=
 ∃ V' x,L[k]? = some x∧e=.returned (.tuple #[mrV x,.nilIface])∧NetI w' base g off T (cs.setIfInBounds off V') V' D nd (L.eraseIdx k) dead lost∧OwnW w' base x∧Fr (NetB g V D) w w'∧V'.ownBlock=V.ownBlock
theorem net_cut {w w2 w3:World} {base g off nd:Nat} {T:TypeId} {cs:Array Value} {V:Value} {D:Option Nat} {L:List MsR} {dead:Int→Bool} {lost:Int} {k gv cap:Nat} {x:MsR}
  (hI:NetI w base g off T cs V D nd L dead lost) (hV:V=.slice (some ⟨gv,0,none⟩) L.length cap) (hx:L[k]? = some x) (hf:Fr (fun k=>w.heap.size≤k) w w2)
  (hrow:w3.ownsRow base 116 9 (.slice (some ⟨gv,0,none⟩) (L.length-1) cap) (L.length-1) ((L.eraseIdx k).flatMap q0c)) (hf3:Fr (fun k=>k=gv) w2 w3) :
  NetI (w3.setCell ⟨g,off,none⟩ (.slice (some ⟨gv,0,none⟩) (L.length-1) cap)) base g off T (cs.setIfInBounds off (.slice (some ⟨gv,0,none⟩) (L.length-1) cap)) (.slice (some ⟨gv,0,none⟩) (L.length-1) cap) D nd (L.eraseIdx k) dead lost∧
   OwnW (w3.setCell ⟨g,off,none⟩ (.slice (some ⟨gv,0,none⟩) (L.length-1) cap)) base x∧Fr (NetB g V D) w (w3.setCell ⟨g,off,none⟩ (.slice (some ⟨gv,0,none⟩) (L.length-1) cap))∧Blk w3 g T cs:=by
 have hk:k<L.length:=(List.getElem?_eq_some_iff.1 hx).1
 have hVo:V.ownBlock=some gv:=by rw[hV];rfl
 have hlt:=hI.vlt hVo
 have hI2:NetI w2 base g off T cs V D nd L dead lost:=hI.fr hf (fun h=>by have:=hI.blk.lt;omega) (fun b hb h=>by have:=hI.vlt hb;omega) (fun b hb h=>by have:=hI.down;rw[hb] at this;have:=this.lt;omega) (fun b t cs hb _ h=>by have:=hb.lt;omega)
 have hgV:¬g=gv:=fun e=>q02 hI2.row hI2.blk (fun e=>hI.ne.1 e.symm) (by rw[hVo,e])
 have hb3:Blk w3 g T cs:=hf3.blk hI2.blk hgV
 have hset:Fr (fun k=>k=g) w3 (w3.setCell ⟨g,off,none⟩ (.slice (some ⟨gv,0,none⟩) (L.length-1) cap)):=Fr.set1 g w3 off _
 have hown:∀ y∈L,OwnW (w3.setCell ⟨g,off,none⟩ (.slice (some ⟨gv,0,none⟩) (L.length-1) cap)) base y:=fun y hy=>by
  have h2:=hI2.own y hy
  have h3:=hf3.own h2.1 (fun b hb e=>by subst e;exact q0i hI2.row h2.1 (by decide) hVo hb)
  exact⟨hset.own h3 (fun b hb e=>by subst e;exact q02 h3 hb3 (fun e=>hI.ne.2 e.symm) hb),h2.2⟩
 have hoff:off<cs.size:=by
  rcases Nat.lt_or_ge off cs.size with h|h
  ·exact h
  ·have:=hI.c0;rw[Array.getElem?_eq_none h] at this;cases this
 have hel:(L.eraseIdx k).length=L.length-1:=by rw[List.length_eraseIdx_of_lt hk]
 refine⟨⟨hb3.set_ _ _,by simp[hoff],?_,?_,?_,fun y hy=>hown y (List.mem_of_mem_eraseIdx hy),?_,by rw[hel];have:=hI.len;omega,hI.ne,?_⟩,hown x (List.mem_of_getElem? hx),?_,hb3⟩
 ·rw[Array.getElem?_setIfInBounds_ne (by omega)];exact hI.c1
 ·rw[Array.getElem?_setIfInBounds_ne (by omega)];exact hI.c2
 ·rw[hel]
  exact hset.own hrow (fun b hb e=>by subst e;exact q02 hrow hb3 (fun e=>hI.ne.1 e.symm) hb)
 ·refine(hI2.down.fr hf3 (fun b hb e=>?_)).fr hset (fun b hb e=>?_)
  ·subst e;exact hI2.down.notOwn hI2.row hb hVo
  ·subst e;exact hI2.down.notBlk hI2.blk hb
 ·exact Nat.le_trans hI2.bg (Nat.le_trans hf3.size hset.size)
 ·refine(hf.mono (T:=NetB g V D) (fun i hi (h:w.heap.size≤i)=>absurd hi (by omega))).trans' ((hf3.mono (T:=fun k=>k=gv∨k=g) (fun i _ h=>.inl h)).trans' hset (fun i _ h=>.inr h)) (fun i hi h=>?_)
  rcases h with rfl|rfl
  ·exact .inr (.inl hVo.symm)
  ·exact .inl rfl
theorem own_at {w:World} {base e size n:Nat} {v:Value} {xs:List Value} (h:w.ownsRow base e size v n xs) (hn:0<n):∃ g cap,v=.slice (some ⟨g,0,none⟩) n cap∧base≤g∧g<w.heap.size:=by
 obtain⟨g,cap,hv,hb,hlt⟩:=h.form hn
 exact⟨g,cap,hv,hb,hlt⟩
theorem take_yes (base g off nd:Nat) (T:TypeId) (cs:Array Value) (V:Value) (D:Option Nat) (L:List MsR) (dead:Int→Bool) (lost:Int) (k:Nat) (w:World)
  (hI:NetI w base g off T cs V D nd L dead lost) (hk:k<L.length):Calls Tryz.prog 48 #[.pointer (some ⟨g,off,none⟩),.int .i64 k] w (TakeYes base g off nd T cs V D L dead lost k w):=by
 obtain⟨gv,cap,hV,hbv,hlv⟩:=own_at hI.row (by omega)
 have hrd:=Rd.of_own (by rw[← hV];exact hI.row:w.ownsRow base 116 9 (.slice (some ⟨gv,0,none⟩) L.length cap) L.length (L.flatMap q0c))
 obtain⟨g',o',x,hA,_,hx,h0,h1,h2,h3,h4,h5,h6,h7,h8⟩:=hrd.cells9 rfl hk
 simp only[Option.some.injEq,Addr.mk.injEq,and_true] at hA
 obtain⟨rfl,rfl⟩:=hA
 rw[Nat.zero_add] at h0 h1 h2 h3 h4 h5 h6 h7 h8
 have c0:=(hI.blk.cell off).trans hI.c0
 rw[hV] at c0
 have hlen:=hI.len
 have hgl:=hI.blk.lt
 have HI:=LH hI;clear hI
 have HV:=LH hV;clear hV hrd
 have HX:=LH hx;clear hx
 have hkl:(k:Int)<L.length:=by omega
 have hk0:¬(k:Int)<0:=by omega
 have hkge:¬(L.length:Int)≤k:=by omega
 go_enter Tryz.func48,Tryz.ntmps48
 go_wp2_with fail
 have hw2:Fr (fun k=>w.heap.size≤k) w ((w.alloc (.cells (q04 zmr.m none 0 0) 116)).alloc (.cells (q04 x.m x.A x.n x.k) 116)):=((Fr.refl _ _).alloc _).alloc _
 have hba:Blk ((w.alloc (.cells (q04 zmr.m none 0 0) 116)).alloc (.cells (q04 x.m x.A x.n x.k) 116)) w.heap.size 116 (q04 zmr.m none 0 0):=(Blk.new w _ _).alloc _
 have hbb:Blk ((w.alloc (.cells (q04 zmr.m none 0 0) 116)).alloc (.cells (q04 x.m x.A x.n x.k) 116)) (w.heap.size+1) 116 (q04 x.m x.A x.n x.k):=by
  have:=Blk.new (w.alloc (.cells (q04 zmr.m none 0 0) 116)) 116 (q04 x.m x.A x.n x.k)
  simpa using this
 have hrow2:=hw2.own HI.out.row (fun b hb (h:w.heap.size≤b)=>by have:=HI.out.vlt hb;omega)
 rw[HV.out] at hrow2
 unfold q04 zmr at hw2 hba hbb hrow2
 generalize ((w.alloc _).alloc _)=w2 at *
 refine(delete_any base gv L.length cap k _ w2 hrow2 hk (by omega) (mrs_one L)).mono ?_
 rintro e w3 ⟨rfl,hrow3,hf3⟩
 rw[flat9_erase] at hrow3
 obtain⟨hN,hO,hF,hb3⟩:=net_cut HI.out HV.out HX.out hw2 hrow3 hf3
 have z0:=hb3.cell off
 have z1:=hb3.frozen off
 rw[HI.out.c0,HV.out] at z0
 have hgw:¬g=w.heap.size:=by omega
 have hset:Fr (fun k=>k=g) w3 (w3.setCell ⟨g,off,none⟩ (.slice (some ⟨gv,0,none⟩) (L.length-1) cap)):=Fr.set1 g w3 off _
 have ha4:=hset.blk (hf3.blk hba (fun h:w.heap.size=gv=>by omega)) (fun h:w.heap.size=g=>by omega)
 have hb4:=hset.blk (hf3.blk hbb (fun h:w.heap.size+1=gv=>by omega)) (fun h:w.heap.size+1=g=>by omega)
 have hz3:=hb3.lt
 have HN:=LH hN;clear hN
 have HO:=LH hO;clear hO
 have HF:=LH hF;clear hF
 clear hset hb3 hrow3 hf3 hrow2 hw2 hba hbb h0 h1 h2 h3 h4 h5 h6 h7 h8 c0
 go_upto_region 5 with (fail)
 generalize w3.setCell ⟨g,off,none⟩ (.slice (some ⟨gv,0,none⟩) (L.length-1) cap)=w4 at *
 have a0:=ha4.cell 0
 have a1:=ha4.cell 1
 have a2:=ha4.cell 2
 have a3:=ha4.cell 3
 have a4:=ha4.cell 4
 have a5:=ha4.cell 5
 have a6:=ha4.cell 6
 have a7:=ha4.cell 7
 have a8:=ha4.cell 8
 have f0:=ha4.frozen 0
 have f1:=ha4.frozen 1
 have f2:=ha4.frozen 2
 have f3:=ha4.frozen 3
 have f4:=ha4.frozen 4
 have f5:=ha4.frozen 5
 have f6:=ha4.frozen 6
 have f7:=ha4.frozen 7
 have f8:=ha4.frozen 8
 have b0:=hb4.cell 0
 have b1:=hb4.cell 1
 have b2:=hb4.cell 2
 have b3:=hb4.cell 3
 have b4:=hb4.cell 4
 have b5:=hb4.cell 5
 have b6:=hb4.cell 6
 have b7:=hb4.cell 7
 have b8:=hb4.cell 8
 simp only[List.getElem?_toArray,List.getElem?_cons_succ,List.getElem?_cons_zero] at a0 a1 a2 a3 a4 a5 a6 a7 a8 b0 b1 b2 b3 b4 b5 b6 b7 b8
 have HA4:=LH ha4;clear ha4
 go_wp2_with fail
 have hfill:=fill9_fr w4 w.heap.size x
 refine bodyPost_ret (ret_mr rfl _ _ w.heap.size x rfl (fill9_blk (x0:=zmr) HA4.out x)) rfl ⟨_,x,HX.out,rfl,HN.out.fr hfill (fun h=>hgw h) (fun b hb h=>?_) (fun b hb h=>?_) (fun b t cs hb ht h=>?_),⟨hfill.own HO.out.1 (fun b hb h=>?_),HO.out.2⟩,HF.out.trans' hfill (fun i hi (h:i=w.heap.size)=>absurd hi (by omega)),by rw[HV.out];rfl⟩
 ·have e:gv=b:=by simpa [Value.ownBlock] using hb
  have h':b=w.heap.size:=h
  omega
 ·have h':b=w.heap.size:=h
  have:=HI.out.down;rw[hb] at this;have:=this.lt;omega
 ·have h':b=w.heap.size:=h
  subst h'
  exact absurd rfl (Blk.ne_ HA4.out hb (by rw[ht];decide))
 ·have h':b=w.heap.size:=h
  subst h'
  exact q02 HO.out.1 HA4.out (by decide) hb
theorem msg_sizeH:(Tryz.prog.info? 116).map (·.size)=some 9:=by kernel_rfl
def msgP (m:Ms) (w:World) (e:Ending) (w':World):Prop:=e=.returned (msgV m none 0 0)∧Below w.heap.size w w'
section
variable {w w':World} {base g:Nat} {C V:Value} {L:List CmR} {d:Nd}
theorem q55 (h:NdI w base g C V L d) (kind b k:Int) (h0:0≤d.at_+b) (h1:d.at_+b<d.nodes.length) :
  Calls Tryz.prog 79 #[.pointer (some ⟨g,0,none⟩),.int .i64 kind,.int .i64 b,.int .i64 k] w (msgP (d.msg kind b k) w):=by
 obtain⟨c0,c1,c2,c3,_,_,kl⟩:=h.cells
 obtain⟨A,c,rfl⟩:=h.confV
 obtain⟨j,hj⟩:∃ j:Nat,d.at_+b=j:=⟨(d.at_+b).toNat,by omega⟩
 have hjn:(j:Int)<d.nodes.length:=by omega
 obtain⟨gc,oc,u,rfl,hgc,hu,cu⟩:=(Rd.of_own h.conf).at1 (k:=j) (by omega)
 rw[List.getElem?_map] at hu
 have hf:=h.few
 have hx:d.nodes[j]? = some d.nodes[j]:=List.getElem?_eq_getElem (by omega)
 rw[hx] at hu
 obtain rfl:=Option.some.inj hu
 have hto:d.to_ b=d.nodes[j]:=by unfold Nd.to_;rw[hj];simp[hx]
 have hpost:∀ W',Below w.heap.size w W'→msgP (d.msg kind b k) w (.returned (.agg #[.int .i64 kind,.int .i64 d.id,.int .i64 d.nodes[j],.int .i64 d.epoch,.int .i64 k,.int .i64 0,.int .i64 0,.int .i64 0,.slice none 0 0])) W':=fun W' hW=>⟨by unfold Nd.msg msgV cm0;rw[hto],hW⟩
 have HP:=LH hpost;clear hpost
 have hw:IntKind.i64.wrap (d.at_+b)=(j:Int):=by rw[IntWalk.i64_in _ ⟨by omega,by omega⟩,hj]
 have hjn0:(0:Int)≤(j:Int):=by omega
 generalize d.nodes[j]=to1 at *
 have hnl:d.nodes.length≤6:=hf
 generalize hnn:d.nodes.length=n at *
 generalize d.at_=a at *
 generalize d.id=i at *
 generalize d.epoch=ep at *
 clear h hx hto hj h0 h1 hnn
 go_enter Tryz.func79,Tryz.ntmps79
 go_wp2_with fail
 refine wp_region_still_tail 25 (by kernel_rfl) (by kernel_rfl) ?_
 change wpStill _ _ (World.drew _) _ _ _
 simp only[List.take_succ_cons,List.take_zero,List.drop_succ_cons,List.drop_zero]
 repeat still_step
 refine wpStill_nil ?_
 change wpList _ _ _ _ _ (World.drew _)
 go_wp2_with fail
 refine bodyPost_ret (results_cell_row rfl _ _ w.heap.size 116 _ (0,0) _ rfl (show _ from Blk.new w _ _) Tryz.underlying116 rfl msg_sizeH) rfl ?_
 exact HP.out _ ((Below.refl _ _).alloc (Nat.le_refl _) _).drew
def fwdP (m:Ms) (n:Nat) (w:World) (e:Ending) (w':World):Prop:=∃ A k,e=.returned (msgV m A n k)∧w'.ownsRow w.heap.size 45 3 (.slice A n k) n (m.cmd.writes.flatMap q0g)∧Below w.heap.size w w'
theorem rd4 {w:World} {B n j:Nat} {A:Option Addr} {l:List CmR} (h:Rd w B 4 A n (l.flatMap q0m)) (hl:l.length=n) (hj:j<n):∃ g off x,A=some ⟨g,off,none⟩∧g<B∧l[j]? = some x∧
  w.cell? ⟨g,off+j*4,none⟩=some (.int .i64 x.c.kind)∧w.cell? ⟨g,off+j*4+1,none⟩=some (.int .i64 x.c.tx)∧w.cell? ⟨g,off+j*4+2,none⟩=some (.int .i64 x.c.time)∧w.cell? ⟨g,off+j*4+3,none⟩=some (.slice x.A x.n x.k):=by
 obtain⟨g,off,e,hb,hc⟩:=h.2 (by omega)
 have hx:l[j]? = some l[j]:=List.getElem?_eq_getElem (by omega)
 obtain⟨f0,f1,f2,f3⟩:=flat4 l j _ hx
 exact⟨g,off,l[j],e,hb,hx,hc _ _ f0,hc _ _ f1,hc _ _ f2,hc _ _ f3⟩
theorem OwnC.reads {x:CmR} (h:OwnC w base x):q1k w w.heap.size x.A x.n x.c.writes:=⟨h.2.1,Rd.of_own h.1⟩
theorem OwnC.none_ {x:CmR} (h:OwnC w base x):x.A=none→x.k=0:=fun e=>by
 rcases h.1.2 with ⟨hv,_⟩|⟨g',cap,cur,hv,_⟩
 ·injection hv
 ·rw[e] at hv;injection hv with hv;cases hv
theorem q81 (h:NdI w base g C V L d) (k:Nat) (x:CmR) (hx:L[k]? = some x) (h0:0≤d.at_) (h1:d.at_+1<d.nodes.length) :
  Calls Tryz.prog 80 #[.pointer (some ⟨g,0,none⟩),.int .i64 k] w (fwdP (d.forward k) x.n w):=by
 have hkl:=(List.getElem?_eq_some_iff.1 hx).1
 have hlen:=h.len
 have hfw:d.forward k=⟨3,d.id,d.to_ 1,d.epoch,k,x.c⟩:=by
  unfold Nd.forward
  rw[← h.log,csOf,List.getElem?_map,hx]
  rfl
 rw[hfw]
 have hb1:Below w.heap.size w (w.alloc (.cells (q04 zmr.m none 0 0) 116)):=(Below.refl _ _).alloc (Nat.le_refl _) _
 have hN1:=h.tall hb1
 have HC:=LH (q55 hN1 3 1 k (by omega) h1)
 have hba:Blk (w.alloc (.cells (q04 zmr.m none 0 0) 116)) w.heap.size 116 (q04 zmr.m none 0 0):=Blk.new w _ _
 unfold q04 zmr at HC hba hb1 hN1
 have HBA:=LH hba;clear hba
 have HN1:=LH hN1;clear hN1
 have HB1:=LH hb1;clear hb1
 have HX:=LH hx;clear hx
 clear h hfw
 go_enter Tryz.func80,Tryz.ntmps80
 go_wp2_with fail
 refine HC.out.mono ?_
 rintro e w1 ⟨rfl,hbw⟩
 have hn1:=HN1.out.tall hbw
 have hba:=HBA.out.below hbw HBA.out.lt
 have HB2:=LH (HB1.out.trans (hbw.mono HB1.out.size))
 clear HC HN1 HBA HB1 hbw
 unfold Nd.msg cm0 msgV
 have hn2:=hn1.tall ((Below.refl w1.heap.size w1).alloc (Nat.le_refl _) (.cells #[.int .i64 3,.int .i64 d.id,.int .i64 (d.to_ 1),.int .i64 d.epoch,.int .i64 k,.int .i64 0,.int .i64 0,.int .i64 0,.slice none 0 0] 116))
 obtain⟨A,c,rfl⟩:=hn1.logV
 obtain⟨gl,ol,x',rfl,hgl,hx',l0,l1,l2,l3⟩:=rd4 (Rd.of_own hn1.row) rfl hkl
 rw[HX.out] at hx'
 obtain rfl:=Option.some.inj hx'
 obtain⟨_,_,_,_,c4,_,kl⟩:=hn1.cells
 clear hx'
 have HN2:=LH hn2;clear hn2
 have HN:=LH hn1;clear hn1
 have HA:=LH hba;clear hba
 go_upto_region 3 with (fail)
 have hx5:Blk (w1.alloc (.cells #[.int .i64 3,.int .i64 d.id,.int .i64 (d.to_ 1),.int .i64 d.epoch,.int .i64 k,.int .i64 x.c.kind,.int .i64 x.c.tx,.int .i64 x.c.time,.slice x.A x.n x.k] 116)) w1.heap.size 116 #[.int .i64 3,.int .i64 d.id,.int .i64 (d.to_ 1),.int .i64 d.epoch,.int .i64 k,.int .i64 x.c.kind,.int .i64 x.c.tx,.int .i64 x.c.time,.slice x.A x.n x.k]:=Blk.new w1 _ _
 have hbw2:Below w1.heap.size w1 (w1.alloc (.cells #[.int .i64 3,.int .i64 d.id,.int .i64 (d.to_ 1),.int .i64 d.epoch,.int .i64 k,.int .i64 x.c.kind,.int .i64 x.c.tx,.int .i64 x.c.time,.slice x.A x.n x.k] 116)):=(Below.refl _ _).alloc (Nat.le_refl _) _
 have hn2:=HN.out.tall hbw2
 have ha2:=HA.out.below hbw2 HA.out.lt
 have hbig:w1.heap.size<(w1.alloc (.cells #[.int .i64 3,.int .i64 d.id,.int .i64 (d.to_ 1),.int .i64 d.epoch,.int .i64 k,.int .i64 x.c.kind,.int .i64 x.c.tx,.int .i64 x.c.time,.slice x.A x.n x.k] 116)).heap.size:=by simp
 have hlt5:w.heap.size<w1.heap.size:=HA.out.lt
 have hne:w.heap.size≠w1.heap.size:=by omega
 have HB3:=LH (HB2.out.trans (hbw2.mono HB2.out.size));clear hbw2
 clear HN HA HN2 l0 l1 l2 l3 c4
 generalize (w1.alloc _)=w2 at *
 generalize w1.heap.size=H5 at *
 have hoc:=hn2.own x (List.mem_of_getElem? HX.out)
 have HCL:=LH (q8b w.heap.size w2.heap.size x.n x.k x.A x.c.writes w2 hoc.reads (Nat.le_refl _) HB3.out.size hoc.2.2 hoc.none_)
 have e8:=hx5.cell 8
 simp only[List.getElem?_toArray,List.getElem?_cons_zero,List.getElem?_cons_succ] at e8
 have HA2:=LH ha2;clear ha2
 have HX5:=LH hx5;clear hx5
 clear hoc hn2
 go_wp2_with fail
 refine HCL.out.mono ?_
 rintro e w3 ⟨A3,k3,rfl,hrow3,hb3⟩
 clear HCL e8
 have hx5:=HX5.out.below hb3 HX5.out.lt
 have ha4:=HA2.out.below hb3 HA2.out.lt
 have HB4:=LH (HB3.out.trans (hb3.mono HB3.out.size));clear hb3 HX5 HA2
 have a0:=ha4.cell 0
 have a1:=ha4.cell 1
 have a2:=ha4.cell 2
 have a3:=ha4.cell 3
 have a4:=ha4.cell 4
 have a5:=ha4.cell 5
 have a6:=ha4.cell 6
 have a7:=ha4.cell 7
 have a8:=ha4.cell 8
 have f0:=ha4.frozen 0
 have f1:=ha4.frozen 1
 have f2:=ha4.frozen 2
 have f3:=ha4.frozen 3
 have f4:=ha4.frozen 4
 have f5:=ha4.frozen 5
 have f6:=ha4.frozen 6
 have f7:=ha4.frozen 7
 have f8:=ha4.frozen 8
 have b0:=hx5.cell 0
 have b1:=hx5.cell 1
 have b2:=hx5.cell 2
 have b3:=hx5.cell 3
 have b4:=hx5.cell 4
 have b5:=hx5.cell 5
 have b6:=hx5.cell 6
 have b7:=hx5.cell 7
 have b8:=hx5.cell 8
 have z8:=hx5.frozen 8
 simp only[List.getElem?_toArray,List.getElem?_cons_succ,List.getElem?_cons_zero] at a0 a1 a2 a3 a4 a5 a6 a7 a8 b0 b1 b2 b3 b4 b5 b6 b7 b8
 have ha5:=(Fr.set1 H5 w3 8 (.slice A3 x.n k3)).blk ha4 (fun h:w.heap.size=H5=>hne h)
 have HA5:=LH ha5;clear ha5
 have HROW:=LH hrow3;clear hrow3
 have hkl5:=hx5.lt
 have hkl4:=ha4.lt
 have hxb:∀ b,(Value.slice A3 x.n k3).ownBlock=some b→b≠H5∧b≠w.heap.size:=fun b hb=>⟨fun e=>q02 HROW.out hx5 (by decide) (e▸hb),fun e=>q02 HROW.out ha4 (by decide) (e▸hb)⟩
 have HXB:=LH hxb;clear hxb
 clear hx5 ha4
 have hne':¬H5=w.heap.size:=fun e=>hne e.symm
 go_wp2_with fail
 refine bodyPost_ret (results_cell_row rfl _ _ w.heap.size 116 _ (0,0) _ rfl (fill9_blk (x0:=zmr) HA5.out ⟨⟨3,d.id,d.to_ 1,d.epoch,k,x.c⟩,A3,x.n,k3⟩) Tryz.underlying116 rfl msg_sizeH) rfl ?_
 have hfill:=fill9_fr (w3.setCell ⟨H5,8,none⟩ (.slice A3 x.n k3)) w.heap.size ⟨⟨3,d.id,d.to_ 1,d.epoch,k,x.c⟩,A3,x.n,k3⟩
 refine⟨A3,k3,rfl,hfill.own ((Fr.set1 H5 w3 8 (.slice A3 x.n k3)).own HROW.out (fun b hb=>(HXB.out b hb).1)) (fun b hb=>(HXB.out b hb).2),?_⟩
 exact HB4.out.trans ((((Fr.set1 H5 w3 8 (.slice A3 x.n k3)).below (B:=w.heap.size) (fun b (e:b=H5)=>by rw[e];omega) (by omega))).trans (hfill.below (fun b (e:b=w.heap.size)=>by omega) (by simp[World.setCell];omega)))
end
end Go.Proofs.YtccahlhdifadfaaGreatDoor
