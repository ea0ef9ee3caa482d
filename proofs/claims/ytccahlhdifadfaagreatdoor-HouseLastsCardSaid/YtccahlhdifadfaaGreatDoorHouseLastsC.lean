/- chainmailkeep.HouseLasts is true of all nodes and acts (while each chain has a node that lives, behind Fix and Calm none is ending, and one that reads all fits in behind all that are committed). Conditions: those of the given card (the names of keys tied to the program's text). -/
import Derived.Test.YtccahlhdifadfaaGreatDoorPk05
import Derived.Test.YtccahlhdifadfaaGreatDoorCards
import Derived.Test.YtccahlhdifadfaaGreatDoorTie
import Derived.JoinedCond
import Derived.Deep.DeepWitnessRowRef
namespace Go.Proofs.YtccahlhdifadfaaGreatDoor.houseLasts
open Go.ChangeShapes Go.WideShapes Go.ChangeAt Go.RowKit Go.Deep
set_option linter.unusedVariables false
section
variable {H:Type}{enc:TypeId × Value->H}{W:World}
set_option maxRecDepth 100000 in
theorem open_act {n:Nat}{sp:Nat->Bool}{cs:List Value}{y:DataW H × List MemPlace}(h:DataW.trod enc Tryz.prog W 0 sp true n 34 cs=some y):∃x:ActX,cs=q6a x/\x.val.size<=maxLen:=by
 obtain⟨xs,m,_,rfl,hlen,hxl,hf⟩:=DataW.trod_struct Tryz.underlying34 h
 have hc:Tryz.prog.cellsOf 34=4:=Z1
 have hi:Tryz.prog.cellsOf 3=1:=Z1
 have hs:Tryz.prog.cellsOf 9=1:=Z1
 rw[hc] at hlen
 match cs,hlen,xs,hxl with
 | [c0,c1,c2,c3],_,[y0,y1,y2,y3],_=>
  have f0:=hf 0 _ rfl
  have f1:=hf 1 _ rfl
  have f2:=hf 2 _ rfl
  have f3:=hf 3 _ rfl
  simp[hi,hs] at f0 f1 f2 f3
  obtain⟨k0,e0,rfl,_⟩:=DataW.trod_int Tryz.underlying3 f0
  obtain⟨k1,e1,rfl,_⟩:=DataW.trod_int Tryz.underlying3 f1
  obtain⟨k2,e2,rfl,_⟩:=DataW.trod_int Tryz.underlying3 f2
  obtain⟨s3,e3,rfl,hs3⟩:=DataW.trod_string Tryz.underlying9 f3
  simp at e0 e1 e2 e3
  subst e0 e1 e2 e3
  exact⟨⟨k0,k1,k2,s3⟩,rfl,hs3⟩
end
theorem params_ok:∀t ∈ Tryz.f5.params.toList,Tryz.prog.readableRec t=true/\t < Tryz.prog.types.size:=by
 rw[Tryz.params5]
 intro t ht
 rcases (by simpa using ht:t=3 ∨ t=22) with rfl | rfl
 · exact⟨by kernel_rfl,by rw[h_size];decide⟩
 · exact⟨by kernel_rfl,by rw[h_size];decide⟩
set_option maxRecDepth 100000 in
theorem contract (H:Type) (enc:TypeId × Value->H) (W:World) (base:Nat) (args:Array Value) (ds gs:List (DataW H)) (before:List MemPlace)
  (hval:∀(j:Nat) t v,Tryz.f5.params[j]? = some t->args[j]? = some v->Value.okWide Tryz.prog W .any base t v)
  (hW:DataW.Whole enc Tryz.prog Tryz.f5.params.toList Rows.houseLastsSpec.vars false W args.toList ds gs before) (hL:laidMetH Tryz.prog qdu W) :
  Calls Tryz.prog 5 args W λe W'=>∃v,e = .returned v/\Rows.houseLastsSpec.post enc Tryz.prog Tryz.f5 false true false false W args v W':=by
 have hW':=hW
 obtain⟨p,q,hA0,hV,rfl,hfz,hnd⟩:=hW
 have hA:DataW.TrodAll enc Tryz.prog W 0 (λ_=>true) true Tryz.f5.params.toList args.toList ds p:=hA0
 rw[Tryz.params5] at hA hval
 obtain⟨v0,vs0,d0,ds0,p0,q0,hargs,rfl,rfl,h0,r0⟩:=trodAll_cons hA
 obtain⟨v1,vs1,d1,ds1,p1,q1,rfl,rfl,rfl,h1,r1⟩:=trodAll_cons r0
 obtain⟨rfl,rfl,rfl⟩:=trodAll_nil r1
 obtain rfl:args=#[v0,v1]:=by cases args;simp_all
 obtain⟨rfl,rfl⟩:=trodVars_none hV
 obtain⟨a1,rfl,rfl,rfl,_⟩:=open_int Tryz.underlying3 (hval 0 3 v0 rfl rfl) h0
 obtain⟨fuel,hf⟩:=h1
 obtain⟨aa,ln,cp,rfl⟩:=okWide_slice Tryz.underlying22 (hval 1 22 v1 rfl rfl)
 obtain⟨A,k,c,l,hcs,_,hl,hr,hq⟩:=open_gen Tryz.underlying22 4 Z1 (by omega) q6a (λx=>rfl) (λ_ x=>x.val.size<=maxLen) (λn cs y h=>open_act h) hf
 obtain⟨r3,o3,k3,hnm⟩:=names_of hL
 rw[hcs]
 refine (qb5 l a1 k c A W hr hl (λx hx=>(by obtain⟨_,_,h⟩:=hq x hx;exact h)) hnm).mono λe W' ⟨he,hbl⟩=>?_
 rw[← hcs]
 subst he
 exact⟨_,rfl,close_law (tb:=4) Z1 params_ok (by rfl) Tryz.underlying4 rfl hW' rfl hbl⟩
def wArgs:Array Value:=#[.int .i64 0,.slice none 0 0]
theorem reads (os:Os){H:Type}(enc:TypeId × Value->H):∃places,DataW.whole enc Tryz.prog ((World.doorLaid Tryz.prog 400 os).forCall (λ_ _=>0) ⟨#[],wArgs,[]⟩).memory Tryz.f5.params.toList Rows.houseLastsSpec.vars false wArgs.toList 8 =
  some ([.lit (.int .i64 0),.nil],[],places):=
 ⟨[],Z1⟩
set_option maxRecDepth 100000 in
theorem lifted (os:Os) (started:os.Started) (H:Type) (enc:TypeId × Value->H) (F:Stop.Interp) :
  ReturnsInHanded {} Tryz.checked os 5 .any ((OpenSpec.ofChange Rows.houseLastsSpec).preRow enc Tryz.prog Tryz.f5 Rows.houseLastsRow.domain false Rows.houseLastsRow.laid) (((OpenSpec.ofChange Rows.houseLastsSpec).at F).post enc Tryz.prog Tryz.f5 false true false false):=by
 obtain⟨places,hx⟩:=reads os enc
 refine returnsInHanded_of_row (C:=Tryz.checked) (s:=OpenSpec.ofChange Rows.houseLastsSpec) own_knob started Z1 Tryz.func5
  (witness_row_atRef (enc:=enc) (C:=Tryz.checked) false (World.doorLaid Tryz.prog 400 os) wArgs rfl Z1 Z1 Z1
   (OpenSpec.preRow_of_cond 8 hx Z1 (λk hk=>by cases hk) Z1 (door_met os _))) ?_
 intro W base args ds gs before hval hW _ hcond _ hL _ _
 exact contract H enc W base args ds gs before hval hW hL
theorem said:Rows.HouseLastsSaid:=
 OpenClaim.holds_of_cond 5 Tryz.f5 rfl rfl rfl rfl rfl rfl rfl ⟨rfl,rfl,rfl,rfl,rfl⟩ rfl rfl rfl rfl rfl Z1 Tryz.func5 Z1
  (of_decide_eq_true Z1) (by unfold Func.isWrapper;first | (rw[if_pos (by decide +kernel)];kernel_rfl) | (rw[if_neg (by decide +kernel)];exact⟨rfl,rfl⟩))
  (λos started H enc _ F=>by rw[OpenClaim.pre_eq_preRow];exact lifted os started H enc F)
theorem plain (f:FuncId) (fn:Func) (hf:Tryz.pinned.checked.prog.funcNamed "chainmail/chainmailkeep.HouseLasts" = some f) (hfn:Tryz.pinned.checked.prog.funcs[f]? = some fn) :
  false=Tryz.pinned.checked.prog.looks []/\∀(j:Nat) t,fn.params[j]? = some t->Tryz.pinned.checked.prog.wantsStandIn t=false:=by
 obtain rfl:f=5:=Option.some.inj ((show Tryz.prog.funcNamed "chainmail/chainmailkeep.HouseLasts" = some 5 by kernel_rfl).symm.trans hf) |>.symm
 obtain rfl:fn=Tryz.f5:=(Option.some.inj (Tryz.func5.symm.trans hfn)).symm
 refine⟨Z1,λj t ht=>?_⟩
 rw[Tryz.params5] at ht
 rcases (by simpa using Array.mem_of_getElem? ht:t=3 ∨ t=22) with rfl | rfl
 · exact (show Tryz.prog.wantsStandIn 3=false by kernel_rfl)
 · exact (show Tryz.prog.wantsStandIn 22=false by kernel_rfl)
theorem proved:Rows.HouseLastsCardSaid:=
 Claim7.holds_tied_plain_at .later [] _ _ _ _ said (λ_ h=>by cases h) Z1 (λ_ h=>by cases h) houseLasts_row_tie rfl ⟨rfl,rfl⟩ Z1 rfl plain Z1
#print axioms proved
end Go.Proofs.YtccahlhdifadfaaGreatDoor.houseLasts
