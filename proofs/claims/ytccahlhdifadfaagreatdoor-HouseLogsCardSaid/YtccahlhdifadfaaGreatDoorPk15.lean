/- Part 16 of the texts that the claim rests on (of 19): Hg0, Hg1, Hg2, Hg3, Hg4, Hg5. -/
import Derived.Test.YtccahlhdifadfaaGreatDoorPk14
namespace Go.Proofs.YtccahlhdifadfaaGreatDoor
open Go.RowKit
set_option maxRecDepth 100000
set_option maxHeartbeats 16000000
section
variable {w w':World} {own own':Own} {P:Ptr} {H:Hs}
theorem TabI.none_ {base n g off:Nat} {ty:TypeId} {cs:Array Value} (hb:Blk w g ty cs) (h0:cs[off]? = some (.map none)) (ne:ty≠168∧ty≠166) (bg:base≤w.heap.size) (loc:Sx→KLoc) :
  TabI w base n g off ty cs none loc (fun _=>none):=
 ⟨hb,h0,fun _=>rfl,fun x k h=>(by cases h),fun x y _ h=>absurd rfl h,fun x h=>absurd rfl h,ne,fun b h=>(by cases h),fun x h=>absurd rfl h,bg⟩
theorem StI.none_ {base n g off:Nat} {ty:TypeId} {cs:Array Value} (hb:Blk w g ty cs) (h0:cs[off]? = some (.map none)) (h1:cs[off+1]? = some (.int .i64 0)) (ne:ty≠145) (lo:base≤g) (loc:Sx→Value) :
  StI w base n g off ty cs none loc (fun _=>[]) 0:=
 ⟨hb,h0,h1,ne,fun _=>rfl,fun x h=>absurd rfl h,fun x y _ h=>absurd rfl h,fun x h=>absurd rfl h,fun x v h=>(by cases h),fun x=>List.Pairwise.nil,fun x=>Nat.zero_le _,Int.le_refl _,by decide,fun b h=>(by cases h),lo⟩
theorem ShI.reset {n s g:Nat} {gn:Nat→Nat} {v:ShV} {x:Shd} (h:ShI w own n s g gn v x) (hb:Blk w' g 105 (q13 { v with mt:=none,ms:=none } { x with tab:=fun _=>none,sto:=fun _=>[],done:=0 })) (hf:Fr (fun k=>k=g) w w') :
  ShI w' own n s g gn { v with mt:=none,ms:=none } { x with tab:=fun _=>none,sto:=fun _=>[],done:=0 }:=by
 have hgt:=h.gt
 have n3:¬v.bd=g:=fun e=>by have:=h.ddt;rw[e,hgt] at this;cases this
 have n4:∀ b,v.Vn.ownBlock=some b→¬b=g:=fun b hb e=>by have:=h.rowt b hb;rw[e,hgt] at this;cases this
 refine⟨hf.own h.row n4,h.rowt,h.dd.fr hf n3,h.ddt,TabI.none_ hb rfl ⟨by decide,by decide⟩ (Nat.zero_le _) _,fun b hb2=>?_,StI.none_ hb rfl rfl (by decide) (Nat.zero_le _) _,fun b hb2=>?_,hgt⟩
 ·rcases hb2 with h|⟨x,hx,_⟩
  ·cases h
  ·exact absurd rfl hx
 ·rcases hb2 with h|⟨x,hx,_⟩
  ·cases h
  ·exact absurd rfl hx
theorem HI.shBlk (h:HI w own P H) {s:Nat} {x':Shd} (hnd:x'.nd=(H.sh s).nd) {v:ShV} (hv:ShI w own H.n s (P.gs s) (P.gn s) v (H.sh s)) (hf:Fr (fun k=>k=P.gs s) w w') {v':ShV} (hx:ShI w' own H.n s (P.gs s) (P.gn s) v' x') :
  HI w' own P (H.setSh s x')∧HStep w own w' own:=by
 have hfo:Fr (OS own (shTag s)) w w':=hf.mono (fun b _ e=>⟨_,by rw[e];exact hv.gt,.inl rfl⟩)
 exact⟨h.setSh' hnd hfo (Ext.refl own _) (fun b hb=>Nat.lt_of_lt_of_le (h.lt b hb) hf.size) ⟨v',hx⟩,⟨Ext.refl own _,q27 hfo (fun _=>st_sh),fun _ _ h=>h⟩⟩
theorem HI.setEp (h:HI w own P H) {s:Nat} (hs:s<H.c) (e:Int):HI (w.setCell ⟨P.gs s,2,none⟩ (.int .i64 e)) own P (H.setSh s { H.sh s with epoch:=e })∧HStep w own (w.setCell ⟨P.gs s,2,none⟩ (.int .i64 e)) own:=by
 obtain⟨v,hv⟩:=h.sh s hs
 exact h.shBlk rfl hv (Fr.set1 _ w 2 _) (v':=v) (hv.reblk (by simpa [q13] using hv.tab.blk.set_ 2 (.int .i64 e)) (Fr.set1 _ w 2 _) rfl rfl rfl)
theorem HI.setSz (h:HI w own P H) {s:Nat} (hs:s<H.c) (e:Int):HI (w.setCell ⟨P.gs s,3,none⟩ (.int .i64 e)) own P (H.setSh s { H.sh s with size:=e })∧HStep w own (w.setCell ⟨P.gs s,3,none⟩ (.int .i64 e)) own:=by
 obtain⟨v,hv⟩:=h.sh s hs
 exact h.shBlk rfl hv (Fr.set1 _ w 3 _) (v':=v) (hv.reblk (by simpa [q13] using hv.tab.blk.set_ 3 (.int .i64 e)) (Fr.set1 _ w 3 _) rfl rfl rfl)
def q91 (w:World) (g:Nat):World:=(((w.setCell ⟨g,4,none⟩ (.map none)).setCell ⟨g,5,none⟩ (.map none)).setCell ⟨g,6,none⟩ (.int .i64 0)).setCell ⟨g,7,none⟩ (.int .i64 0)
theorem HI.reset (h:HI w own P H) {s:Nat} (hs:s<H.c):HI (q91 w (P.gs s)) own P (H.setSh s { H.sh s with tab:=fun _=>none,sto:=fun _=>[],done:=0 })∧HStep w own (q91 w (P.gs s)) own:=by
 obtain⟨v,hv⟩:=h.sh s hs
 have hf:Fr (fun k=>k=P.gs s) w (q91 w (P.gs s)):=(((Fr.set1 (P.gs s) w 4 _).trans (Fr.set1 (P.gs s) _ 5 _)).trans (Fr.set1 (P.gs s) _ 6 _)).trans (Fr.set1 (P.gs s) _ 7 _)
 exact h.shBlk rfl hv hf (v':={ v with mt:=none,ms:=none }) (hv.reset (by simpa [q13,q91] using (((hv.tab.blk.set_ 4 (.map none)).set_ 5 (.map none)).set_ 6 (.int .i64 0)).set_ 7 (.int .i64 0)) hf)
theorem HI.shCell (h:HI w own P H) {s:Nat} (hs:s<H.c):∃ v:ShV,w.cell? ⟨P.gs s,2,none⟩=some (.int .i64 (H.sh s).epoch)∧w.cell? ⟨P.gs s,3,none⟩=some (.int .i64 (H.sh s).size)∧w.cell? ⟨P.gs s,4,none⟩=some (.map v.mt)∧w.cell? ⟨P.gs s,5,none⟩=some (.map v.ms)∧w.cell? ⟨P.gs s,6,none⟩=some (.int .i64 0)∧w.cell? ⟨P.gs s,7,none⟩=some (.int .i64 (H.sh s).done)∧
  (∀ o,w.frozen? ⟨P.gs s,o,none⟩=false)∧P.gs s<w.heap.size:=by
 obtain⟨v,hv⟩:=h.sh s hs
 have hb:=hv.tab.blk
 have c2:=hb.cell 2
 have c3:=hb.cell 3
 have c4:=hb.cell 4
 have c5:=hb.cell 5
 have c6:=hb.cell 6
 have c7:=hb.cell 7
 unfold q13 at c2 c3 c4 c5 c6 c7
 simp only[List.getElem?_toArray,List.getElem?_cons_zero,List.getElem?_cons_succ] at c2 c3 c4 c5 c6 c7
 exact⟨v,c2,c3,c4,c5,c6,c7,hb.frozen,hb.lt⟩
end
def FiRel (H:Hs) (s kb:Nat) (l:List Nat) (e:Int) (w:World) (v:Value) (wr:World):Prop:=
 ∃ (q:Nat) (V:Value),v=.int .i64 q∧q≤l.length∧Blk wr kb 148 #[.int .i64 e,V]∧wr.ownsRow (kb+1) 3 1 V q ((l.take q).map fun j=>.int .i64 ((H.sh s).nd j).id)∧Below kb w wr
def FiB (P:Ptr) (own:Own) (H:Hs) (s:Nat) (ids:List Int) (l:List Nat) (w:World) (v:Value) (wr:World):Prop:=
 ∃ q:Nat,v=.int .i64 q∧q≤l.length∧GsP P own ((l.take q).foldl (Hs.joinNd s ids) H) w wr
theorem joins_snoc {s:Nat} {ids:List Int} {H:Hs} {l:List Nat} {q j:Nat} (h:l[q]? = some j):(l.take (q+1)).foldl (Hs.joinNd s ids) H=Hs.joinNd s ids ((l.take q).foldl (Hs.joinNd s ids) H) j:=by
 rw[List.take_add_one,h,List.foldl_append];rfl
theorem joins_nd {s:Nat} {ids:List Int} : ∀ (l:List Nat) (H:Hs) {j:Nat},j ∉ l→((l.foldl (Hs.joinNd s ids) H).sh s).nd j=(H.sh s).nd j∧((l.foldl (Hs.joinNd s ids) H).sh s).epoch=(H.sh s).epoch
 | [],_,_,_=>⟨rfl,rfl⟩
 | a::l,H,j,hj=>by
  obtain⟨h1,h2⟩:=joins_nd l (Hs.joinNd s ids H a) (fun h=>hj (List.mem_cons_of_mem _ h))
  have e:(Hs.joinNd s ids H a).sh s = { H.sh s with nd:=upd (H.sh s).nd a (((H.sh s).nd a).join (H.sh s).epoch ids).tick.1 }:=q03 _ _ _
  refine⟨h1.trans ?_,h2.trans (by rw[e])⟩
  rw[e]
  exact q07 (fun e=>hj (by rw[e];exact List.mem_cons_self)) _
theorem ids_nodup {H:Hs} (wf:Wf H) {s:Nat} (hs:s<H.c):((H.sh s).ids H.n).Nodup:=by
 unfold Shd.ids List.Nodup
 rw[List.pairwise_map]
 have h0:((H.sh s).liveIx H.n).Nodup:=List.Pairwise.filter _ List.nodup_range
 refine List.Pairwise.imp_of_mem (fun {a b} ha hb hab e=>hab ?_) h0
 rw[(wf.nd s a hs (q36 ha)).id,(wf.nd s b hs (q36 hb)).id] at e
 omega
def FixH (H:Hs) (s:Nat) (e:Int) (n:Nat):Hs:=H.setSh s { H.sh s with epoch:=e,size:=n }
theorem fixIn_eq (H:Hs) (s:Nat):H.fixIn s=(((((H.sh s).liveIx H.n).foldl (Hs.joinNd s ((H.sh s).ids H.n)) (FixH H s (wrap64 ((H.sh s).epoch+1)) ((H.sh s).liveIx H.n).length)).setSh s { (((H.sh s).liveIx H.n).foldl (Hs.joinNd s ((H.sh s).ids H.n)) (FixH H s (wrap64 ((H.sh s).epoch+1)) ((H.sh s).liveIx H.n).length)).sh s with tab:=fun _=>none,sto:=fun _=>[],done:=0 })).take s:=rfl
section
variable {w w':World} {own own':Own} {P:Ptr} {H:Hs}
theorem hfix_any {s:Nat} (h:HI w own P H) (wf:Wf H) (hs:s<H.c) (he:∀ j∈(H.sh s).liveIx H.n,((H.sh s).nd j).epoch<wrap64 ((H.sh s).epoch+1)) :
  Calls Tryz.prog 45 #[pw P.g,pw (P.gs s)] w fun e w'=>e=.returned (.tuple #[])∧GsP P own (H.fix s) w w':=by
 have HH:=LH h
 have HWF:=LH wf
 have hn4:=wf.n4
 have hc3:=wf.c3
 have HL:=LH (q43 h wf hs)
 have hll:=q1r (H.sh s) H.n
 have HM:=LH (fun j (hj:j∈(H.sh s).liveIx H.n)=>q36 hj)
 have HEQ:=LH (fixIn_eq H s)
 have HF1:=LH (show(H.sh s).liveIx H.n=[]→H.fix s=H from fun e=>by unfold Hs.fix;rw[if_pos e])
 have HF2:=LH (show(H.sh s).liveIx H.n≠[]→H.fix s=H.fixIn s from fun e=>by unfold Hs.fix;rw[if_neg e])
 have HID:=LH (wf.ids hs)
 have HND:=LH (ids_nodup wf hs)
 have HIS:=LH (show(H.sh s).ids H.n=((H.sh s).liveIx H.n).map (fun j=>((H.sh s).nd j).id) from rfl)
 have HNO:=LH (show((H.sh s).liveIx H.n).Nodup from List.Pairwise.filter _ List.nodup_range)
 have HE:=LH he
 unfold LiveP at HL
 clear h wf he
 generalize H.fixIn s=HR at *
 generalize H.fix s=HFX at *
 generalize (H.sh s).ids H.n=ids at *
 generalize (H.sh s).liveIx H.n=l at *
 generalize hep:wrap64 ((H.sh s).epoch+1)=ep at *
 unfold pw at *
 go_enter Tryz.func45,Tryz.ntmps45
 go_wp2_with fail
 refine HL.out.mono ?_
 rintro e w1 ⟨V,rfl,hrow,hb1⟩
 obtain⟨A,c,rfl,_,_⟩:=q01 hrow
 have HROW:=LH hrow
 have HB1:=LH hb1
 have HH1:=LH (HH.out.below hb1)
 have HFREE:=LH (fun b (hb:(Value.slice A l.length c).ownBlock=some b)=>HH.out.free (hrow.lt b hb).1)
 clear hrow hb1 HL
 by_cases hl:l=[]
 ·have hl0:l.length=0:=by rw[hl];rfl
  have hfin:HFX=H:=HF1.out hl
  have HRR:=LH (show GsP P own HFX w w1 from by rw[hfin];exact⟨own,HH1.out,HZ.below own HB1.out⟩)
  clear hfin hl
  rw[hl0]
  go_wp2_with fail
  refine bodyPost_ret (results_none rfl _ _ _) rfl ?_
  exact⟨rfl,HRR.out⟩
 ·have hl0:¬(l.length:Int)=0:=by cases l with|nil=>exact absurd rfl hl|cons a l=>simp;omega
  have hlp:0<l.length:=by omega
  have hbz:((l.length:Int) == 0)=false:=by simpa using hl0
  have HFI:=LH (HF2.out hl)
  clear HF1 HF2
  obtain⟨vs,c2,c3,c4,c5,c6,c7,hfz,hsl⟩:=HH1.out.shCell hs
  have f2:=hfz 2
  have hse:=HH1.out.setEp hs ep
  have HI2:=LH hse.1
  have HZ2:=LH ((HZ.below own HB1.out).trans hse.2)
  have HROW2:=LH (q1x HROW.out HFREE.out hse.2)

  clear hse c3 c4 c5 c6 c7 hfz hl
  go_upto_region 3 with (fail)
  have hsc2:=HI2.out.shCell hs
  generalize (w1.setCell ⟨P.gs s,2,none⟩ (.int .i64 ep))=w2 at *
  obtain⟨_,g2,_,_,_,_,_,_,gl2⟩:=hsc2
  rw[show((H.setSh s { H.sh s with epoch:=ep }).sh s).epoch=ep from by rw[q0d]] at g2
  have hkb0:Blk (w2.alloc (.cells #[.int .i64 ep,.slice none 0 0] 148)) w2.heap.size 148 #[.int .i64 ep,.slice none 0 0]:=Blk.new w2 _ _
  have HKB:=LH (show own w2.heap.size=none from HI2.out.free (Nat.le_refl _))
  have HST:=LH (show FiRel H s w2.heap.size l ep w2 (.int .i64 0) (w2.alloc (.cells #[.int .i64 ep,.slice none 0 0] 148)) from
   ⟨0,_,rfl,Nat.zero_le _,hkb0,World.ownsRow_nil _ _ _ _,(Below.refl _ _).alloc (Nat.le_refl _) _⟩)
  clear hkb0 f2 hsl c2 HH HH1 HB1 HROW
  go_wp2_with fail
  clear g2 gl2 hep hbz
  generalize hkbe:w2.heap.size=kb at *
  have HKE:=LH hkbe
  clear hkbe
  go_loopw [31] (FiRel H s kb l ep w2) (fun v _=>l.length-(intOf v).toNat)
  case atStart=>exact HST.out
  case round=>
   obtain⟨q,Vc,rfl,hq,hkb,hro,hbw⟩:=hrel
   by_cases hlt:(q:Int)<l.length
   ·have hin:q<l.length:=by omega
    have hq4:q≤4:=by omega
    obtain⟨r,o,u,hA,hr,hu,hcu⟩:=((Rd.of_own HROW2.out).below (hbw.mono (by have:=HKE.out;omega))).at1 (k:=q) hin
    have hx:l[q]? = some l[q]:=List.getElem?_eq_getElem hin
    rw[List.getElem?_map,hx] at hu
    simp only[Option.map_some,Option.some.injEq] at hu
    subst hu hA
    have hrw:r<wr.heap.size:=Nat.lt_of_lt_of_le hr hbw.size
    have hjn:=HM.out l[q] (List.getElem_mem hin)
    have HTK:=LH (show(l.take (q+1)).map (fun j=>Value.int .i64 ((H.sh s).nd j).id)=(l.take q).map (fun j=>Value.int .i64 ((H.sh s).nd j).id)++[Value.int .i64 ((H.sh s).nd l[q]).id] from by rw[List.take_add_one,hx,List.map_append];rfl)
    generalize l[q]=j at *
    clear hx
    obtain⟨C,V6,L,hN,_⟩:=(HI2.out.below (hbw.mono (by have:=HKE.out;omega)).drew).nd s j hs hjn
    have hidj:((((H.setSh s { H.sh s with epoch:=ep })).sh s).nd j).id=((H.sh s).nd j).id:=by rw[q0d]
    have hidc:=id_any hN
    rw[hidj] at hidc
    have HIC:=LH hidc
    clear hN hidc hidj
    obtain⟨A6,c6,rfl,_,_⟩:=q01 hro
    have HRO:=LH hro
    have HBW:=LH hbw
    have HKB6:=LH hkb
    have k1:=hkb.cell 1
    have kl:=hkb.lt
    simp only[List.getElem?_toArray,List.getElem?_cons_zero,List.getElem?_cons_succ] at k1
    clear hro hbw hkb
    go_upto_region 7 with (fail)
    clear hcu
    refine wp_region_any (by kernel_rfl) ?_
    change wpAny _ _ _ _ _ _ _ (World.drew _)
    refine q0e (fun W=>W.cell? ⟨kb,1,none⟩=some (.slice A6 q c6)∧kb<W.heap.size) 5 (fun _ _ _ _ _ h=>h) (fun HQP=>?_)
    have HCC:wr.drew.cell? ⟨kb,1,none⟩=some (.slice A6 q c6)∧kb<wr.drew.heap.size:=⟨k1,kl⟩
    refine nA 0 [1,5,6,7] rfl rfl HQP HCC (fun w' hw'=>by go_simp;rfl) ?_
    refine nA 1 [5,6,7] rfl rfl HQP HCC (fun w' hw'=>by obtain⟨p1,pl⟩:=hw';go_simp;rfl) ?_
    refine nA 2 [3,4,5,6,7] rfl rfl HQP HCC (fun w' hw'=>by go_simp;rfl) ?_
    refine nO 3 rfl (fun KK hK=>?_)
    go_simp
    refine HIC.out.mono ?_
    rintro e w3 ⟨rfl,rfl⟩
    go_simp
    refine hK _ _ (fun _=>HCC) ?_
    clear hK KK
    refine nO 4 rfl (fun KK hK=>?_)
    go_simp
    refine hK _ _ (fun _=>⟨(World.cell?_alloc_lt wr _ ⟨kb,1,none⟩ kl).trans HCC.1,by have:=HCC.2;simp at this;simp;omega⟩) ?_
    clear hK KK
    refine nO 5 rfl (fun KK hK=>?_)
    have hsz5:kb+1≤wr.drew.heap.size:=kl
    have hq7:q+1≤maxLen∧(q+1)*8≤140737488355328:=⟨by unfold maxLen;omega,by omega⟩
    refine q1g wr.drew wr.heap.size rfl _ (.tmp 36) (.tmp 39) 26 rfl (kb+1) 3 (.int .i64 0) 1 8 Tryz.underlying26 int_infoX rfl (by decide) _ _ _ #[.int .i64 ((H.sh s).nd j).id] rfl HRO.out 1 rfl _ rfl rfl (by simp[Value.oneCell']) hq7.1 hq7.2 hsz5 ?_
    intro V2 w8 hrow8 hm8
    have hb8:Below (kb+1) wr w8:=(Below.refl wr (B:=kb+1)).drew.trans (hm8.below (fun b hb=>(HRO.out.lt b hb).1) hsz5)
    have hkb8:Blk w8 kb 148 #[.int .i64 ep,.slice A6 q c6]:=(q06 hb8).blk HKB6.out (by omega)
    have y1:=hkb8.cell 1
    simp only[List.getElem?_toArray,List.getElem?_cons_zero,List.getElem?_cons_succ] at y1
    have yf:=hkb8.frozen 1
    have yl:=hkb8.lt
    have HRR:=LH (show FiRel H s kb l ep w2 (.int .i64 ((q+1:Nat):Int)) (w8.setCell ⟨kb,1,none⟩ V2) from by
     have hset:=Fr.set1 kb w8 1 V2
     refine⟨q+1,V2,rfl,by omega,by simpa using hkb8.set_ 1 V2,?_,(HBW.out.trans (hb8.mono (Nat.le_succ kb))).trans (hset.below (fun i (hi:i=kb)=>by omega) (by omega))⟩
     rw[HTK.out]
     exact hset.own hrow8 (fun b hb e=>by have:=(hrow8.lt b hb).1;omega))
    obtain⟨A9,c9,rfl,_,_⟩:=q01 hrow8
    clear hb8 hkb8 hrow8 hm8
    go_simp
    refine hK _ _ (fun h=>absurd h (by decide)) ?_
    clear hK KK
    refine nO 6 rfl (fun KK hK=>?_)
    go_simp
    refine hK _ _ (fun h=>absurd h (by decide)) ?_
    clear hK KK
    refine nO 7 rfl (fun KK hK=>?_)
    go_simp
    refine hK _ _ (fun h=>absurd h (by decide)) ?_
    clear hK KK
    refine ndone (by kernel_rfl) ?_ _
    clear HQP y1 yf yl k1 kl HCC
    go_wp2_with fail
    go_roundw
    case rel=>exact HRR.out
    case measure=>simp[intOf];omega
   ·obtain rfl:q=l.length:=by omega
    have hb2:Below w2.heap.size w2 wr:=hbw.mono (by have:=HKE.out;omega)
    have hIa:=HI2.out.below hb2
    have hZa:HZ StTag w own wr own:=HZ2.out.trans (HZ.below own hb2)
    have hrowA:=q1x HROW2.out HFREE.out (HZ.below (Z:=StTag) own hb2)
    rw[List.take_length] at hro
    have hids:l.map (fun j=>Value.int .i64 ((H.sh s).nd j).id)=ids.map (Value.int .i64):=by rw[HIS.out,List.map_map];rfl
    have hidl:ids.length=l.length:=by rw[HIS.out,List.length_map]
    rw[hids] at hro
    have hro0:=q17 (base':=0) hro (Nat.zero_le _)
    have hfv:∀ b,Vc.ownBlock=some b→own b=none:=fun b hb=>HI2.out.free (by have:=(hro.lt b hb).1;have:=HKE.out;omega)
    obtain⟨_,_,c3,_,_,_,_,hfz,hsl⟩:=hIa.shCell hs
    rw[q0d] at c3
    have f3:=hfz 3
    have hsz:=hIa.setSz hs (l.length:Nat)
    have hFH:(H.setSh s { H.sh s with epoch:=ep }).setSh s { (H.setSh s { H.sh s with epoch:=ep }).sh s with size:=((l.length:Nat):Int) } = FixH H s ep l.length:=by rw[q0d,q2c];rfl
    rw[hFH] at hsz
    have HI3:=LH hsz.1
    have HZ3:=LH (hZa.trans hsz.2)
    have HRA:=LH (q1x hrowA HFREE.out hsz.2)
    have HRV:=LH (q1x hro0 hfv hsz.2)
    have hbk:=q0v hsz.2 hkb HKB.out
    have HBK:=LH hbk.1
    have HFV:=LH hfv
    have HIL:=LH hidl
    obtain⟨A6,c6,rfl,_,_⟩:=q01 hro0
    have hwfx:Wf (FixH H s ep l.length):=HWF.out.setShX rfl rfl (HWF.out.tab s hs) (HWF.out.sto s hs)
    have HWX:=LH hwfx
    have HNX:=LH (show ∀ j,((FixH H s ep l.length).sh s).nd j=(H.sh s).nd j from fun j=>by unfold FixH;rw[q0d])
    have HEX:=LH (show((FixH H s ep l.length).sh s).epoch=ep from by unfold FixH;rw[q0d])
    have hcx:(FixH H s ep l.length).c=H.c∧(FixH H s ep l.length).n=H.n:=⟨rfl,rfl⟩
    have HCX:=LH hcx
    clear hb2 hIa hZa hrowA hro hids hidl hro0 hfv hfz hsz hFH hbk hwfx hcx hkb hbw HI2 HZ2 HROW2
    generalize FixH H s ep l.length=HX at *
    go_wp2_with fail
    clear c3 f3 hsl
    generalize (wr.setCell ⟨P.gs s,3,none⟩ (.int .i64 (l.length:Nat)))=w3 at *
    go_loopw [50] (FiB P own HX s ids l w3) (fun v _=>l.length-(intOf v).toNat)
    case atStart=>exact⟨0,rfl,Nat.zero_le _,own,HI3.out,HZ.refl _ _ _⟩
    case round=>
     obtain⟨q,rfl,hq,own3,hI3,hZ3⟩:=hrel
     by_cases hlt:(q:Int)<l.length
     ·have hin:q<l.length:=by omega
      have hq4:q≤4:=by omega
      obtain⟨r,c',hV,hr,u,hu,hcu⟩:=q2g (q1x HRA.out HFREE.out hZ3) (k:=q) hin
      injection hV with hA _ hcp
      subst hA hcp
      have hx:l[q]? = some l[q]:=List.getElem?_eq_getElem hin
      rw[List.getElem?_map,hx] at hu
      simp only[Option.map_some,Option.some.injEq] at hu
      subst hu
      have hmem:l[q]∈l:=List.getElem_mem hin
      have hjn:=HM.out l[q] hmem
      have HS1:=LH (joins_snoc (s:=s) (ids:=ids) (H:=HX) hx)
      have hnt:l[q] ∉ l.take q:=fun h=>by
       obtain⟨i,hi,e⟩:=List.mem_iff_getElem.1 h
       rw[List.length_take] at hi
       rw[List.getElem_take] at e
       have:=(List.getElem_inj HNO.out).1 e
       omega
      have hnd3:=joins_nd (s:=s) (ids:=ids) (l.take q) HX hnt
      have hsz3:=q5c s ids (l.take q) HX
      have hwf3:Wf ((l.take q).foldl (Hs.joinNd s ids) HX):=Wf.joinNds HID.out (l.take q) HWX.out (by rw[HCX.out.1];exact hs) (fun j hj=>by rw[HCX.out.2];exact HM.out j (List.mem_of_mem_take hj))
      have hin2:((H.sh s).nd l[q]).id∈ids:=by rw[HIS.out];exact List.mem_map.2 ⟨_,hmem,rfl⟩
      have hel:=HE.out l[q] hmem
      generalize l[q]=j at *
      generalize (l.take q).foldl (Hs.joinNd s ids) HX=H3 at *
      have hs3:s<H3.c:=by rw[hsz3.2.1,HCX.out.1];exact hs
      have hj3:j<H3.n:=by rw[hsz3.1,HCX.out.2];exact hjn
      have hnj:(H3.sh s).nd j=(H.sh s).nd j:=hnd3.1.trans (HNX.out j)
      have hep3:(H3.sh s).epoch=ep:=hnd3.2.trans HEX.out
      have hrv3:=q1x HRV.out HFV.out hZ3
      have hbk3:=(q0v hZ3 HBK.out HKB.out).1
      have k0:=hbk3.cell 0
      have k1:=hbk3.cell 1
      have kl:=hbk3.lt
      simp only[List.getElem?_toArray,List.getElem?_cons_zero,List.getElem?_cons_succ] at k0 k1
      rw[← HIL.out] at hrv3 k1
      have HBC:=LH (hbecome_any hI3 hs3 hj3 ep ids A6 c6 hrv3 (by rw[hnj];exact hel) (by have:=HIL.out;omega) HND.out (fun x hx=>q0j (by have:=HID.out x hx;omega) (by have:=HID.out x hx;omega)) (by rw[hnj];exact hin2))
      have hwt:=q73 (wf_join (hwf3.nd s j hs3 hj3) ep HID.out) (show s<3 by have:=hwf3.c3;omega) (show j<4 by have:=hwf3.n4;omega)
      have HWT:=LH hwt
      have HW3:=LH hwf3
      have HZ4:=LH hZ3
      have HJN:=LH (show Hs.joinNd s ids H3 j=(H3.setNd s j (((H3.sh s).nd j).join ep ids).tick.1).send (((H3.sh s).nd j).join ep ids).tick.2 from by unfold Hs.joinNd;rw[hep3])
      unfold pw at HBC
      clear hx hmem hnt hnd3 hsz3 hin2 hel hnj hep3 hrv3 hbk3 hwt hwf3 hI3 hZ3
      go_wp2_with fail
      refine HBC.out.mono ?_
      rintro e w5 ⟨V,rfl,ho,own4,hI4,hZ5,hnew⟩
      have hsd:=q5d hI4 ho (fun q hq=>by rcases hnew q hq with e|e <;> (rw[e];simp)) HWT.out.2 (HW3.out.setNd HWT.out.1) (tick_len _)
      have HSD:=LH hsd
      have HZ5:=LH (HZ4.out.trans (hZ5.mono (fun _=>st_nd)))
      obtain⟨A7,kk,M,rfl,_⟩:=ho
      unfold pw at HSD
      clear hsd hnew hI4 hZ5 HBC hcu hr k0 k1 kl
      go_wp2_with fail
      refine HSD.out.mono ?_
      rintro e w6 ⟨d6,own5,rfl,hI5,hZ6⟩
      have HRR:=LH (show FiB P own HX s ids l w3 (.int .i64 ((q+1:Nat):Int)) w6 from⟨q+1,rfl,by omega,own5,by rw[HS1.out,HJN.out];exact hI5,HZ5.out.trans (hZ6.mono (fun _=>q6h))⟩)
      clear hI5 hZ6 HSD
      go_wp2_with fail
      go_roundw
      case rel=>exact HRR.out
      case measure=>simp[intOf];omega
     ·obtain rfl:q=l.length:=by omega
      rw[List.take_length] at hI3
      have hsz3:=q5c s ids l HX
      have hwf3:Wf (l.foldl (Hs.joinNd s ids) HX):=Wf.joinNds HID.out l HWX.out (by rw[HCX.out.1];exact hs) (fun j hj=>by rw[HCX.out.2];exact HM.out j hj)
      generalize l.foldl (Hs.joinNd s ids) HX=H3 at *
      have hs3:s<H3.c:=by rw[hsz3.2.1,HCX.out.1];exact hs
      obtain⟨v4,_,_,c4,c5,c6,c7,hfz,hsl⟩:=hI3.shCell hs3
      have f4:=hfz 4
      have f5:=hfz 5
      have f6:=hfz 6
      have f7:=hfz 7
      have hrs:=hI3.reset hs3
      have hwf4:Wf (H3.setSh s { H3.sh s with tab:=fun _=>none,sto:=fun _=>[],done:=0 }):=hwf3.setShX rfl rfl WfT.none_ WfS.none_
      have HTK:=LH (q7z hrs.1 hwf4 hs3)
      have HZ4:=LH ((HZ3.out.trans hZ3).trans hrs.2)
      unfold pw q91 at HTK
      unfold q91 at HZ4
      clear hsz3 hwf3 hfz hrs hwf4 hI3 hZ3
      go_wp2_with fail
      refine HTK.out.mono ?_
      rintro e w9 ⟨rfl,own9,hI9,hZ9⟩
      have HRR:=LH (show GsP P own HFX w w9 from⟨own9,by rw[HFI.out,HEQ.out];exact hI9,HZ4.out.trans (hZ9.mono (fun _=>st_tk))⟩)
      clear hI9 hZ9
      go_wp2_with fail
      go_end0
      exact⟨rfl,HRR.out⟩
end
section
variable {w w':World} {own own':Own} {P:Ptr} {H:Hs}
theorem HI.retag (h:HI w own P H) (own2:Own) (hlt:∀ b,own2 b≠none→b<w.heap.size) (hk:∀ b t,own b=some t→(∀ i,t≠.tx i∧t≠.sm i)→own2 b=some t)
  (htx:∀ i,1≤i→i≤H.m→TxC w own2 i (P.gt i) (H.tx i)):HI w own2 P H:=by
 refine⟨hlt,?_,fun s hs=>?_,fun s j hs hj=>?_,htx⟩
 ·obtain⟨v,h⟩:=h.hs
  exact⟨v,h.nt,h.msgs,fun b hb=>hk b _ (h.nett b hb) (fun i=>⟨by simp,by simp⟩),h.few,h.shr,fun b hb=>hk b _ (h.shrt b hb) (fun i=>⟨by simp,by simp⟩),h.txr,fun b hb=>hk b _ (h.txrt b hb) (fun i=>⟨by simp,by simp⟩),hk _ _ h.gt (fun i=>⟨by simp,by simp⟩)⟩
 ·obtain⟨v,h⟩:=h.sh s hs
  exact⟨v,h.row,fun b hb=>hk b _ (h.rowt b hb) (fun i=>⟨by simp,by simp⟩),h.dd,hk _ _ h.ddt (fun i=>⟨by simp,by simp⟩),h.tab,fun b hb=>hk b _ (h.tabt b hb) (fun i=>⟨by simp,by simp⟩),h.sto,fun b hb=>hk b _ (h.stot b hb) (fun i=>⟨by simp,by simp⟩),hk _ _ h.gt (fun i=>⟨by simp,by simp⟩)⟩
 ·obtain⟨C,V,L,h1,h2⟩:=h.nd s j hs hj
  exact⟨C,V,L,h1,fun b hb=>hk b _ (h2 b hb) (fun i=>⟨by simp,by simp⟩)⟩
def smOn (own:Own) (c i:Nat):Own:=fun b=>if b=c then some (.sm i) else own b
def smOff (own:Own) (i:Nat):Own:=fun b=>if own b=some (.sm i) then some (.tx i) else own b
theorem HI.smOn (h:HI w own P H) {i:Nat} (h1:1≤i) (hi:i≤H.m) {v:TxV} (hv:TxI w own i (P.gt i) v (H.tx i)):HI w (Go.Proofs.YtccahlhdifadfaaGreatDoor.smOn own v.bs i) P H:=by
 have hne:∀ b t,own b=some t→t≠.tx i→t≠.sm i→Go.Proofs.YtccahlhdifadfaaGreatDoor.smOn own v.bs i b=some t:=fun b t e n1 n2=>by
  unfold Go.Proofs.YtccahlhdifadfaaGreatDoor.smOn
  rw[if_neg]
  ·exact e
  ·rintro rfl
   rcases hv.st with e2|e2 <;> (rw[e] at e2;injection e2 with e2)
   ·exact n1 e2
   ·exact n2 e2
 obtain⟨n1,n2,n3,n4,n5,n6,n7,n8⟩:=hv.rows_ne
 have hoth:∀ b,b≠v.bs→Go.Proofs.YtccahlhdifadfaaGreatDoor.smOn own v.bs i b=own b:=fun b hb=>by unfold Go.Proofs.YtccahlhdifadfaaGreatDoor.smOn;rw[if_neg hb]
 refine h.retag _ (fun b hb=>?_) (fun b t e ht=>hne b t e (ht i).1 (ht i).2) (fun j j1 j2=>?_)
 ·by_cases e:b=v.bs
  ·rw[e];exact hv.shards.lt
  ·rw[hoth b e] at hb;exact h.lt b hb
 ·by_cases e:j=i
  ·subst e
   exact⟨v,hv.blk,hv.writes,hv.shards,hv.places,hv.wants,hv.ne,by rw[hoth _ (fun e=>n3 e.symm)];exact hv.gt,fun b hb=>by rw[hoth _ (fun e=>n5 (by rw[hb,e]))];exact hv.wt b hb,
    .inr (by unfold Go.Proofs.YtccahlhdifadfaaGreatDoor.smOn;rw[if_pos rfl]),by rw[hoth _ (fun e=>hv.ne e.symm)];exact hv.pt,fun b hb=>by rw[hoth _ (fun e=>n7 (by rw[hb,e]))];exact hv.xt b hb⟩
  ·obtain⟨u,hu⟩:=h.tx j j1 j2
   have ht:∀ b,own b=some (.tx j)→Go.Proofs.YtccahlhdifadfaaGreatDoor.smOn own v.bs i b=some (.tx j):=fun b eb=>hne b _ eb (by simp[e]) (by simp)
   exact⟨u,hu.blk,hu.writes,hu.shards,hu.places,hu.wants,hu.ne,ht _ hu.gt,fun b hb=>ht b (hu.wt b hb),hu.st.imp (ht _) (fun eb=>hne _ _ eb (by simp) (by simp[e])),ht _ hu.pt,fun b hb=>ht b (hu.xt b hb)⟩
theorem HI.smOff (h:HI w own P H) (i:Nat):HI w (Go.Proofs.YtccahlhdifadfaaGreatDoor.smOff own i) P H:=by
 have hk:∀ b t,own b=some t→t≠.sm i→Go.Proofs.YtccahlhdifadfaaGreatDoor.smOff own i b=some t:=fun b t e n=>by
  unfold Go.Proofs.YtccahlhdifadfaaGreatDoor.smOff
  rw[if_neg,e]
  rw[e];intro h;injection h with h;exact n h
 refine h.retag _ (fun b hb=>?_) (fun b t e ht=>hk b t e (ht i).2) (fun j j1 j2=>?_)
 ·unfold Go.Proofs.YtccahlhdifadfaaGreatDoor.smOff at hb
  split at hb
  ·rename_i e;exact h.lt b (by rw[e];simp)
  ·exact h.lt b hb
 ·obtain⟨u,hu⟩:=h.tx j j1 j2
  have ht:∀ b,own b=some (.tx j)→Go.Proofs.YtccahlhdifadfaaGreatDoor.smOff own i b=some (.tx j):=fun b eb=>hk b _ eb (by simp)
  refine⟨u,hu.blk,hu.writes,hu.shards,hu.places,hu.wants,hu.ne,ht _ hu.gt,fun b hb=>ht b (hu.wt b hb),?_,ht _ hu.pt,fun b hb=>ht b (hu.xt b hb)⟩
  rcases hu.st with e|e
  ·exact .inl (ht _ e)
  ·by_cases ej:j=i
   ·subst ej;exact .inl (by unfold Go.Proofs.YtccahlhdifadfaaGreatDoor.smOff;rw[if_pos e])
   ·exact .inr (hk _ _ e (by simp[ej]))
theorem HStep.smOff {c i:Nat} (hn:NoSm own) (hc:own c=some (.tx i)) {own2:Own} (h:HStep w (Go.Proofs.YtccahlhdifadfaaGreatDoor.smOn own c i) w' own2) (hcl:c<w.heap.size):HStep w own w' (Go.Proofs.YtccahlhdifadfaaGreatDoor.smOff own2 i):=by
 have hoth:∀ b,b≠c→Go.Proofs.YtccahlhdifadfaaGreatDoor.smOn own c i b=own b:=fun b hb=>by unfold Go.Proofs.YtccahlhdifadfaaGreatDoor.smOn;rw[if_neg hb]
 have hon:Go.Proofs.YtccahlhdifadfaaGreatDoor.smOn own c i c=some (.sm i):=by unfold Go.Proofs.YtccahlhdifadfaaGreatDoor.smOn;rw[if_pos rfl]
 refine⟨fun b hb=>?_,h.fr.mono (fun b _ ⟨t,e,ht⟩=>?_),fun b j e=>?_⟩
 ·unfold Go.Proofs.YtccahlhdifadfaaGreatDoor.smOff
  rw[h.ext b hb]
  by_cases e:b=c
  ·subst e;rw[hon,if_pos rfl,hc]
  ·rw[hoth b e,if_neg (hn b i)]
 ·by_cases e2:b=c
  ·subst e2;rw[hon] at e;injection e with e;subst e;exact absurd rfl (ht.2.2 i)
  ·rw[hoth b e2] at e;exact⟨t,e,ht⟩
 ·exfalso
  unfold Go.Proofs.YtccahlhdifadfaaGreatDoor.smOff at e
  split at e
  ·cases e
  ·rename_i h0
   have:=h.sm b j e
   by_cases e2:b=c
   ·subst e2;rw[hon] at this;injection this with this;injection this with this;subst this;exact h0 e
   ·rw[hoth b e2] at this;exact hn b j this
theorem smany_any {s:Nat} (h:HI w own P H) (hs:s<H.c):Calls Tryz.prog 59 #[pw (P.gs s)] w fun e w'=>e=.returned (.int .i64 (H.sh s).size)∧w=w':=by
 obtain⟨v,_,c3,_,_,_,_,_,hl⟩:=h.shCell hs
 clear h
 unfold pw
 go_enter Tryz.func59,Tryz.ntmps59
 go_wp2_with fail
 go_ret
 exact⟨rfl,rfl⟩
end
def Stale (H:Hs) (i:Nat):Prop:=∃ k∈(H.tx i).comes,(H.tx i).shards k≠some (H.sh k).epoch
theorem stale1_yes {H:Hs} {i:Nat} (h1:(H.tx i).state=1) (h2:Stale H i):H.stale1 i=H.abort i:=by unfold Hs.stale1;rw[if_pos ⟨h1,h2⟩]
theorem stale1_no {H:Hs} {i:Nat} (h:¬((H.tx i).state=1∧Stale H i)):H.stale1 i=H:=by unfold Stale at h;unfold Hs.stale1;rw[if_neg h]
theorem q79 (H:Hs) (q:Nat):(List.range' 1 (q+1)).foldl Hs.stale1 H=((List.range' 1 q).foldl Hs.stale1 H).stale1 (q+1):=by
 rw[List.range'_1_concat,List.foldl_append]
 show Hs.stale1 _ (1+q)=_
 rw[Nat.add_comm 1 q]
theorem abort_ep (H:Hs) (i s:Nat):((H.abort i).sh s).epoch=(H.sh s).epoch:=by
 have ht:∀ (ks:List Nat) (H:Hs),((telld H i 4 ks).sh s).epoch=(H.sh s).epoch:=by
  intro ks
  induction ks with
  | nil=>intro H;rfl
  | cons k ks ih=>
   intro H
   refine(ih (H.tell1 i 4 k)).trans ?_
   cases hh:H.head k with
   | none=>rw[q2a hh]
   | some j=>
    rw[q29 hh]
    split
    ·unfold Hs.add
     split
     ·rfl
     ·have h:=q0b.take ((H.setNd k j (((H.sh k).nd j).add (tellC H i 4) false).1.1).send (((H.sh k).nd j).add (tellC H i 4) false).1.2) k
      by_cases e:s=k
      ·subst e
       rw[h.epoch]
       show((upd H.sh s _ s)).epoch=_
       rw[q03]
      ·rw[h.sh s e]
       show((upd H.sh k _ s)).epoch=_
       rw[q07 e]
    ·rfl
 have hr:∀ (ks:List Nat) (H:Hs),((reld H i ks).sh s).epoch=(H.sh s).epoch:=by
  intro ks
  induction ks with
  | nil=>intro H;rfl
  | cons k ks ih=>
   intro H
   refine(ih (H.rel k i)).trans ?_
   show(upd H.sh k _ s).epoch=_
   by_cases e:s=k
   ·subst e;rw[q03]
   ·rw[q07 e]
 rw[q3r]
 exact(ht _ _).trans (hr _ _)
def FaRel (P:Ptr) (own:Own) (H:Hs) (w:World) (v:Value) (wr:World):Prop:=∃ q:Nat,v=.int .i64 q∧q≤3∧GsP P own (([0,1,2].take q).foldl Hs.fix1 H) w wr
def FcRel (P:Ptr) (own:Own) (H:Hs) (w:World) (v:Value) (wr:World):Prop:=∃ q:Nat,v=.int .i64 q∧q≤H.m∧GsP P own ((List.range' 1 q).foldl Hs.stale1 H) w wr
def StIn (H3 H4:Hs) (i:Nat) (left:Int→Bool):Prop:=
 (H4=H3∧∀ k∈(H3.tx i).comes,left (k:Nat)=false→¬((H3.tx i).state=1∧(H3.tx i).shards (k:Nat)≠some (H3.sh k).epoch))∨(H4=H3.abort i∧(H3.tx i).state=1∧Stale H3 i)
def FdRel (P:Ptr) (ownS:Own) (H3:Hs) (i bs r:Nat) (Wb:World) (wr:World):Prop:=
 ∃ (left:Int→Bool) (cnt:Nat) (own4:Own) (H4:Hs),q0z q05 wr bs r 100 (inM (H3.tx i).shards) left cnt∧HI wr own4 P H4∧HStep Wb ownS wr own4∧own4 r=none∧own4 bs=some (.sm i)∧StIn H3 H4 i left
theorem StIn.done {H3 H4:Hs} {i:Nat} {left:Int→Bool} (h:StIn H3 H4 i left) (hl:∀ k∈(H3.tx i).comes,left (k:Nat)=false):H4=H3.stale1 i:=by
 rcases h with ⟨rfl,h⟩|⟨rfl,h1,h2⟩
 ·rw[stale1_no]
  rintro ⟨e,k,hk,hs⟩
  exact h k hk (hl k hk) ⟨e,hs⟩
 ·rw[stale1_yes h1 h2]
theorem fixes_all {H:Hs} {B:Int} (h:AllI H B) (hB:B≤999000):∀ q,q≤3→AllI (([0,1,2].take q).foldl Hs.fix1 H) (B+q)
 | 0,_=>by simpa using h
 | 1,_=>(h.fix1 (by omega) (s:=0) (by omega)).1
 | 2,_=>by
  have:=((h.fix1 (by omega) (s:=0) (by omega)).1.fix1 (by omega) (s:=1) (by omega)).1
  rw[show B+((2:Nat):Int)=B+1+1 by omega];exact this
 | 3,_=>by
  have:=(((h.fix1 (by omega) (s:=0) (by omega)).1.fix1 (by omega) (s:=1) (by omega)).1.fix1 (by omega) (s:=2) (by omega)).1
  rw[show B+((3:Nat):Int)=B+1+1+1 by omega];exact this
theorem well_nil {n:Nat} {x:Shd} (h:x.liveIx n=[]):x.well n=true:=by unfold Shd.well;rw[h];rfl
theorem well_some {n a z:Nat} {x:Shd} {l:List Nat} (h:x.liveIx n=l) (h0:l[0]? = some a) (h1:l[l.length-1]? = some z):x.well n=((x.nd a).head && (x.nd z).tail && ((l.length:Int) == x.size)):=by
 unfold Shd.well
 rw[h,List.head?_eq_getElem?,List.getLast?_eq_getElem?,h0,h1]
theorem fix1_yes {H:Hs} {s:Nat} (h:(H.sh s).well H.n=true):H.fix1 s=H:=by unfold Hs.fix1;rw[if_pos h]
theorem fix1_no {H:Hs} {s:Nat} (h:(H.sh s).well H.n=false):H.fix1 s=H.fix s:=by unfold Hs.fix1;rw[h];rfl
theorem stales_wf {H:Hs} (h:Wf H) (hc:H.c=3):∀ q,q≤H.m→Wf ((List.range' 1 q).foldl Hs.stale1 H)∧Sz H ((List.range' 1 q).foldl Hs.stale1 H)
 | 0,_=>⟨h,Sz.refl H⟩
 | q+1,hq=>by
  obtain⟨h1,h2⟩:=stales_wf h hc q (by omega)
  rw[q79]
  exact⟨h1.stale1 (h2.c.trans hc) (by omega) (by rw[h2.m];omega),h2.trans (stale1_sz _ _)⟩
def FixsP (P:Ptr) (own:Own) (H:Hs) (w:World) (e:Ending) (w':World):Prop:=e=.returned (.tuple #[])∧∃ H',FixR H H'∧GsP P own H' w w'
section
variable {w w':World} {own own':Own} {P:Ptr} {H:Hs}
theorem hfixs_any {B:Int} (h:HI w own P H) (ha:AllI H B) (hB:B≤999000) (hns:NoSm own):Calls Tryz.prog 33 #[pw P.g] w (FixsP P own H w):=by
 have HH:=LH h
 have hc:=ha.c
 have hn4:=ha.wf.n4
 obtain⟨r3,k3,⟨vh,hvh,hVr⟩,hsh⟩:=h.shRow hc
 obtain⟨_,c3,_,_,gl⟩:=hvh.cells
 rw[hVr] at c3
 have HSH:=LH hsh
 have HFA:=LH (fixes_all ha hB)
 clear h ha hvh hVr hsh
 unfold pw at *
 go_enter Tryz.func33,Tryz.ntmps33
 go_wp2_with fail
 clear c3
 go_loopw [14] (FaRel P own H w) (fun v _=>3-(intOf v).toNat)
 case atStart=>exact⟨0,rfl,Nat.zero_le _,own,HH.out,HZ.refl _ _ _⟩
 case round=>
  obtain⟨q,rfl,hq,own2,hI2,hZ2⟩:=hrel
  by_cases hlt:(q:Int)<3
  ·obtain⟨hcs,hrl⟩:=HSH.out wr own2 hZ2 q (by omega)
   have hss:([0,1,2]:List Nat)[q]? = some q:=by
    have:q=0∨q=1∨q=2:=by omega
    rcases this with rfl|rfl|rfl <;> rfl
   have HSN:=LH (show([0,1,2].take (q+1)).foldl Hs.fix1 H=(([0,1,2].take q).foldl Hs.fix1 H).fix1 q from by rw[List.take_add_one,hss,List.foldl_append];rfl)
   have hA2:=HFA.out q (by omega)
   clear hss
   generalize ([0,1,2].take q).foldl Hs.fix1 H=H2 at *
   have hc2:=hA2.c
   have hwf2:=hA2.wf
   have HL:=LH (q43 hI2 hwf2 (s:=q) (by omega))
   have HM:=LH (fun j (hj:j∈(H2.sh q).liveIx H2.n)=>q36 hj)
   have HWN:=LH (well_nil (x:=H2.sh q) (n:=H2.n))
   have hep:=hA2.ep q (by omega)
   have hEJ:∀ j∈(H2.sh q).liveIx H2.n,((H2.sh q).nd j).epoch<wrap64 ((H2.sh q).epoch+1):=fun j hj=>by
    rw[show wrap64 ((H2.sh q).epoch+1)=(H2.sh q).epoch+1 from IntWalk.wrap64_in _ ⟨by omega,by omega⟩]
    obtain⟨L,p,a⟩:=hA2.ch.at_ (s:=q) (by omega) (q1i.1 hj)
    rw[a.epoch];omega
   have HEJ:=LH hEJ
   have HI2:=LH hI2
   have HZ2:=LH hZ2
   have HW2:=LH hwf2
   have hrelN:∀ W,GsP P own2 (H2.fix1 q) wr W→FaRel P own H w (.int .i64 ((q+1:Nat):Int)) W:=fun W ⟨o,a,b⟩=>⟨q+1,rfl,by omega,o,by rw[HSN.out];exact a,HZ2.out.trans b⟩
   have HRN:=LH hrelN
   unfold LiveP pw at HL
   clear hI2 hZ2 hwf2 hA2 hep hEJ hrelN
   generalize hll:(H2.sh q).liveIx H2.n=l at *
   have hl4:l.length≤4:=by rw[← hll];have:=q1r (H2.sh q) H2.n;have:=HW2.out.n4;omega
   have HLL:=LH hll
   clear hll
   go_wp2_with fail
   refine HL.out.mono ?_
   rintro e w1 ⟨V,rfl,hrow,hb1⟩
   obtain⟨A,c,rfl,_,_⟩:=q01 hrow
   have HROW:=LH hrow
   have HH1:=LH (HI2.out.below hb1)
   have HZ1:=LH (show HStep wr own2 w1 own2 from HZ.below own2 hb1)
   have HFREE:=LH (fun b (hb:(Value.slice A l.length c).ownBlock=some b)=>HI2.out.free (hrow.lt b hb).1)
   clear hrow hb1 HL hcs hrl
   by_cases hl:l=[]
   ·have hl0:l.length=0:=by rw[hl];rfl
    have HR:=LH (HRN.out w1 (by rw[fix1_yes (HWN.out hl)];exact⟨own2,HH1.out,HZ1.out⟩))
    clear hl
    rw[hl0]
    go_wp2_with fail
    go_roundw
    case rel=>exact HR.out
    case measure=>simp[intOf];omega
   ·have hlp:0<l.length:=List.length_pos_iff.2 hl
    have hl0:((l.length:Int) == 0)=false:=by simp;omega
    have ha0:l[0]? = some l[0]:=List.getElem?_eq_getElem hlp
    have hz0:l[l.length-1]? = some l[l.length-1]:=List.getElem?_eq_getElem (by omega)
    have hwell:=well_some HLL.out ha0 hz0
    have haj:=HM.out l[0] (List.getElem_mem _)
    have hzj:=HM.out l[l.length-1] (List.getElem_mem _)
    obtain⟨r0,c0,hV0,hr0,u0,hu0,hcu0⟩:=q2g HROW.out (k:=0) hlp
    injection hV0 with hA0 _ hcp0
    subst hA0 hcp0
    obtain⟨r1,c1,hV1,hr1,u1,hu1,hcu1⟩:=q2g HROW.out (k:=l.length-1) (by omega)
    injection hV1 with hA1 _ _
    injection hA1 with hA1
    injection hA1 with hA1 _ _
    subst hA1
    rw[List.getElem?_map,ha0] at hu0
    rw[List.getElem?_map,hz0] at hu1
    simp only[Option.map_some,Option.some.injEq] at hu0 hu1
    subst hu0 hu1
    generalize l[0]=a at *
    generalize l[l.length-1]=z at *
    obtain⟨Ca,Va,La,hNa,_⟩:=HH1.out.nd q a (by omega) haj
    have HHA:=LH (qa0 hNa)
    obtain⟨Cz,Vz,Lz,hNz,_⟩:=HH1.out.nd q z (by omega) hzj
    have HTZ:=LH (q6p hNz)
    have HWL:=LH hwell
    have HFX:=LH (fun W (hb:Below w1.heap.size w1 W)=>hfix_any (HH1.out.below hb) HW2.out (show q<H2.c by omega) (fun j hj=>HEJ.out j (by rw[← HLL.out];exact hj)))
    have HMY:=LH (fun W (hb:Below w1.heap.size w1 W)=>smany_any (HH1.out.below hb) (show q<H2.c by omega))
    have hbn:∀ W,Below w1.heap.size w1 W→GsP P own2 (H2.fix q) W W→True:=fun _ _ _=>trivial
    have HYS:=LH (show ∀ W,(H2.sh q).well H2.n=true→Below w1.heap.size w1 W→FaRel P own H w (.int .i64 ((q+1:Nat):Int)) W from fun W e hb=>HRN.out W (by rw[fix1_yes e];exact⟨own2,HH1.out.below hb,HZ1.out.trans (HZ.below own2 hb)⟩))
    have HNS:=LH (show ∀ W W',(H2.sh q).well H2.n=false→Below w1.heap.size w1 W→GsP P own2 (H2.fix q) W W'→FaRel P own H w (.int .i64 ((q+1:Nat):Int)) W' from fun W W' e hb ⟨o,h1,h2⟩=>HRN.out W' (by rw[fix1_no e];exact⟨o,h1,(HZ1.out.trans (HZ.below own2 hb)).trans h2⟩))
    unfold pw at HFX HMY
    clear hbn ha0 hz0 hwell haj hzj hNa hNz hl HWN HRN
    have hli:((l.length-1:Nat):Int)=(l.length:Int)-1:=by omega
    cases hhd:((H2.sh q).nd a).head with
    | false=>
     rw[hhd] at HHA
     have hw:(H2.sh q).well H2.n=false:=by rw[HWL.out,hhd];rfl
     have HW:=LH hw
     clear hw hhd
     go_wp2_with fail
     refine HHA.out.mono ?_
     rintro e w2 ⟨rfl,rfl⟩
     go_wp2_with fail
     refine(HFX.out w1 (Below.refl _ _)).mono ?_
     rintro e w3 ⟨rfl,hg⟩
     have HR:=LH (HNS.out w1 w3 HW.out (Below.refl _ _) hg)
     clear hg
     go_wp2_with fail
     go_roundw
     case rel=>exact HR.out
     case measure=>simp[intOf];omega
    | true=>
     rw[hhd] at HHA
     have hl60:l.length≤60:=by omega
     cases htl:((H2.sh q).nd z).tail with
     | false=>
      rw[htl] at HTZ
      have hw:(H2.sh q).well H2.n=false:=by rw[HWL.out,hhd,htl];rfl
      have HW:=LH hw
      clear hw hhd htl
      go_wp2_with fail
      refine HHA.out.mono ?_
      rintro e w2 ⟨rfl,rfl⟩
      go_wp2_with fail
      refine HTZ.out.mono ?_
      rintro e w3 ⟨rfl,hb3⟩
      have HF3:=LH (HFX.out w3 hb3)
      have HB3:=LH hb3
      clear hb3
      go_wp2_with fail
      refine HF3.out.mono ?_
      rintro e w4 ⟨rfl,hg⟩
      have HR:=LH (HNS.out w3 w4 HW.out HB3.out hg)
      clear hg
      go_wp2_with fail
      go_roundw
      case rel=>exact HR.out
      case measure=>simp[intOf];omega
     | true=>
      rw[htl] at HTZ
      have hwe:(H2.sh q).well H2.n=((l.length:Int) == (H2.sh q).size):=by rw[HWL.out,hhd,htl];rfl
      have HWE:=LH hwe
      clear hwe hhd htl
      go_wp2_with fail
      refine HHA.out.mono ?_
      rintro e w2 ⟨rfl,rfl⟩
      go_wp2_with fail
      refine HTZ.out.mono ?_
      rintro e w3 ⟨rfl,hb3⟩
      have HM3:=LH (HMY.out w3 hb3)
      have HF3:=LH (HFX.out w3 hb3)
      have HB3:=LH hb3
      clear hb3
      go_wp2_with fail
      refine HM3.out.mono ?_
      rintro e w4 ⟨rfl,rfl⟩
      cases hsz:((l.length:Int) == (H2.sh q).size) with
      | true=>
       have HR:=LH (HYS.out w3 (by rw[HWE.out,hsz]) HB3.out)
       go_wp2_with fail
       go_roundw
       case rel=>exact HR.out
       case measure=>simp[intOf];omega
      | false=>
       go_wp2_with fail
       refine HF3.out.mono ?_
       rintro e w5 ⟨rfl,hg⟩
       have HR:=LH (HNS.out w3 w5 (by rw[HWE.out,hsz]) HB3.out hg)
       clear hg
       go_wp2_with fail
       go_roundw
       case rel=>exact HR.out
       case measure=>simp[intOf];omega
  ·obtain rfl:q=3:=by omega
   have hA2:=HFA.out 3 (Nat.le_refl _)
   have HFR:=LH (show ∀ H',q10 (([0,1,2].take 3).foldl Hs.fix1 H).stales H'→FixR H H' from fun H' h=>h)
   generalize ([0,1,2].take 3).foldl Hs.fix1 H=H2 at *
   have hc2:=hA2.c
   have hnsm:=hZ2.noSm hns
   have HI2:=LH hI2
   have HZ2:=LH hZ2
   have HW2:=LH hA2.wf
   have HA2:=LH hA2
   obtain⟨vh,hvh⟩:=hI2.hs
   obtain⟨_,_,c4,_,gl⟩:=hvh.cells
   obtain⟨A,c,hV,_,_⟩:=q01 hvh.txr
   rw[hV] at c4
   have HRZ:=LH (fun W own' (hz:HStep wr own2 W own')=>(hV▸hz.fr.own hvh.txr (fun b hb hs=>(hs.tag (hvh.txrt b hb)).1 rfl):W.ownsRow 0 74 1 (.slice A H2.m c) H2.m ((List.range' 1 H2.m).map fun i=>pw (P.gt i))))
   have hm60:H2.m≤60:=hA2.wf.m60
   have HSP:=LH (show ∀ q,q≤H2.m→Wf ((List.range' 1 q).foldl Hs.stale1 H2)∧Sz H2 ((List.range' 1 q).foldl Hs.stale1 H2) from fun q hq=>stales_wf hA2.wf hA2.c q hq)
   clear hI2 hZ2 hvh hV hA2
   go_wp2_with fail
   clear c4
   rename World=>W0
   go_loopw [54] (FcRel P own2 H2 W0) (fun v _=>H2.m-(intOf v).toNat)
   case atStart=>exact⟨0,rfl,Nat.zero_le _,own2,HI2.out,HZ.refl _ _ _⟩
   case round=>
    obtain⟨q,rfl,hq,own3,hI3,hZ3⟩:=hrel
    by_cases hlt2:(q:Int)<H2.m
    ·obtain⟨r,c',hV,hr,u,hu,hcu⟩:=q2g (HRZ.out _ _ hZ3) (k:=q) (by omega)
     injection hV with hA _ hcp
     subst hA hcp
     rw[List.getElem?_map,List.getElem?_range' (by omega)] at hu
     simp only[Option.map_some,Option.some.injEq] at hu
     rw[show 1+1*q=q+1 by omega] at hu
     subst hu
     unfold pw at hcu
     have hsp:=HSP.out q hq
     have HSN:=LH (q79 H2 q)
     generalize (List.range' 1 q).foldl Hs.stale1 H2=H3 at *
     have hi3:q+1≤H3.m:=by rw[hsp.2.m];omega
     have hc3:H3.c=3:=hsp.2.c.trans hc2
     have hq60:q≤60:=by omega
     obtain⟨vt,hvt⟩:=hI3.tx (q+1) (by omega) hi3
     obtain⟨_,k1,_,k3,_,_,_,kl⟩:=hvt.cells
     have hns3:=hZ3.noSm hnsm
     have hst:own3 vt.bs=some (.tx (q+1)):=hvt.st.resolve_right (hns3 _ _)
     have HMP:=LH hvt.shards
     have HSW:=LH (hsp.1.tx (q+1) (by omega) hi3).sh
     have HW3:=LH hsp.1
     have HI3:=LH hI3
     have HZ3:=LH hZ3
     have HVT:=LH hvt
     have HST:=LH hst
     have HNS3:=LH hns3
     clear hsp hvt hI3 hZ3 hst hns3
     rename World=>Wb
     have hlb:=HMP.out.lt
     go_wp2_with (at_range;refine q23 rfl _ 61 3 rfl Tryz.underlying61 rfl HMP.out ?_;intro w0 cnt0 hrg0 hf0 hs0)
     generalize hr0:Wb.heap.size=r0 at hrg0 hs0 ⊢
     have HR0:=LH hr0
     clear hr0
     have hb0:Below Wb.heap.size Wb w0:=hf0.none_below
     have HS0:=LH (show FdRel P (smOn own3 vt.bs (q+1)) H3 (q+1) vt.bs r0 Wb w0 from by
      refine⟨_,cnt0,smOn own3 vt.bs (q+1),H3,hrg0,(HI3.out.smOn (by omega) hi3 HVT.out).below hb0,HZ.below _ hb0,?_,by unfold smOn;rw[if_pos rfl],.inl ⟨rfl,fun k hk hl=>?_⟩⟩
      ·unfold smOn
       rw[if_neg (by have:=HR0.out;omega)]
       exact HI3.out.free (by have:=HR0.out;omega)
      ·exfalso
       obtain⟨e,he⟩:=Option.ne_none_iff_exists'.1 (q2l.1 hk).2
       simp[inM,he] at hl)
     clear hrg0 hf0 hs0 hb0
     try go_frame
     go_loopw [7] (fun _ wr=>FdRel P (smOn own3 vt.bs (q+1)) H3 (q+1) vt.bs r0 Wb wr) (fun _ wr=>wr.rangeLeft vt.bs r0)
     case atStart=>exact HS0.out
     case round=>
      obtain⟨left,cnt,own4,H4,hrg,hI4,hZ4,hor,hob,hsi⟩:=hrel
      have HRG:=LH hrg
      have HI4:=LH hI4
      have HZ4:=LH hZ4
      have HSI:=LH hsi
      clear hrg hI4 hZ4 hsi
      go_wp2_with (at_next;refine q2i rfl _ rfl rfl HRG.out ?_ ?_)
      ·intro hl0
       have hdone:=HSI.out.done (fun k hk=>hl0 k (by
        obtain⟨e,he⟩:=Option.ne_none_iff_exists'.1 (q2l.1 hk).2
        rcases(HSW.out k e he).1 with h|h <;> exact q0j (by omega) (by omega)))
       have HRR:=LH (show FcRel P own2 H2 W0 (.int .i64 ((q+1:Nat):Int)) wr from
        ⟨q+1,rfl,by omega,smOff own4 (q+1),by rw[HSN.out,← hdone];exact HI4.out.smOff (q+1),HZ3.out.trans (HStep.smOff HNS3.out HST.out HZ4.out hlb)⟩)
       clear hl0 hdone
       go_wp2_with fail
       go_roundw
       case rel=>exact HRR.out
       case measure=>simp[intOf];omega
      ·intro o v9 w3 cnt3 hox hlx hmx hrg3 hlt3 hf3 hs3 hen
       obtain⟨e9,he9,rfl⟩:∃ m,(H3.tx (q+1)).shards o=some m∧v9=.int .i64 m:=by
        unfold inM at hmx
        cases e:(H3.tx (q+1)).shards o with
        | none=>rw[e] at hmx;cases hmx
        | some m=>rw[e] at hmx;injection hmx with hmx;exact⟨m,rfl,hmx.symm⟩
       rw[show q05.val o=Value.int .i64 o from rfl] at hen ⊢
       obtain⟨k,rfl,hk2⟩:∃ k:Nat,o=k∧k<2:=by
        rcases(HSW.out o e9 he9).1 with h|h
        ·exact⟨0,h,by omega⟩
        ·exact⟨1,h,by omega⟩
       have hkc:k∈(H3.tx (q+1)).comes:=q2l.2 ⟨by omega,by rw[he9];simp⟩
       have hI3:HI w3 own4 P H4:=HI4.out.fr0 hf3 (fun b hb e=>hb (by rw[e];exact hor))
       have hZ3b:HStep Wb (smOn own3 vt.bs (q+1)) w3 own4:=⟨HZ4.out.ext,HZ4.out.fr.trans' hf3 (fun b hb (e:b=r0)=>by have:=HR0.out;omega),HZ4.out.sm⟩
       have HRG3:=LH hrg3
       have HLT:=LH (HRG.out.left_eq▸hlt3:cnt3<wr.rangeLeft vt.bs r0)
       have hc4:H4.c=3∧H4.m=H3.m∧Wf H4∧∀ s,(H4.sh s).epoch=(H3.sh s).epoch:=by
        rcases HSI.out with ⟨e,_⟩|⟨e,_⟩
        ·rw[e];exact⟨hc3,rfl,HW3.out,fun _=>rfl⟩
        ·rw[e]
         have f:=(q1d H3 (q+1)).1
         exact⟨f.c.trans hc3,f.m,HW3.out.abort hc3 (by omega) hi3,fun s=>abort_ep H3 (q+1) s⟩
       obtain⟨hc4,hm4,hw4,he4⟩:=hc4
       obtain⟨v4,hv4⟩:=hI3.tx (q+1) (by omega) (by omega)
       obtain⟨_,d1,_,_,_,_,_,dl⟩:=hv4.cells
       obtain⟨vh4,hvh4⟩:=hI3.hs
       obtain⟨_,d3,_,_,dgl⟩:=hvh4.cells
       obtain⟨r5,k5,hV5,hr5,hc5⟩:=hvh4.shAt (s:=k) (by omega)
       rw[hV5,hc4] at d3
       obtain⟨_,e2,_,_,_,_,_,_,esl⟩:=hI3.shCell (s:=k) (by omega)
       rw[he4 k] at e2
       have HAB:=LH (q33 hI3 hw4 hc4 (show 1≤q+1 by omega) (show q+1≤H4.m by omega))
       have HI3b:=LH hI3
       have HZ3b:=LH hZ3b
       have hki:(k:Int)<3:=by omega
       unfold pw at HAB hc5
       have hgo:(∀ left':Int→Bool,(∀ y,left' y=false→left y=false∨y=(k:Int))→StIn H3 H4 (q+1) left')→FdRel P (smOn own3 vt.bs (q+1)) H3 (q+1) vt.bs r0 Wb w3∧w3.rangeLeft vt.bs r0<wr.rangeLeft vt.bs r0:=fun hs=>by
        refine⟨⟨_,cnt3,own4,H4,HRG3.out,HI3b.out,HZ3b.out,hor,hob,hs _ (fun y hy=>?_)⟩,by rw[HRG3.out.left_eq];exact HLT.out⟩
        rcases Bool.and_eq_false_iff.1 hy with h|h
        ·exact .inl h
        ·right;simpa using h
       have HGO:=LH hgo
       clear hgo hI3 hZ3b hrg3 hlt3 hf3 hs3 hmx hv4 hvh4 hV5 hw4 hlx
       by_cases hst:(H4.tx (q+1)).state=1
       ·have hH:H4=H3:=by
         rcases HSI.out with ⟨e,_⟩|⟨e,_⟩
         ·exact e
         ·exfalso
          rw[e,((q1d H3 (q+1)).2.2 (q+1)).1,if_pos rfl] at hst
          cases hst
        have hS0:=HSI.out
        by_cases hep:e9=(H3.sh k).epoch
        ·have hg:=HGO.out (fun left' hl=>by
          rcases hS0 with ⟨e,h0⟩|hr
          ·refine .inl ⟨e,fun k' hk' hl'=>?_⟩
           rcases hl _ hl' with h|h
           ·exact h0 k' hk' h
           ·rintro ⟨_,hne⟩
            rw[h] at hne
            have ek:k'=k:=by omega
            subst ek
            exact hne (by rw[he9,hep])
          ·exact .inr hr)
         have HN1:=LH hg.1
         have HN2:=LH hg.2
         have hne0:(e9 != (H3.sh k).epoch)=false:=by simpa using hep
         rw[hst] at d1
         clear hg hS0 hst hH hep
         go_wp2_with fail
         go_roundw
         case rel=>exact HN1.out
         case measure=>exact HN2.out
        ·have hne0:(e9 != (H3.sh k).epoch)=true:=by simpa using hep
         have hst3:(H3.tx (q+1)).state=1:=by rw[← hH];exact hst
         have hstale:Stale H3 (q+1):=⟨k,hkc,by rw[he9];intro h;injection h with h;exact hep h⟩
         have HNX:=LH (fun W own5 (hI5:HI W own5 P (H4.abort (q+1))) (hz:HStep w3 own4 W own5)=>(by
          have hbb:=hz.fr.block vt.bs HRG3.out.owns.lt (fun⟨t,e,ht⟩=>by rw[hob] at e;injection e with e;subst e;exact ht.2.2 _ rfl)
          have hrb:=hz.fr.block r0 HRG3.out.lt (fun⟨t,e,_⟩=>by rw[hor] at e;cases e)
          have hrg5:=HRG3.out.of_blocks hbb hrb
          exact⟨⟨_,cnt3,own5,H4.abort (q+1),hrg5,hI5,HZ3b.out.trans hz,(hz.ext _ HRG3.out.lt).trans hor,(hz.ext _ HRG3.out.owns.lt).trans hob,.inr ⟨by rw[hH],hst3,hstale⟩⟩,by rw[hrg5.left_eq];exact HLT.out⟩:FdRel P (smOn own3 vt.bs (q+1)) H3 (q+1) vt.bs r0 Wb W∧W.rangeLeft vt.bs r0<wr.rangeLeft vt.bs r0))
         rw[hst] at d1
         clear hS0 hst hH hep hst3 hstale
         go_wp2_with fail
         refine HAB.out.mono ?_
         rintro e w5 ⟨rfl,own5,hI5,hZ5⟩
         have hg:=HNX.out w5 own5 hI5 hZ5
         have HN1:=LH hg.1
         have HN2:=LH hg.2
         clear hg hI5 hZ5 HNX
         go_wp2_with fail
         go_roundw
         case rel=>exact HN1.out
         case measure=>exact HN2.out
       ·have hst0:((H4.tx (q+1)).state == 1)=false:=by simpa using hst
        have hg:=HGO.out (fun left' _=>by
         rcases HSI.out with ⟨e,_⟩|hr
         ·exact .inl ⟨e,fun _ _ _ h=>hst (by rw[e];exact h.1)⟩
         ·exact .inr hr)
        have HN1:=LH hg.1
        have HN2:=LH hg.2
        clear hg hst
        go_wp2_with fail
        go_roundw
        case rel=>exact HN1.out
        case measure=>exact HN2.out
    ·obtain rfl:q=H2.m:=by omega
     have hwf2:=HSP.out H2.m (Nat.le_refl _)
     have HST:=LH (q3c (show HI wr own3 P H2.stales from hI3) hwf2.1 (hwf2.2.c.trans hc2))
     have HZ3:=LH (HZ2.out.trans hZ3)
     unfold pw at HST
     clear hI3 hZ3 hwf2
     go_wp2_with fail
     refine HST.out.mono ?_
     rintro e w3 ⟨rfl,H',hr,own4,hI4,hZ4⟩
     have HF:=LH (show FixsP P own H w (.returned (.tuple #[])) w3 from⟨rfl,H',HFR.out H' hr,own4,hI4,HZ3.out.trans hZ4⟩)
     clear hr hI4 hZ4
     go_wp2_with fail
     go_end0
     exact HF.out
end
def nwV (V:Value) (bd:Nat):ShV:=⟨V,bd,none,fun _=>⟨0,0,.nilIface⟩,none,fun _=>.nilIface⟩
structure NwI (w:World) (B q bd gs i:Nat) (V:Value) (gn:Nat→Nat):Prop where
 lo:B≤bd∧bd<gs
 blk:Blk w gs 105 (q13 (nwV V bd) (shd0 q))
 map:MapG q05 w bd 100 (ddM fun _=>false)
 row:w.ownsRow (gs+1) 108 1 V i ((List.range i).map fun j=>pw (gn j))
 nd:∀ j,j<i→NdI w 0 (gn j) (.slice none 0 0) (.slice none 0 0) [] (nd0 (10*q+j))∧gs<gn j
 inc:∀ j k,j<k→k<i→gn j<gn k
open Classical in
noncomputable def nwOwn (own:Own) (B q bd gs n:Nat) (V:Value) (gn:Nat→Nat):Own:=fun b=>
 if b<B then own b else if b=bd then some (.dd q) else if b=gs then some (.sb q) else if V.ownBlock=some b then some (.ndr q)
 else if h:∃ j,j<n∧b=gn j then some (.nd q h.choose) else none
section
variable {w w' w4 w5:World} {own own':Own} {P:Ptr} {H:Hs} {B q bd gs i n:Nat} {V:Value} {gn:Nat→Nat}
theorem NwI.inj (h:NwI w B q bd gs i V gn) {j k:Nat} (hj:j<i) (hk:k<i) (e:gn j=gn k):j=k:=by
 rcases Nat.lt_trichotomy j k with h1|h1|h1
 ·have:=h.inc j k h1 hk;omega
 ·exact h1
 ·have:=h.inc k j h1 hj;omega
theorem NwI.own_bd (h:NwI w B q bd gs n V gn):nwOwn own B q bd gs n V gn bd=some (.dd q):=by unfold nwOwn;rw[if_neg (by have:=h.lo;omega),if_pos rfl]
theorem NwI.own_gs (h:NwI w B q bd gs n V gn):nwOwn own B q bd gs n V gn gs=some (.sb q):=by unfold nwOwn;rw[if_neg (by have:=h.lo;omega),if_neg (by have:=h.lo;omega),if_pos rfl]
theorem NwI.own_row (h:NwI w B q bd gs n V gn) {b:Nat} (hb:V.ownBlock=some b):nwOwn own B q bd gs n V gn b=some (.ndr q):=by
 have h1:=(h.row.lt b hb).1
 have h2:=h.lo
 unfold nwOwn;rw[if_neg (by omega),if_neg (by omega),if_neg (by omega),if_pos hb]
theorem NwI.own_nd (h:NwI w B q bd gs n V gn) {j:Nat} (hj:j<n):nwOwn own B q bd gs n V gn (gn j)=some (.nd q j):=by
 have h2:=h.lo
 obtain⟨h3,h4⟩:=h.nd j hj
 unfold nwOwn
 have hex:∃ k,k<n∧gn j=gn k:=⟨j,hj,rfl⟩
 rw[if_neg (by omega),if_neg (by omega),if_neg (by omega),if_neg (fun e=>q02 h.row h3.blk (by decide) e),dif_pos hex]
 have hc:=hex.choose_spec
 rw[← h.inj hj hc.1 hc.2]
theorem nwOwn_ext:Ext own (nwOwn own B q bd gs n V gn) B:=fun b hb=>by unfold nwOwn;rw[if_pos hb]
theorem NwI.own_lt (h:NwI w B q bd gs n V gn) (hlt:∀ b,own b≠none→b<w.heap.size):∀ b,nwOwn own B q bd gs n V gn b≠none→b<w.heap.size:=fun b hb=>by
 unfold nwOwn at hb
 split at hb
 ·exact hlt b hb
 ·split at hb
  ·rename_i e;rw[e];exact h.map.lt
  ·split at hb
   ·rename_i e;rw[e];exact h.blk.lt
   ·split at hb
    ·rename_i e;exact(h.row.lt b e).2
    ·split at hb
     ·rename_i e;obtain⟨j,hj,rfl⟩:=e;exact(h.nd j hj).1.blk.lt
     ·exact absurd rfl hb
theorem NwI.sm:∀ b k,nwOwn own B q bd gs n V gn b=some (.sm k)→own b=some (.sm k):=fun b k e=>by
 unfold nwOwn at e
 split at e
 ·exact e
 ·split at e
  ·cases e
  ·split at e
   ·cases e
   ·split at e
    ·cases e
    ·split at e <;> cases e
theorem NwI.shI (h:NwI w B q bd gs n V gn):ShI w (nwOwn own B q bd gs n V gn) n q gs gn (nwV V bd) (shd0 q):=
 ⟨q17 h.row (Nat.zero_le _),fun b hb=>h.own_row hb,h.map,h.own_bd,TabI.none_ h.blk rfl ⟨by decide,by decide⟩ (Nat.zero_le _) _,fun b hb=>by
  rcases hb with h|⟨x,hx,_⟩
  ·cases h
  ·exact absurd rfl hx,StI.none_ h.blk rfl rfl (by decide) (Nat.zero_le _) _,fun b hb=>by
  rcases hb with h|⟨x,hx,_⟩
  ·cases h
  ·exact absurd rfl hx,h.own_gs⟩
theorem NwI.ndC (h:NwI w B q bd gs n V gn) {j:Nat} (hj:j<n):NdC w (nwOwn own B q bd gs n V gn) (.nd q j) (gn j) ((shd0 q).nd j):=
 ⟨_,_,_,(h.nd j hj).1,fun b hb=>by
  rcases hb with rfl|hb|hb|⟨x,hx,_⟩
  ·exact h.own_nd hj
  ·cases hb
  ·cases hb
  ·cases hx⟩
theorem HI.pushSh (h:HI w4 own P H) (hsh:ShC w4 own H.n H.c gs gn (shd0 H.c)) (hnd:∀ j,j<H.n→NdC w4 own (.nd H.c j) (gn j) ((shd0 H.c).nd j)) (hH:H.sh H.c=shd0 H.c)
  {v:HsV} (hv:HsI w4 own P H.c H.m H.net H.time v) {V':Value} (hm:Moved w4 w5 v.Vr.ownBlock V'.ownBlock)
  (hr:w5.ownsRow 0 80 1 V' (H.c+1) (((List.range H.c).map fun s=>pw (P.gs s))++[pw gs])) :
  ∃ own',HI (w5.setCell ⟨P.g,3,none⟩ V') own' { P with gs:=upd P.gs H.c gs,gn:=upd P.gn H.c gn } { H with c:=H.c+1 }∧(∀ b,own' b≠none→own b≠none∨w4.heap.size≤b)∧(∀ b i,own' b=some (.sm i)→own b=some (.sm i))∧
   Fr (OS own (fun t=>t=.shr∨t=.hs)) w4 (w5.setCell ⟨P.g,3,none⟩ V'):=by
 have he:Ext own (q15 own w4.heap.size (fun q=>V'.ownBlock=some q) .shr) w4.heap.size:=q14
 have hf5:Fr (OS own (fun t=>t=.shr∨t=.hs)) w4 w5:=hm.1.mono (fun q _ e=>⟨_,hv.shrt q e.symm,.inl rfl⟩)
 have hset:=Fr.set1 P.g w5 3 V'
 have hf:Fr (OS own (fun t=>t=.shr∨t=.hs)) w4 (w5.setCell ⟨P.g,3,none⟩ V'):=hf5.setCell (p:=⟨P.g,3,none⟩) (.inl ⟨_,hv.gt,.inr rfl⟩) _
 have hgV:¬some P.g=v.Vr.ownBlock:=fun e=>by have:=hv.shrt P.g e.symm;rw[hv.gt] at this;cases this
 have hb5:Blk w5 P.g 92 (q2e v H.time):=hm.1.blk hv.nt.blk hgV
 have hnb:∀ q,NetF v q→¬OS own (fun t=>t=.shr∨t=.hs) q:=fun q hq hs=>by rcases hs.tag (hv.nett q hq) with e|e <;> cases e
 have hN:NetI (w5.setCell ⟨P.g,3,none⟩ V') 0 P.g 0 92 (q2e { v with Vr:=V' } H.time) v.Vn v.D 100 v.L H.net.dead v.lost:=
  hv.nt.recs hf hnb (hb5.set_ 3 V') rfl rfl rfl
 have hrow:(w5.setCell ⟨P.g,3,none⟩ V').ownsRow 0 80 1 V' (H.c+1) ((List.range (H.c+1)).map fun s=>pw (upd P.gs H.c gs s)):=by
  have h1:((List.range (H.c+1)).map fun s=>pw (upd P.gs H.c gs s))=(((List.range H.c).map fun s=>pw (P.gs s))++[pw gs]):=by
   rw[List.range_succ,List.map_append]
   congr 1
   ·apply List.map_congr_left
    intro s hs
    rw[List.mem_range] at hs
    rw[q07 (by omega)]
   ·rw[List.map_cons,List.map_nil,q03]
  rw[h1]
  exact hset.own hr (fun q hq e=>q02 hr hb5 (by decide) (by rw[hq,e]))
 have hxt:∀ q,V'.ownBlock=some q→q15 own w4.heap.size (fun q=>V'.ownBlock=some q) .shr q=some .shr:=fun q hq=>q1l (by
  rcases hm.2 with e|⟨b',e,hl⟩
  ·exact .inl (hv.shrt q (by rw[← e];exact hq))
  ·rw[e] at hq;injection hq with hq;exact .inr (by omega)) hq
 refine⟨_,⟨q1m hf.size (fun q hq=>(hrow.lt q hq).2),⟨{ v with Vr:=V' },hN,hv.msgs,fun q hq=>(he q (hv.nt.foot_lt hq)).trans (hv.nett q hq),hv.few,hrow,hxt,hf.own hv.txr (fun q hq hs=>by rcases hs.tag (hv.txrt q hq) with e|e <;> cases e),fun q hq=>(he q (hv.txr.lt q hq).2).trans (hv.txrt q hq),(he _ hv.nt.blk.lt).trans hv.gt⟩,fun s hs=>?_,fun s j hs hj=>?_,fun i h1 hi=>?_⟩,fun b hb=>?_,q1f (by simp),hf⟩
 ·have hs:s<H.c+1:=hs
  show ShC _ _ H.n s (upd P.gs H.c gs s) (upd P.gn H.c gn s) (H.sh s)
  by_cases e:s=H.c
  ·subst e
   rw[q03,q03,hH]
   exact hsh.keep hf he (fun t ht ht2=>by rcases ht with h|h|h|h|h <;> subst h <;> rcases ht2 with h|h <;> cases h)
  ·rw[q07 e,q07 e]
   exact(h.sh s (by omega)).keep hf he (fun t ht ht2=>by rcases ht with h|h|h|h|h <;> subst h <;> rcases ht2 with h|h <;> cases h)
 ·have hs:s<H.c+1:=hs
  show NdC _ _ (.nd s j) (upd P.gn H.c gn s j) ((H.sh s).nd j)
  by_cases e:s=H.c
  ·subst e
   rw[q03,hH]
   exact(hnd j hj).keep hf he (fun ht2=>by rcases ht2 with h|h <;> cases h)
  ·rw[q07 e]
   exact(h.nd s j (by omega) hj).keep hf he (fun ht2=>by rcases ht2 with h|h <;> cases h)
 ·exact(h.tx i h1 hi).keep hf he (fun ht2=>by rcases ht2 with h|h <;> cases h) (fun ht2=>by rcases ht2 with h|h <;> cases h)
 ·unfold q15 at hb
  split at hb
  ·exact .inl hb
  ·exact .inr (by omega)
theorem HI.addSh (h:HI w own P H) (hn:NwI w4 w.heap.size H.c bd gs H.n V gn) (hb:Below w.heap.size w w4) (hH:H.sh H.c=shd0 H.c)
  {v:HsV} (hv:HsI w own P H.c H.m H.net H.time v) {V':Value} (hm:Moved w4 w5 v.Vr.ownBlock V'.ownBlock)
  (hr:w5.ownsRow 0 80 1 V' (H.c+1) (((List.range H.c).map fun s=>pw (P.gs s))++[pw gs])) :
  ∃ own',HI (w5.setCell ⟨P.g,3,none⟩ V') own' { P with gs:=upd P.gs H.c gs,gn:=upd P.gn H.c gn } { H with c:=H.c+1 }∧(∀ b,own' b≠none→own b≠none∨w.heap.size≤b)∧(∀ b i,own' b=some (.sm i)→own b=some (.sm i)):=by
 have he:Ext own (nwOwn own w.heap.size H.c bd gs H.n V gn) w.heap.size:=nwOwn_ext
 have h4:=h.grown (own':=nwOwn own w.heap.size H.c bd gs H.n V gn) hb he (hn.own_lt (fun b hb2=>Nat.lt_of_lt_of_le (h.lt b hb2) hb.size))
 have hv4:HsI w4 (nwOwn own w.heap.size H.c bd gs H.n V gn) P H.c H.m H.net H.time v:=hv.keep (q4g own hb) he (fun _ _ h=>h)
 obtain⟨own',h1,h2,h3,_⟩:=h4.pushSh ⟨_,hn.shI⟩ (fun j hj=>hn.ndC hj) hH hv4 hm hr
 refine⟨own',h1,fun b hb2=>?_,fun b i e=>NwI.sm b i (h3 b i e)⟩
 rcases h2 b hb2 with h|h
 ·by_cases e:b<w.heap.size
  ·rw[nwOwn_ext b e] at h;exact .inl h
  ·exact .inr (by omega)
 ·exact .inr (Nat.le_trans hb.size h)
theorem hs_new (w:World) (n:Nat) (P:Ptr) (hg:P.g=w.heap.size):HI (w.alloc (.cells #[.slice none 0 0,.map none,.int .i64 0,.slice none 0 0,.slice none 0 0,.int .i64 0] 92)) (fun b=>if b=w.heap.size then some .hs else none) P (hsE n):=by
 have hb:=Blk.new w 92 #[.slice none 0 0,.map none,.int .i64 0,.slice none 0 0,.slice none 0 0,.int .i64 0]
 rw[← hg] at hb ⊢
 refine⟨fun b hb2=>?_,⟨⟨.slice none 0 0,none,[],0,.slice none 0 0,.slice none 0 0⟩,⟨hb,rfl,rfl,rfl,World.ownsRow_nil _ _ _ _,fun x hx=>(by cases hx),fun i=>rfl,Nat.zero_le _,⟨by decide,by decide⟩,Nat.zero_le _⟩,rfl,fun b hb2=>?_,fun x hx=>(by cases hx),World.ownsRow_nil _ _ _ _,fun b hb2=>(by cases hb2),World.ownsRow_nil _ _ _ _,fun b hb2=>(by cases hb2),if_pos rfl⟩,fun s hs=>absurd hs (by show ¬s<0;omega),fun s j hs=>absurd hs (by show ¬s<0;omega),fun i h1 hi=>absurd hi (by show ¬i≤0;omega)⟩
 ·by_cases e:b=P.g
  ·rw[e];exact hb.lt
  ·rw[if_neg e] at hb2;exact absurd rfl hb2
 ·rcases hb2 with h|h|⟨x,hx,_⟩
  ·cases h
  ·cases h
  ·cases hx
end
theorem psh_info:(Tryz.prog.info? 80).map (fun i=>(i.zero,i.size,i.bytes))=some (some (.pointer none),1,8):=by kernel_rfl
def NwRel (n g:Nat) (w:World) (v:Value) (wr:World):Prop:=
 ∃ (q:Nat) (P:Ptr) (own:Own),v=.int .i64 q∧q≤3∧P.g=g∧HI wr own P (mores n q)∧NoSm own∧Below w.heap.size w wr∧∀ b,own b≠none→w.heap.size≤b
def NxRel (n q bd gs:Nat) (W1:World) (v:Value) (wr:World):Prop:=
 ∃ (i:Nat) (V:Value) (gn:Nat→Nat),v=.int .i64 i∧i≤n∧NwI wr bd q bd gs i V gn∧Below bd W1 wr
def NewP (n:Nat) (w:World) (e:Ending) (w':World):Prop:=
 ∃ (P:Ptr) (own:Own),e=.returned (.tuple #[pw P.g,.nilIface])∧HI w' own P (hs0 n)∧NoSm own∧Below w.heap.size w w'∧w.heap.size≤P.g∧∀ b,own b≠none→w.heap.size≤b
theorem NwI.grow {w w':World} {B q bd gs i:Nat} {V V':Value} {gn:Nat→Nat} {g':Nat} (h:NwI w B q bd gs i V gn) (hf:Fr (fun k=>k=gs∨V.ownBlock=some k) w w') (hb:Blk w' gs 105 (q13 (nwV V' bd) (shd0 q)))
  (hr:w'.ownsRow (gs+1) 108 1 V' (i+1) (((List.range i).map fun j=>pw (gn j))++[pw g'])) (hn:NdI w' 0 g' (.slice none 0 0) (.slice none 0 0) [] (nd0 (10*q+i))) (hg:gs<g') (hi:∀ j,j<i→gn j<g') :
  NwI w' B q bd gs (i+1) V' (upd gn i g'):=by
 have hnb:∀ j,j<i→¬(gn j=gs∨V.ownBlock=some (gn j)):=fun j hj e=>by
  obtain⟨h1,h2⟩:=h.nd j hj
  rcases e with e|e
  ·omega
  ·exact q02 h.row h1.blk (by decide) e
 refine⟨h.lo,hb,h.map.fr hf (fun e=>?_),?_,fun j hj=>?_,fun j k hjk hk=>?_⟩
 ·have:=h.lo
  rcases e with e|e
  ·omega
  ·have:=(h.row.lt _ e).1;omega
 ·have e:(List.range (i+1)).map (fun j=>pw (upd gn i g' j))=((List.range i).map fun j=>pw (gn j))++[pw g']:=by
   rw[List.range_succ,List.map_append]
   congr 1
   ·apply List.map_congr_left
    intro s hs
    rw[List.mem_range] at hs
    rw[q07 (by omega)]
   ·rw[List.map_cons,List.map_nil,q03]
  rw[e];exact hr
 ·by_cases e:j=i
  ·subst e;rw[q03];exact⟨hn,hg⟩
  ·rw[q07 e]
   obtain⟨h1,h2⟩:=h.nd j (by omega)
   exact⟨h1.fr hf (fun b hb=>by
    rcases hb with rfl|hb|hb|⟨x,hx,_⟩
    ·exact hnb j (by omega)
    ·cases hb
    ·cases hb
    ·cases hx),h2⟩
 ·by_cases e:k=i
  ·subst e;rw[q03,q07 (by omega)];exact hi j hjk
  ·rw[q07 e,q07 (by omega)];exact h.inc j k hjk (by omega)
theorem mores_ep {n q:Nat} {H:Hs} (h:MoreI n q H):∀ j∈(H.cc.sh q).liveIx H.cc.n,((H.cc.sh q).nd j).epoch<wrap64 ((H.cc.sh q).epoch+1):=fun j _=>by
 show((H.sh q).nd j).epoch<wrap64 ((H.sh q).epoch+1)
 rw[h.new q (Nat.le_refl _)]
 show(0:Int)<wrap64 (0+1)
 rw[IntWalk.wrap64_in (0+1) ⟨by omega,by omega⟩]
 omega
section
variable {w:World}
theorem new_house (n:Nat) (h1:1≤n) (h4:n≤4):Calls Tryz.prog 20 #[.int .i64 2,.int .i64 n] w (NewP n w):=by
 have hmm:=@run_makeMap Tryz.prog
 have HMI:=LH (q7q h4)
 have HS0:=LH (hs_new w n ⟨w.heap.size,fun _=>0,fun _ _=>0,fun _=>0⟩ rfl)
 have hn1:¬(n:Int)<1:=by omega
 have hn4:¬(4:Int)<n:=by omega
 have hd1:decide ((n:Int)<1)=false:=decide_eq_false hn1
 have hd4:decide ((4:Int)<n)=false:=decide_eq_false hn4
 have hst:NwRel n w.heap.size w (.int .i64 0) (w.alloc (.cells #[.slice none 0 0,.map none,.int .i64 0,.slice none 0 0,.slice none 0 0,.int .i64 0] 92)):=
  ⟨0,_,_,rfl,Nat.zero_le _,rfl,HS0.out,fun b i e=>by dsimp only at e;split at e <;> simp at e,(Below.refl _ _).alloc (Nat.le_refl _) _,fun b hb=>by
   by_cases e:b=w.heap.size
   ·omega
   ·rw[if_neg e] at hb;exact absurd rfl hb⟩
 have HST:=LH hst
 clear hst HS0
 go_enter Tryz.func20,Tryz.ntmps20
 go_wp2_with fail
 clear hd1 hd4 hn4
 generalize hge:w.heap.size=g at HST ⊢
 go_loopw [29] (NwRel n g w) (fun v _=>3-(intOf v).toNat)
 case atStart=>exact HST.out
 case round=>
  obtain⟨q,P,own,rfl,hq,hPg,hI,hns,hbw,hlo⟩:=hrel
  by_cases hlt:(q:Int)<3
  ·have hq3:q<3:=by omega
   obtain⟨hmi,_⟩:=HMI.out q (by omega)
   have hmn:mores n (q+1)=(mores n q).cc.fix q:=by
    show(mores n q).more=_
    rw[q64,hmi.c]
   have HMN:=LH hmn
   have HME:=LH (mores_ep hmi)
   have hwc:Wf (mores n q).cc:=hmi.wf.cc (by rw[hmi.c];exact hq3) (hmi.new _ (by rw[hmi.c];exact Nat.le_refl _))
   have HWC:=LH hwc
   have hHs:(mores n q).sh (mores n q).c=shd0 (mores n q).c:=hmi.new _ (by rw[hmi.c];exact Nat.le_refl _)
   have HHS:=LH hHs
   have hHc:=hmi.c
   have hHn:=hmi.n
   clear hmi hmn hwc hHs
   generalize mores n q=H at *
   obtain⟨vh,hvh⟩:=hI.hs
   have HVH:=LH hvh
   obtain⟨_,k3,_,_,kl⟩:=hvh.cells
   have kf:=hvh.nt.blk.frozen 3
   rw[hPg] at k3 kl kf
   have HI1:=LH hI
   have HNS:=LH hns
   have HBW:=LH hbw
   have HLO:=LH hlo
   have HPG:=LH hPg
   have hm0:MapG q05 (wr.alloc (.map #[] 0)) wr.heap.size 100 (ddM fun _=>false):=(MapG.made q05 wr).mono (Nat.zero_le 100)
   have hn0:NwI ((wr.alloc (.map #[] 0)).alloc (.cells #[.slice none 0 0,.map (some wr.heap.size),.int .i64 0,.int .i64 0,.map none,.map none,.int .i64 0,.int .i64 0] 105)) wr.heap.size q wr.heap.size (wr.heap.size+1) 0 (.slice none 0 0) (fun _=>0):=by
    refine⟨⟨Nat.le_refl _,Nat.lt_succ_self _⟩,?_,hm0.alloc _,World.ownsRow_nil _ _ _ _,fun j hj=>absurd hj (by omega),fun j k _ hk=>absurd hk (by omega)⟩
    have:=Blk.new (wr.alloc (.map #[] 0)) 105 #[.slice none 0 0,.map (some wr.heap.size),.int .i64 0,.int .i64 0,.map none,.map none,.int .i64 0,.int .i64 0]
    rw[show(wr.alloc (.map #[] 0)).heap.size=wr.heap.size+1 by simp] at this
    exact this
   have hb0:Below wr.heap.size wr ((wr.alloc (.map #[] 0)).alloc (.cells #[.slice none 0 0,.map (some wr.heap.size),.int .i64 0,.int .i64 0,.map none,.map none,.int .i64 0,.int .i64 0] 105)):=((Below.refl _ _).alloc (Nat.le_refl _) _).alloc (by simp) _
   have HST2:=LH (show NxRel n q wr.heap.size (wr.heap.size+1) wr (.int .i64 0) _ from⟨0,_,_,rfl,Nat.zero_le _,hn0,hb0⟩)
   clear hI hns hbw hlo hvh hm0 hn0 hb0
   rename World=>Wb
   go_wp2_with fail
   generalize hbe:Wb.heap.size=bd at HST2 ⊢
   have HBE:=LH hbe
   clear hbe
   generalize hgse:bd+1=gs at HST2 ⊢
   have HGE:=LH hgse
   clear hgse
   go_loopw [36] (NxRel n q bd gs Wb) (fun v _=>n-(intOf v).toNat)
   case atStart=>exact HST2.out
   case round=>
    obtain⟨i,V,gn,rfl,hi,hnw,hbx⟩:=hrel
    by_cases hlti:(i:Int)<n
    ·have hi4:i≤4:=by omega
     have HNW:=LH hnw
     have HBX:=LH hbx
     obtain⟨A6,c6,rfl,_,_⟩:=q01 hnw.row
     have hcell:=hnw.blk.cell 0
     have hcl:=hnw.blk.lt
     unfold q13 nwV at hcell
     simp only[List.getElem?_toArray,List.getElem?_cons_zero] at hcell
     have hw1:IntKind.i64.wrap (10*(q:Int))=10*(q:Int):=IntWalk.i64_in _ ⟨by omega,by omega⟩
     have hw2:IntKind.i64.wrap (10*(q:Int)+i)=10*(q:Int)+i:=IntWalk.i64_in _ ⟨by omega,by omega⟩
     have HNEW:=LH (new_any 0 (10*(q:Int)+i) wr.drew (Nat.zero_le _))
     clear hnw hbx
     go_upto_region 11 with (fail)
     refine wp_region_any (by kernel_rfl) ?_
     change wpAny _ _ _ _ _ _ _ (World.drew _)
     refine q0e (fun W=>W.cell? ⟨gs,0,none⟩=some (.slice A6 i c6)∧gs<W.heap.size) 12 (fun _ _ _ _ _ h=>h) (fun HQP=>?_)
     have HCC:wr.drew.cell? ⟨gs,0,none⟩=some (.slice A6 i c6)∧gs<wr.drew.heap.size:=⟨hcell,hcl⟩
     refine nA 0 [12,13,14] rfl rfl HQP HCC (fun w' hw'=>by go_simp;rfl) ?_
     refine nA 1 [2,3,4,11,12,13,14] rfl rfl HQP HCC (fun w' hw'=>by go_simp;rfl) ?_
     refine nA 2 [3,4,11,12,13,14] rfl rfl HQP HCC (fun w' hw'=>by go_simp;rfl) ?_
     refine nA 3 [4,11,12,13,14] rfl rfl HQP HCC (fun w' hw'=>by go_simp;rfl) ?_
     refine nA 4 [11,12,13,14] rfl rfl HQP HCC (fun w' hw'=>by obtain⟨p1,pl⟩:=hw';go_simp;rfl) ?_
     refine nA 5 [6,8,9,10,11,12,13,14] rfl rfl HQP HCC (fun w' hw'=>by go_simp;rfl) ?_
     refine nA 6 [8,9,10,11,12,13,14] rfl rfl HQP HCC (fun w' hw'=>by go_simp;rfl) ?_
     refine nA 7 [8,9,10,11,12,13,14] rfl rfl HQP HCC (fun w' hw'=>by go_simp;rfl) ?_
     refine nA 8 [9,10,11,12,13,14] rfl rfl HQP HCC (fun w' hw'=>by go_simp;rfl) ?_
     refine nO 9 rfl (fun KK hK=>?_)
     go_simp
     refine HNEW.out.mono ?_
     rintro e w3 ⟨rfl,hnd,hb3,hs3⟩
     have hb3':Below wr.heap.size wr w3:=(Below.refl wr (B:=wr.heap.size)).drew.trans hb3
     have C3:=LH (show w3.cell? ⟨gs,0,none⟩=some (.slice A6 i c6)∧gs<w3.heap.size from⟨(hb3'.cell (p:=⟨gs,0,none⟩) hcl).trans hcell,Nat.lt_of_lt_of_le hcl hb3'.size⟩)
     have HND:=LH hnd
     have HB3:=LH hb3'
     have HRO:=LH ((q06 hb3').own HNW.out.row (fun b hb hs=>by have:=(HNW.out.row.lt b hb).2;omega))
     have hwz:wr.drew.heap.size=wr.heap.size:=rfl
     rw[hwz] at HND
     clear hnd hb3 hb3' hcell hcl HNEW hs3
     go_simp
     refine hK _ _ (fun _=>C3.out) ?_
     clear hK KK HCC
     refine nO 10 rfl (fun KK hK=>?_)
     go_simp
     refine hK _ _ (fun _=>⟨(World.cell?_alloc_lt w3 _ ⟨gs,0,none⟩ C3.out.2).trans C3.out.1,by have:=C3.out.2;simp;omega⟩) ?_
     clear hK KK
     refine nO 11 rfl (fun KK hK=>?_)
     have hsz5:gs+1≤w3.heap.size:=C3.out.2
     have hq7:i+1≤maxLen∧(i+1)*8≤140737488355328:=⟨by unfold maxLen;omega,by omega⟩
     refine q1g w3 w3.heap.size rfl _ (.tmp 43) (.tmp 49) 97 rfl (gs+1) 108 (.pointer none) 1 8 Tryz.underlying97 pnd_info rfl (by decide) _ _ _ #[pw wr.heap.size] rfl HRO.out 1 rfl _ rfl rfl (by simp[Value.oneCell',pw]) hq7.1 hq7.2 hsz5 ?_
     intro V2 w8 hrow8 hm8
     have hgV:¬some gs=(Value.slice A6 i c6).ownBlock:=fun e=>by have:=(HNW.out.row.lt gs e.symm).1;omega
     have hnV:¬some wr.heap.size=(Value.slice A6 i c6).ownBlock:=fun e=>by have:=(HNW.out.row.lt _ e.symm).2;omega
     have hblk3:=(q06 HB3.out).blk HNW.out.blk (by have:=HNW.out.blk.lt;omega)
     have hblk8:=hm8.1.blk hblk3 hgV
     have y0:=hblk8.cell 0
     have yf:=hblk8.frozen 0
     have yl:=hblk8.lt
     unfold q13 nwV at y0
     simp only[List.getElem?_toArray,List.getElem?_cons_zero] at y0
     have hset:=Fr.set1 gs w8 0 V2
     have hfr:Fr (fun k=>k=gs∨(Value.slice A6 i c6).ownBlock=some k) wr (w8.setCell ⟨gs,0,none⟩ V2):=
      (((q06 HB3.out).mono (T:=fun k=>k=gs∨(Value.slice A6 i c6).ownBlock=some k) (fun k hk hs=>absurd hs (by omega))).trans' hm8.1 (fun k _ e=>.inr e.symm)).trans' hset (fun k _ e=>.inl e)
     have hblk9:Blk (w8.setCell ⟨gs,0,none⟩ V2) gs 105 (q13 (nwV V2 bd) (shd0 q)):=by simpa [q13,nwV] using hblk8.set_ 0 V2
     have hnd8:NdI (w8.setCell ⟨gs,0,none⟩ V2) 0 wr.heap.size (.slice none 0 0) (.slice none 0 0) [] (nd0 (10*q+i)):=by
      have hno:∀ b,NdF wr.heap.size (.slice none 0 0) (.slice none 0 0) [] b→b=wr.heap.size:=fun b hb=>by
       rcases hb with h|h|h|⟨x,hx,_⟩
       ·exact h
       ·cases h
       ·cases h
       ·cases hx
      exact(HND.out.fr hm8.1 (fun b hb e=>hnV (by rw[hno b hb] at e;exact e))).fr hset (fun b hb e=>by have:=hno b hb;have:=HNW.out.blk.lt;omega)
     have hrow9:=hset.own hrow8 (fun b hb e=>by have:=(hrow8.lt b hb).1;omega)
     have hfin:NwI (w8.setCell ⟨gs,0,none⟩ V2) bd q bd gs (i+1) V2 (upd gn i wr.heap.size):=
      HNW.out.grow hfr hblk9 hrow9 hnd8 HNW.out.blk.lt (fun j hj=>(HNW.out.nd j hj).1.blk.lt)
     have hbx9:Below bd wr (w8.setCell ⟨gs,0,none⟩ V2):=hfr.below (fun k hk=>by
      have:=HNW.out.lo
      rcases hk with e|e
      ·omega
      ·have:=(HNW.out.row.lt k e).1;omega) (by have:=HNW.out.map.lt;omega)
     have HRR:=LH (show NxRel n q bd gs Wb (.int .i64 ((i+1:Nat):Int)) (w8.setCell ⟨gs,0,none⟩ V2) from⟨i+1,V2,_,rfl,by omega,hfin,HBX.out.trans hbx9⟩)
     obtain⟨A9,c9,rfl,_,_⟩:=q01 hrow8
     have C8:=LH (show w8.cell? ⟨gs,0,none⟩=some (.slice A6 i c6)∧gs<w8.heap.size from⟨y0,yl⟩)
     clear hfin hbx9 hrow9 hnd8 hblk9 hfr hset hblk8 hblk3 hgV hnV hrow8 hm8
     go_simp
     refine hK _ _ (fun _=>C8.out) ?_
     clear hK KK
     refine nO 12 rfl (fun KK hK=>?_)
     go_simp
     refine hK _ _ (fun h=>absurd h (by decide)) ?_
     clear hK KK
     refine nO 13 rfl (fun KK hK=>?_)
     go_simp
     refine hK _ _ (fun h=>absurd h (by decide)) ?_
     clear hK KK
     refine nO 14 rfl (fun KK hK=>?_)
     go_simp
     refine hK _ _ (fun h=>absurd h (by decide)) ?_
     clear hK KK
     refine ndone (by kernel_rfl) ?_ _
     clear HQP y0 yf yl
     go_wp2_with fail
     go_roundw
     case rel=>exact HRR.out
     case measure=>simp[intOf];omega
    ·obtain rfl:n=i:=by omega
     have hPgb:∀ b,own b≠none→w.heap.size≤b:=HLO.out
     have hrowB:=HVH.out.shr
     obtain⟨A7,c7,hVr,_,_⟩:=q01 hrowB
     have hrow4:=(q06 hbx).own hrowB (fun b hb hs=>by have:=(hrowB.lt b hb).2;have:=HBE.out;omega)
     rw[hVr] at hrow4 k3
     rw[hHc] at hrow4 k3
     have k3w:=(hbx.cell (p:=⟨g,3,none⟩) (by have:=HBE.out;have:=HPG.out;show g<bd;omega)).trans k3
     have klw:=Nat.lt_of_lt_of_le kl hbx.size
     have hblkg:=(q06 hbx).blk HVH.out.nt.blk (by have:=HVH.out.nt.blk.lt;have:=HBE.out;omega)
     have HGB:=LH hblkg
     have HNW:=LH hnw
     have HBX:=LH hbx
     have HRO:=LH hrow4
     have HVR:=LH hVr
     clear hrowB hrow4 hblkg hnw hbx hVr k3 kl kf
     go_wp2_with (at_builtin;refine stop ?_)
     refine back ?_
     refine q0h wr _ rfl (.tmp 58) (.tmp 60) 89 rfl 0 80 (.pointer none) 1 8 Tryz.underlying89 psh_info rfl (by decide) _ _ _ #[pw gs] rfl HRO.out 1 rfl _ rfl rfl (by simp[Value.oneCell',pw]) (by unfold maxLen;omega) (by omega) (Nat.zero_le _) ?_
     intro V2 w6 hrow6 hm6
     have hm6':Moved wr w6 vh.Vr.ownBlock V2.ownBlock:=by rw[HVR.out,hHc];exact hm6
     have hadd:=HI1.out.addSh (w4:=wr) (w5:=w6) (bd:=bd) (gs:=gs) (V:=V) (gn:=gn) (V':=V2) (by rw[HBE.out,hHc,hHn];exact HNW.out) (by rw[HBE.out];exact HBX.out) HHS.out HVH.out hm6' (by rw[hHc];exact hrow6)
     obtain⟨own7,hI7,hlo7,hsm7⟩:=hadd
     have hgV:¬some g=vh.Vr.ownBlock:=fun e=>by have:=HVH.out.shrt g e.symm;rw[← HPG.out,HVH.out.gt] at this;cases this
     rw[HPG.out] at HGB
     have hg6:=hm6'.1.blk HGB.out hgV
     have y1:=hg6.frozen 3
     have y0:=hg6.cell 3
     unfold q2e at y0
     simp only[List.getElem?_toArray,List.getElem?_cons_zero,List.getElem?_cons_succ] at y0
     rw[HVR.out,hHc] at y0
     have yl:=hg6.lt
     have hb6:Below w.heap.size Wb (w6.setCell ⟨g,3,none⟩ V2):=by
      have e1:Below w.heap.size Wb wr:=HBX.out.mono (by have:=HBE.out;have:=HBW.out.size;omega)
      have e2:Fr (fun k=>w.heap.size≤k) wr (w6.setCell ⟨g,3,none⟩ V2):=(hm6'.1.mono (T:=fun k=>w.heap.size≤k) (fun k _ e=>hPgb k (by rw[HVH.out.shrt k e.symm];simp))).trans' (Fr.set1 g w6 3 V2) (fun k _ e=>by
       have:=hPgb g (by rw[← HPG.out,HVH.out.gt];simp);omega)
      exact e1.trans (e2.below (fun _ h=>h) (Nat.le_trans HBW.out.size HBX.out.size))
     have HB6:=LH hb6
     obtain⟨P7,hP7e⟩:∃ P7:Ptr,P7 = { P with gs:=upd P.gs H.c gs,gn:=upd P.gn H.c gn }:=⟨_,rfl⟩
     rw[← hP7e,HPG.out] at hI7
     have HFX:=LH (hfix_any (s:=q) hI7 HWC.out (show q<H.c+1 by omega) HME.out)
     have HOW:=LH (show ∀ b,own7 b≠none→w.heap.size≤b from fun b hb=>by
      rcases hlo7 b hb with h|h
      ·exact hPgb b h
      ·have:=HBW.out.size;omega)
     have HN7:=LH (show NoSm own7 from fun b i e=>HNS.out b i (hsm7 b i e))
     have hPg7:P7.g=g:=by rw[hP7e];exact HPG.out
     have hPs7:P7.gs q=gs:=by rw[hP7e];show upd P.gs H.c gs q=gs;rw[hHc,q03]
     clear hP7e
     rw[hPg7,hPs7] at HFX
     obtain⟨A9,c9,rfl,_,_⟩:=q01 hrow6
     unfold pw at HFX
     clear hm6 hm6' hg6 hI7 hlo7 hsm7 hrow6 hb6 hgV HGB
     go_upto_region 14 with (fail)
     clear y0 y1 yl
     generalize (w6.setCell _ _)=w7 at *
     go_wp2_with fail
     refine HFX.out.mono ?_
     rintro e w8 ⟨rfl,own8,hI8,hZ8⟩
     have hb8:Below w.heap.size w7 w8:=hZ8.fr.below (fun k hk=>HOW.out k hk.owned) (Nat.le_trans HBW.out.size HB6.out.size)
     have HRR:=LH (show NwRel n g w (.int .i64 ((q+1:Nat):Int)) w8 from⟨q+1,P7,own8,rfl,by omega,hPg7,by rw[HMN.out];exact hI8,hZ8.noSm HN7.out,(HBW.out.trans HB6.out).trans hb8,fun b hb=>by
      by_cases e:b<w7.heap.size
      ·rw[hZ8.ext b e] at hb;exact HOW.out b hb
      ·have:=HB6.out.size;have:=HBW.out.size;omega⟩)
     clear hI8 hZ8 hb8
     go_wp2_with fail
     go_roundw
     case rel=>exact HRR.out
     case measure=>simp[intOf];omega
  ·obtain rfl:q=3:=by omega
   have HF:=LH (show NewP n w (.returned (.tuple #[.pointer (some ⟨g,0,none⟩),.nilIface])) wr from⟨P,own,by rw[hPg];rfl,hI,hns,hbw,by rw[hPg];omega,hlo⟩)
   clear hI hns hbw hlo
   go_wp2_with fail
   go_ret2
   exact HF.out
end
end Go.Proofs.YtccahlhdifadfaaGreatDoor
