/- Part 9 of the texts that the claim rests on (of 19): Hf5, HsK, HsV, Hf6, Hf7, Hf8, Hf9. -/
import Derived.Test.YtccahlhdifadfaaGreatDoorPk07
namespace Go.Proofs.YtccahlhdifadfaaGreatDoor
open Go.RowKit
set_option maxRecDepth 100000
set_option maxHeartbeats 16000000
open Classical in
noncomputable def q15 (own:Own) (n:Nat) (F:Nat→Prop) (t:Tg):Own:=fun b=>if b<n then own b else if F b then some t else none
section
variable {w w':World} {own own':Own} {P:Ptr} {H:Hs} {n:Nat} {F:Nat→Prop} {t:Tg}
theorem q14:Ext own (q15 own n F t) n:=fun b h=>by unfold q15;rw[if_pos h]
theorem q1m {n':Nat} (hn:n≤n') (hF:∀ b,F b→b<n'):∀ b,q15 own n F t b≠none→b<n':=fun b h=>by
 unfold q15 at h
 split at h
 ·omega
 ·split at h
  ·rename_i h2;exact hF b h2
  ·exact absurd rfl h
theorem q1l {b:Nat} (h:own b=some t∨n≤b) (hF:F b):q15 own n F t b=some t:=by
 unfold q15
 by_cases hb:b<n
 ·rw[if_pos hb]
  rcases h with h|h
  ·exact h
  ·omega
 ·rw[if_neg hb,if_pos hF]
theorem q1f (ht:∀ i,t≠.sm i):∀ b i,q15 own n F t b=some (.sm i)→own b=some (.sm i):=fun b i h=>by
 unfold q15 at h
 split at h
 ·exact h
 ·split at h
  ·injection h with h;exact absurd h (ht i)
  ·cases h
theorem q7k {b:Nat} (h:n≤b) (hF:¬F b):q15 own n F t b=none:=by
 unfold q15
 rw[if_neg (by omega),if_neg hF]
theorem ShI.retab {k s g:Nat} {gn:Nat→Nat} {v:ShV} {x:Shd} (h:ShI w own k s g gn v x) (hf:Fr (OS own (fun t=>t=.sb s∨t=.tab s)) w w') (he:Ext own own' w.heap.size) {mt':Option Nat} {loct':Sx→KLoc} {T':Tb}
  (ht:TabI w' 0 100 g 4 105 (q13 { v with mt:=mt',loct:=loct' } { x with tab:=T' }) mt' loct' T') (htt:∀ b,TFoot mt' loct' T' b→own' b=some (.tab s)):ShI w' own' k s g gn { v with mt:=mt',loct:=loct' } { x with tab:=T' }:=by
 refine⟨hf.own h.row (fun b hb hs=>?_),fun b hb=>(he b (h.row.lt b hb).2).trans (h.rowt b hb),h.dd.fr hf (fun hs=>?_),(he _ h.dd.lt).trans h.ddt,ht,htt,h.sto.recs hf (fun b hb hs=>?_) ht.blk rfl rfl,fun b hb=>(he b (h.sto.foot_lt (.inr hb)).2).trans (h.stot b hb),(he g h.tab.blk.lt).trans h.gt⟩
 ·rcases hs.tag (h.rowt b hb) with e|e <;> cases e
 ·rcases hs.tag h.ddt with e|e <;> cases e
 ·rcases hs.tag (h.stot b hb) with e|e <;> cases e
theorem ShI.resto {k s g:Nat} {gn:Nat→Nat} {v:ShV} {x:Shd} (h:ShI w own k s g gn v x) (hf:Fr (OS own (fun t=>t=.sb s∨t=.sto s)) w w') (he:Ext own own' w.heap.size) {ms':Option Nat} {locs':Sx→Value} {K':Kp}
  (ht:StI w' 0 100 g 5 105 (q13 { v with ms:=ms',locs:=locs' } { x with sto:=K' }) ms' locs' K' 0) (htt:∀ b,SFoot ms' locs' K' b→own' b=some (.sto s)):ShI w' own' k s g gn { v with ms:=ms',locs:=locs' } { x with sto:=K' }:=by
 refine⟨hf.own h.row (fun b hb hs=>?_),fun b hb=>(he b (h.row.lt b hb).2).trans (h.rowt b hb),h.dd.fr hf (fun hs=>?_),(he _ h.dd.lt).trans h.ddt,h.tab.recs hf (fun b hb hs=>?_) ht.blk rfl,fun b hb=>(he b (h.tab.foot_lt hb).2).trans (h.tabt b hb),ht,htt,(he g h.tab.blk.lt).trans h.gt⟩
 ·rcases hs.tag (h.rowt b hb) with e|e <;> cases e
 ·rcases hs.tag h.ddt with e|e <;> cases e
 ·rcases hs.tag (h.tabt b hb) with e|e <;> cases e
theorem q27 {Z Z':Tg→Prop} (hf:Fr (OS own Z) w w') (h:∀ t,Z t→Z' t):Fr (OS own Z') w w':=hf.mono (fun _ _ ⟨t,a,b⟩=>⟨t,a,h t b⟩)
theorem tab_fr {s g:Nat} {mt:Option Nat} {loc:Sx→KLoc} {T:Tb} (hg:own g=some (.sb s)) (ht:∀ b,TFoot mt loc T b→own b=some (.tab s)) (hf:Fr (TFr g mt loc T) w w'):Fr (OS own (fun t=>t=.sb s∨t=.tab s)) w w':=
 hf.mono (fun b _ hb=>hb.elim (fun e=>⟨_,by rw[e];exact hg,.inl rfl⟩) (fun hb=>⟨_,ht b hb,.inr rfl⟩))
theorem sto_fr {s g:Nat} {ms:Option Nat} {loc:Sx→Value} {K:Kp} (hg:own g=some (.sb s)) (ht:∀ b,SFoot ms loc K b→own b=some (.sto s)) (hf:Fr (SFr g ms loc K) w w'):Fr (OS own (fun t=>t=.sb s∨t=.sto s)) w w':=
 hf.mono (fun b _ hb=>hb.elim (fun e=>⟨_,by rw[e];exact hg,.inl rfl⟩) (fun hb=>⟨_,ht b hb,.inr rfl⟩))
theorem q4p:∀ (ws left:List (Int×Int)) (h:Int→Option Int),(q0p h left ws).2.2.Sublist ws
 | [],left,h=>by rw[q30];exact List.Sublist.refl _
 | w::ws,left,h=>by
  rcases hf:freeB h w.1 w.2 left with _|_
  ·rw[q5z hf];exact(q4p ws _ h).cons _
  ·rw[q4o hf];exact(q4p ws _ _).cons_cons _
theorem WfKx.len {k:Kx} (h:WfKx k):k.ws.length≤61:=by
 have h1:(k.ws.map (·.1)).length≤kI61.length:=by
  refine List.Nodup.length_le_of_subset ?_ (fun t ht=>?_)
  ·rw[List.Nodup,List.pairwise_map]
   exact h.sort.imp (fun h e=>by omega)
  ·obtain⟨v,hv,rfl⟩:=List.mem_map.1 ht
   have:=h.wait v hv
   exact q1s (by omega) this.2
 rw[List.length_map,q2h] at h1
 exact h1
theorem q98 {T:Tb} (wf:WfT T) (tx:Int):∀ ks:List Sx,(ks.flatMap (q19 T tx)).length≤ks.length*61
 | []=>by simp
 | x::ks=>by
  have ih:=q98 wf tx ks
  have h1:(q19 T tx x).length≤61:=by
   unfold q19
   cases e:T x with
   | none=>simp
   | some k=>
    have h2:=(q4p (offW k.ws tx) [] (setH k.h tx none)).length_le
    have h3:(offW k.ws tx).length≤k.ws.length:=List.length_filter_le _ _
    have h4:=(wf x k e).2.len
    show((relK k tx).2.map _).length≤61
    rw[List.length_map]
    show(q0p (setH k.h tx none) [] (offW k.ws tx)).2.2.length≤61
    omega
  rw[List.flatMap_cons,List.length_append,List.length_cons]
  omega
theorem keysP_len {T:Tb} (wf:WfT T) {ks:List Sx} (h:KeysP T ks):ks.length≤4:=by
 have:ks.length≤names.length:=List.Nodup.length_le_of_subset (h.1.imp (fun h e=>by subst e;exact List.lt_irrefl _ h)) (fun x hx=>by
  cases e:T x with
  | none=>exact absurd e ((h.2 x).1 hx)
  | some k=>exact(wf x k e).1)
 exact this
open Classical in
theorem grant_iff {T:Tb} {tx:Int} {ks:List Sx} (h:KeysP T ks) (i:Nat) (y:Sx):hitB (ks.flatMap (q19 T tx)) i y=true↔decide (grB T tx i y)=true:=by
 unfold hitB
 rw[List.any_eq_true,decide_eq_true_eq]
 unfold grB
 constructor
 ·rintro ⟨a,ha,hp⟩
  simp only[Bool.and_eq_true,decide_eq_true_eq] at hp
  obtain⟨x,hx,ha⟩:=List.mem_flatMap.1 ha
  unfold q19 at ha
  cases e:T x with
  | none=>rw[e] at ha;cases ha
  | some k=>
   rw[e] at ha
   obtain⟨g,hg,rfl⟩:=List.mem_map.1 ha
   obtain⟨h1,h2⟩:=hp
   dsimp only at h1 h2
   subst h2
   exact⟨k,g.2,e,by rw[← h1];exact hg⟩
 ·rintro ⟨k,md,e,hm⟩
  refine⟨⟨i,y,md⟩,List.mem_flatMap.2 ⟨y,(h.2 y).2 (by rw[e];simp),?_⟩,by simp⟩
  unfold q19
  rw[e]
  exact List.mem_map.2 ⟨(↑i,md),hm,rfl⟩
open Classical in
theorem grantL_rel {T:Tb} {tx:Int} {ks:List Sx} (h:KeysP T ks) (H':Hs):H'.grantL (ks.flatMap (q19 T tx))=H'.granted T tx:=by
 have hfil:∀ i:Nat,(H'.tx i).wants.filter (fun w=>!hitB (ks.flatMap (q19 T tx)) i w.1)=(H'.tx i).wants.filter (fun w=>!decide (grB T tx i w.1)):=fun i=>by
  apply List.filter_congr
  intro w _
  congr 1
  rw[Bool.eq_iff_iff]
  exact grant_iff h i w.1
 unfold Hs.grantL Hs.granted
 simp only[hfil]
def HRelP (P:Ptr) (H:Hs) (own:Own) (s:Nat) (tx:Int) (w:World) (e:Ending) (w':World):Prop:=
 ∃ (V:Value) (gs:List Ak) (own':Own),e=.returned V∧w'.ownsRow (w.heap.size+1) 179 3 V gs.length (gs.flatMap q2n)∧(∀ b,V.ownBlock=some b→own' b=none)∧gs.length≤1000∧
  (∀ H':Hs,H'.grantL gs=H'.granted (H.sh s).tab tx)∧HI w' own' P (H.setSh s { H.sh s with tab:=relT (H.sh s).tab tx })∧HZ (shTag s) w own w' own'
theorem q42 {s:Nat} (h:HI w own P H) (hs:s<H.c) (tx:Int) (htx:okN tx) (wf:WfT (H.sh s).tab) :
  Calls Tryz.prog 70 #[.pointer (some ⟨P.gs s,4,none⟩),.int .i64 tx] w (HRelP P H own s tx w):=by
 obtain⟨v,hv⟩:=h.sh s hs
 refine(release_any 0 100 (P.gs s) 4 _ _ v.mt v.loct (H.sh s).tab tx w hv.tab htx (by omega) (by decide)).mono ?_
 rintro e w' ⟨V,ks,loc',rfl,hks,hrow,hT,hft,hfr⟩
 have hf:=tab_fr hv.gt hv.tabt hfr
 have hT1:=hT.tight (wf.rel tx)
 have hfoot:∀ b,TFoot v.mt loc' (relT (H.sh s).tab tx) b→own b=some (.tab s)∨w.heap.size≤b:=fun b hb=>(hft b hb).imp (hv.tabt b) id
 have he:Ext own (q15 own w.heap.size (TFoot v.mt loc' (relT (H.sh s).tab tx)) (.tab s)) w.heap.size:=q14
 have hsh:=hv.retab hf he hT1 (fun b hb=>q1l (hfoot b hb) hb)
 have hlt:=q1m (own:=own) (t:=.tab s) hf.size (fun b hb=>(hT.foot_lt hb).2)
 refine⟨V,_,_,rfl,hrow,fun b hb=>q7k (Nat.le_trans (Nat.le_succ _) (hrow.lt b hb).1) (fun h2=>(hT.notRow hrow (by decide) (by decide) (by decide) hb).2 h2),?_,grantL_rel hks,
  h.setSh' rfl (q27 hf (fun t ht=>ht.elim .inl (fun e=>.inr (.inr (.inr (.inl e)))))) he hlt ⟨_,hsh⟩,⟨he,q27 hf (fun t ht=>ht.elim .inl (fun e=>.inr (.inr (.inr (.inl e))))),(by first|exact q1f (by simp)|exact fun _ _ h=>h)⟩⟩
 have h1:=q98 wf tx ks
 have h2:=keysP_len wf hks
 omega
theorem lockP_T {T T':Tb} {tx mode er:Int} {x:Sx} {ok:Bool} {l:List Int} (h:LockP T ⟨tx,x,mode⟩ ok l er T') (hm:q16 mode) (hx:x.length≤20):T'=lockT T tx x mode:=by
 unfold lockT
 cases h with
 | arg h=>exact absurd hm h
 | long _ h=>exact absurd hx (by simpa using h)
 | twice _ _ hw=>rw[if_pos hw]
 | got _ _ hw hf=>rw[if_neg (by rw[hw];simp),if_pos hf]
 | full _ _ hw hf h50=>rw[if_neg (by rw[hw];simp),if_neg (by rw[hf];simp),if_pos h50]
 | waits _ _ hw hf h50=>rw[if_neg (by rw[hw];simp),if_neg (by rw[hf];simp),if_neg h50]
def HLockP (P:Ptr) (H:Hs) (own:Own) (s:Nat) (a:Ak) (w:World) (e:Ending) (w':World):Prop:=
 ∃ (ok:Bool) (l:List Int) (er:Int) (A:Option Addr) (c:Nat) (own':Own),e=.returned (.tuple #[.bool ok,.slice A l.length c,erV er])∧LockP (H.sh s).tab a ok l er (lockT (H.sh s).tab a.tx a.key a.mode)∧
  HI w' own' P (H.setSh s { H.sh s with tab:=lockT (H.sh s).tab a.tx a.key a.mode })∧HZ (shTag s) w own w' own'∧Rd w' w'.heap.size 1 A l.length (l.map (Value.int .i64))∧(∀ b o,A=some ⟨b,o,none⟩→0<l.length→own' b=none)
theorem lock_get (base n g off:Nat) (ty:TypeId) (cs:Array Value) (mb:Option Nat) (loc:Sx→KLoc) (T:Tb) (s:ByteArray) (tx mode:Int) (w:World) (hI:TabI w base n g off ty cs mb loc T) (hmode:q16 mode) (hl:(sx s).length≤20) (htx:okN tx) (hn:n<1000000)
  (hsort:(atT T (sx s)).ws.Pairwise (·.1 < ·.1)) :
  Calls Tryz.prog 64 #[.pointer (some ⟨g,off,none⟩),.int .i64 tx,.string s,.int .i64 mode] w (q37 base n g off ty cs mb loc T ⟨tx,sx s,mode⟩ w):=by
 rcases hw:q0w (atT T (sx s)).ws tx with _|_
 ·rcases hf:freeB (atT T (sx s)).h tx mode (atT T (sx s)).ws with _|_
  ·exact lock_blocked base n g off ty cs mb loc T s tx mode w hI hmode hl htx hn hw hf hsort
  ·exact lock_got base n g off ty cs mb loc T s tx mode w hI hmode hl htx hn hw hf
 ·exact lock_twice base n g off ty cs mb loc T s tx mode w hI hmode hl htx hn hw
theorem q80 {s:Nat} (h:HI w own P H) (hs:s<H.c) (tx mode:Int) (x:ByteArray) (htx:1≤tx∧tx≤60) (hx:sx x∈names) (hm:q16 mode) (wf:WfT (H.sh s).tab) :
  Calls Tryz.prog 64 #[.pointer (some ⟨P.gs s,4,none⟩),.int .i64 tx,.string x,.int .i64 mode] w (HLockP P H own s ⟨tx,sx x,mode⟩ w):=by
 obtain⟨v,hv⟩:=h.sh s hs
 refine(lock_get 0 100 (P.gs s) 4 _ _ v.mt v.loct (H.sh s).tab x tx mode w hv.tab hm (q1n hx) (q0j (by omega) (by omega)) (by omega) (wf.at_ (sx x)).sort).mono ?_
 rintro e w' ⟨ok,l,er,T',A,c,mb',loc',rfl,hP,hT,hft,hfr,hrd,hA⟩
 obtain rfl:=lockP_T hP hm (q1n hx)
 have hf:=tab_fr hv.gt hv.tabt hfr
 have hT1:TabI w' 0 100 (P.gs s) 4 105 (q13 { v with mt:=mb',loct:=loc' } { H.sh s with tab:=lockT (H.sh s).tab tx (sx x) mode }) mb' loc' (lockT (H.sh s).tab tx (sx x) mode):=hT.tight (wf.lock htx hx mode)
 have hfoot:∀ b,TFoot mb' loc' (lockT (H.sh s).tab tx (sx x) mode) b→own b=some (.tab s)∨w.heap.size≤b:=fun b hb=>(hft b hb).imp (hv.tabt b) id
 have he:Ext own (q15 own w.heap.size (TFoot mb' loc' (lockT (H.sh s).tab tx (sx x) mode)) (.tab s)) w.heap.size:=q14
 have hsh:=hv.retab hf he hT1 (fun b hb=>q1l (hfoot b hb) hb)
 have hlt:=q1m (own:=own) (t:=.tab s) hf.size (fun b hb=>(hT.foot_lt hb).2)
 exact⟨ok,l,er,A,c,_,rfl,hP,h.setSh' rfl (q27 hf (fun t ht=>ht.elim .inl (fun e=>.inr (.inr (.inr (.inl e)))))) he hlt ⟨_,hsh⟩,⟨he,q27 hf (fun t ht=>ht.elim .inl (fun e=>.inr (.inr (.inr (.inl e))))),(by first|exact q1f (by simp)|exact fun _ _ h=>h)⟩,hrd,fun b o e h0=>q7k (hA b o e h0).1 (hA b o e h0).2⟩
def HPutP (P:Ptr) (H:Hs) (own:Own) (s:Nat) (t:Int) (p:Pr) (w:World) (e:Ending) (w':World):Prop:=
 ∃ (er:Int) (own':Own),e=.returned (erV er)∧HI w' own' P (H.setSh s { H.sh s with sto:=(putS (H.sh s).sto 0 ⟨sx p.key,sx p.val,p.gone,t⟩).2 })∧HZ (shTag s) w own w' own'
theorem hput_any {s:Nat} (h:HI w own P H) (hs:s<H.c) (t:Int) (p:Pr) (ht:0≤t∧t≤60) (hp:WfP p) (wf:WfS (H.sh s).sto) :
  Calls Tryz.prog 82 #[.pointer (some ⟨P.gs s,5,none⟩),.int .i64 t,.agg #[.string p.key,.string p.val,.bool p.gone]] w (HPutP P H own s t p w):=by
 obtain⟨v,hv⟩:=h.sh s hs
 refine(put_any 0 100 (P.gs s) 5 _ _ v.ms v.locs (H.sh s).sto 0 p.key p.val p.gone t w hv.sto (by omega)).mono ?_
 rintro e w' ⟨rfl,ms',loc',hS,hfr,hft⟩
 have hf:=sto_fr hv.gt hv.stot hfr
 have hS1:StI w' 0 100 (P.gs s) 5 105 (q13 { v with ms:=ms',locs:=loc' } { H.sh s with sto:=(putS (H.sh s).sto 0 ⟨sx p.key,sx p.val,p.gone,t⟩).2 }) ms' loc' (putS (H.sh s).sto 0 ⟨sx p.key,sx p.val,p.gone,t⟩).2 0:=hS.tight (wf.put (r:=⟨sx p.key,sx p.val,p.gone,t⟩) hp.1 ht.1 ht.2)
 have hfoot:∀ b,SFoot ms' loc' (putS (H.sh s).sto 0 ⟨sx p.key,sx p.val,p.gone,t⟩).2 b→own b=some (.sto s)∨w.heap.size≤b:=fun b hb=>by
  rcases hft b (.inr hb) with (rfl|hb2)|hb2
  ·exact absurd rfl (by
    rcases hb with hb|⟨x,hx,hb⟩
    ·have:=hS.map;rw[hb] at this;exact MapG.notBlk (C:=kV) this hS.blk
    ·exact fun _=>hS.notKeyG hx hb)
  ·exact .inl (hv.stot b hb2)
  ·exact .inr hb2
 have he:Ext own (q15 own w.heap.size (SFoot ms' loc' (putS (H.sh s).sto 0 ⟨sx p.key,sx p.val,p.gone,t⟩).2) (.sto s)) w.heap.size:=q14
 have hsh:=hv.resto hf he hS1 (fun b hb=>q1l (hfoot b hb) hb)
 have hlt:=q1m (own:=own) (t:=.sto s) hf.size (fun b hb=>(hS.foot_lt (.inr hb)).2)
 exact⟨_,_,rfl,h.setSh' rfl (q27 hf (fun t ht=>ht.elim .inl (fun e=>.inr (.inr (.inr (.inr e)))))) he hlt ⟨_,hsh⟩,⟨he,q27 hf (fun t ht=>ht.elim .inl (fun e=>.inr (.inr (.inr (.inr e))))),(by first|exact q1f (by simp)|exact fun _ _ h=>h)⟩⟩
end
theorem q0d (H:Hs) (s:Nat) (x:Shd):(H.setSh s x).sh s=x:=q03 _ _ _
theorem q2c (H:Hs) (s:Nat) (x y:Shd):(H.setSh s x).setSh s y=H.setSh s y:=by unfold Hs.setSh;rw[q9j]
theorem q5u (H:Hs) (s:Nat):H.setSh s (H.sh s)=H:=by unfold Hs.setSh;rw[q9k]
structure TkOk (H:Hs) (s:Nat):Prop where
 m:H.m≤60
 wn:∀ i,1≤i→i≤H.m→(H.tx i).wants.length≤1000
 tab:WfT (H.sh s).tab
 sto:WfS (H.sh s).sto
theorem TkOk.setTab {H:Hs} {s:Nat} (h:TkOk H s) {T:Tb} (hT:WfT T):TkOk (H.setSh s { H.sh s with tab:=T }) s:=⟨h.m,h.wn,by rw[q0d];exact hT,by rw[q0d];exact h.sto⟩
theorem TkOk.setSto {H:Hs} {s:Nat} (h:TkOk H s) {K:Kp} (hK:WfS K):TkOk (H.setSh s { H.sh s with sto:=K }) s:=⟨h.m,h.wn,by rw[q0d];exact h.tab,by rw[q0d];exact hK⟩
theorem TkOk.setDone {H:Hs} {s:Nat} (h:TkOk H s) (d:Nat):TkOk (H.setSh s { H.sh s with done:=d }) s:=⟨h.m,h.wn,by rw[q0d];exact h.tab,by rw[q0d];exact h.sto⟩
theorem TkOk.granted {H:Hs} {s:Nat} (h:TkOk H s) (T:Tb) (tx:Int):TkOk (H.granted T tx) s:=⟨h.m,fun i h1 h2=>Nat.le_trans (List.length_filter_le _ _) (h.wn i h1 h2),h.tab,h.sto⟩
theorem TkOk.rel {H:Hs} {s:Nat} (h:TkOk H s) (tx:Int):TkOk (H.rel s tx) s:=(h.setTab (h.tab.rel tx)).granted _ _
theorem prepT_snoc (T:Tb) (tx:Int) {ps:List Pr} {j:Nat} {p:Pr} (h:ps[j]? = some p):prepT T tx (ps.take (j+1))=lockT (prepT T tx (ps.take j)) tx (sx p.key) 2:=by
 unfold prepT;rw[List.take_add_one,h,List.foldl_append];rfl
theorem putsK_snoc (K:Kp) (t:Int) {ps:List Pr} {j:Nat} {p:Pr} (h:ps[j]? = some p):putsK K t (ps.take (j+1))=(putS (putsK K t (ps.take j)) 0 ⟨sx p.key,sx p.val,p.gone,t⟩).2:=by
 unfold putsK;rw[List.take_add_one,h,List.foldl_append];rfl
theorem commK_snoc (K:Kp) (c:Cm) {l:List Cm} {j:Nat} {a:Cm} (h:l[j]? = some a):commK K (l.take (j+1)) c=if a.kind=2∧a.tx=c.tx then putsK (commK K (l.take j) c) c.time a.writes else commK K (l.take j) c:=by
 unfold commK;rw[List.take_add_one,h,List.foldl_append];rfl
noncomputable def Hs.taken (H:Hs) (s:Nat) (l:List Cm) (i:Nat) (c:Cm):Hs:=(H.take1 s l i c).setSh s { (H.take1 s l i c).sh s with done:=i+1 }
theorem q8s {H:Hs} {s i k:Nat} {l:List Cm} {c:Cm} (hd:(H.sh s).done=i) (hc:l[i]? = some c):Hs.takes s l (k+1) H=Hs.takes s l k (H.taken s l i c):=by
 show(match l[(H.sh s).done]? with|none=>H|some c=>Hs.takes s l k ((H.take1 s l (H.sh s).done c).setSh s { (H.take1 s l (H.sh s).done c).sh s with done:=(H.sh s).done+1 }))=_
 rw[hd,hc]
 rfl
theorem TkOk.take1 {H:Hs} {s i:Nat} {l:List Cm} {c:Cm} (h:TkOk H s) (hc:WfC c) (hl:∀ a∈l,WfC a):TkOk (H.take1 s l i c) s:=by
 unfold Hs.take1
 split
 ·exact h.setTab (WfT.prep hc.tx _ h.tab hc.ps)
 ·split
  ·exact(h.setSto (WfS.comm hc _ h.sto (fun a ha=>hl a (List.mem_of_mem_take ha)))).rel _
  ·split
   ·exact h.rel _
   ·exact h
theorem TkOk.taken {H:Hs} {s i:Nat} {l:List Cm} {c:Cm} (h:TkOk H s) (hc:WfC c) (hl:∀ a∈l,WfC a):TkOk (H.taken s l i c) s:=(h.take1 hc hl).setDone _
structure q0b (H H':Hs) (s:Nat):Prop where
 n:H'.n=H.n
 c:H'.c=H.c
 m:H'.m=H.m
 net:H'.net=H.net
 time:H'.time=H.time
 sh:∀ k,k≠s→H'.sh k=H.sh k
 nd:(H'.sh s).nd=(H.sh s).nd
 dead:(H'.sh s).dead=(H.sh s).dead
 epoch:(H'.sh s).epoch=(H.sh s).epoch
 size:(H'.sh s).size=(H.sh s).size
 tx:∀ i,(H'.tx i).state=(H.tx i).state∧(H'.tx i).writes=(H.tx i).writes∧(H'.tx i).shards=(H.tx i).shards∧(H'.tx i).places=(H.tx i).places∧(H'.tx i).time=(H.tx i).time
 wants:∀ i,∀ a∈(H'.tx i).wants,a∈(H.tx i).wants
theorem q0b.refl (H:Hs) (s:Nat):q0b H H s:=⟨rfl,rfl,rfl,rfl,rfl,fun _ _=>rfl,rfl,rfl,rfl,rfl,fun _=>⟨rfl,rfl,rfl,rfl,rfl⟩,fun _ _ h=>h⟩
theorem q0b.trans {A B C:Hs} {s:Nat} (h:q0b A B s) (k:q0b B C s):q0b A C s:=
 ⟨k.n.trans h.n,k.c.trans h.c,k.m.trans h.m,k.net.trans h.net,k.time.trans h.time,fun i hi=>(k.sh i hi).trans (h.sh i hi),k.nd.trans h.nd,k.dead.trans h.dead,k.epoch.trans h.epoch,k.size.trans h.size,
  fun i=>⟨(k.tx i).1.trans (h.tx i).1,(k.tx i).2.1.trans (h.tx i).2.1,(k.tx i).2.2.1.trans (h.tx i).2.2.1,(k.tx i).2.2.2.1.trans (h.tx i).2.2.2.1,(k.tx i).2.2.2.2.trans (h.tx i).2.2.2.2⟩,fun i a ha=>h.wants i a (k.wants i a ha)⟩
theorem q0b.setSh {H:Hs} {s:Nat} {x:Shd} (h1:x.nd=(H.sh s).nd) (h2:x.dead=(H.sh s).dead) (h3:x.epoch=(H.sh s).epoch) (h4:x.size=(H.sh s).size):q0b H (H.setSh s x) s:=
 ⟨rfl,rfl,rfl,rfl,rfl,fun _ hk=>q07 hk _,by rw[q0d];exact h1,by rw[q0d];exact h2,by rw[q0d];exact h3,by rw[q0d];exact h4,fun _=>⟨rfl,rfl,rfl,rfl,rfl⟩,fun _ _ h=>h⟩
theorem q0b.granted (H:Hs) (s:Nat) (T:Tb) (tx:Int):q0b H (H.granted T tx) s:=
 ⟨rfl,rfl,rfl,rfl,rfl,fun _ _=>rfl,rfl,rfl,rfl,rfl,fun _=>⟨rfl,rfl,rfl,rfl,rfl⟩,fun _ _ h=>(List.mem_filter.1 h).1⟩
theorem q0b.rel (H:Hs) (s:Nat) (tx:Int):q0b H (H.rel s tx) s:=(q0b.setSh (x:={ H.sh s with tab:=relT (H.sh s).tab tx }) rfl rfl rfl rfl).trans (q0b.granted _ _ _ _)
theorem rel_done (H:Hs) (s:Nat) (tx:Int):((H.rel s tx).sh s).done=(H.sh s).done:=by
 show((H.setSh s _).sh s).done=_
 rw[q0d]
theorem q0b.take1 (H:Hs) (s i:Nat) (l:List Cm) (c:Cm):q0b H (H.take1 s l i c) s:=by
 unfold Hs.take1
 split
 ·exact q0b.setSh rfl rfl rfl rfl
 ·split
  ·exact(q0b.setSh (x:={ H.sh s with sto:=commK (H.sh s).sto (l.take i) c }) rfl rfl rfl rfl).trans (q0b.rel _ _ _)
  ·split
   ·exact q0b.rel _ _ _
   ·exact q0b.refl _ _
theorem q0b.taken (H:Hs) (s i:Nat) (l:List Cm) (c:Cm):q0b H (H.taken s l i c) s:=(q0b.take1 H s i l c).trans (q0b.setSh (x:={ (H.take1 s l i c).sh s with done:=i+1 }) rfl rfl rfl rfl)
theorem q0b.takes {s:Nat} {l:List Cm} : ∀ (k:Nat) (H:Hs),q0b H (Hs.takes s l k H) s
 | 0,H=>q0b.refl _ _
 | k+1,H=>by
  unfold Hs.takes
  split
  ·exact q0b.refl _ _
  ·exact(q0b.taken H s _ l _).trans (q0b.takes k _)
theorem q0b.take (H:Hs) (s:Nat):q0b H (H.take s) s:=by
 unfold Hs.take
 split
 ·exact q0b.refl _ _
 ·exact q0b.takes _ _
theorem TkOk.takes {s:Nat} {l:List Cm} (hl:∀ a∈l,WfC a):∀ (k:Nat) (H:Hs),TkOk H s→TkOk (Hs.takes s l k H) s
 | 0,H,h=>h
 | k+1,H,h=>by
  unfold Hs.takes
  split
  ·exact h
  ·rename_i c hc
   exact TkOk.takes hl k _ ((h.take1 (hl c (List.mem_of_getElem? hc)) hl).setDone _)
structure WfM (m:Ms):Prop where
 fr:0≤m.from_∧m.from_≤60
 tw:0≤m.to_∧m.to_≤60
 cmd:m.kind=3→WfC m.cmd
 few:m.cmd.writes.length≤20
structure WfX (t:Txn):Prop where
 few:t.writes.length≤20
 ps:∀ p∈t.writes,WfP p
 sh:∀ k e,t.shards k=some e→(k=0∨k=1)∧True
 pl:∀ k e,t.places k=some e→k=0∨k=1
 wn:∀ a∈t.wants,a.1∈names
 wnd:(t.wants.map (·.1)).Nodup
structure WfNd (s j:Nat) (d:Nd):Prop where
 id:d.id=10*s+j
 nodes:∀ x∈d.nodes,0≤x∧x≤60
 log:∀ a∈d.log,WfC a
def tcnt (H:Hs):Nat:=((List.range' 1 H.m).filter fun i=>decide ((H.tx i).time≠0)).length
structure Wf (H:Hs):Prop where
 n4:H.n≤4
 c3:H.c≤3
 m60:H.m≤60
 nd:∀ s j,s<H.c→j<H.n→WfNd s j ((H.sh s).nd j)
 tab:∀ s,s<H.c→WfT (H.sh s).tab
 sto:∀ s,s<H.c→WfS (H.sh s).sto
 dead:∀ s,s<H.c→∀ i,(H.sh s).dead i=true→0≤i∧i≤60
 net:∀ m∈H.net.l,WfM m
 down:∀ i,H.net.dead i=true→0≤i∧i≤60
 tx:∀ i,1≤i→i≤H.m→WfX (H.tx i)
 tm:H.time=tcnt H
 tle:∀ i,1≤i→i≤H.m→0≤(H.tx i).time∧(H.tx i).time≤H.time
theorem tcnt_le (H:Hs):tcnt H≤H.m:=by
 unfold tcnt
 exact Nat.le_trans (List.length_filter_le _ _) (by simp)
theorem WfX.wants4 {t:Txn} (h:WfX t):t.wants.length≤4:=by
 have h1:(t.wants.map (·.1)).length≤names.length:=List.Nodup.length_le_of_subset h.wnd (fun x hx=>by
  obtain⟨a,ha,rfl⟩:=List.mem_map.1 hx
  exact h.wn a ha)
 rw[List.length_map] at h1
 exact h1
section
variable {H H':Hs}
theorem Wf.time60 (h:Wf H):0≤H.time∧H.time≤60:=by have:=h.tm;have:=tcnt_le H;have:=h.m60;omega
theorem Wf.idOk (h:Wf H) {s j:Nat} (hs:s<H.c) (hj:j<H.n):okI ((H.sh s).nd j).id:=by
 have:=(h.nd s j hs hj).id;have:=h.c3;have:=h.n4
 exact q0j (by omega) (by omega)
theorem Wf.tkOk (h:Wf H) {s:Nat} (hs:s<H.c):TkOk H s:=⟨h.m60,fun i h1 h2=>by have:=(h.tx i h1 h2).wants4;omega,h.tab s hs,h.sto s hs⟩
theorem WfX.sub {t t':Txn} (h:WfX t) (h1:t'.writes=t.writes) (h2:t'.shards=t.shards) (h3:t'.places=t.places) (h4:t'.wants.Sublist t.wants):WfX t':=
 ⟨by rw[h1];exact h.few,by rw[h1];exact h.ps,by rw[h2];exact h.sh,by rw[h3];exact h.pl,fun a ha=>h.wn a (h4.subset ha),h.wnd.sublist (h4.map _)⟩
theorem tcnt_same (hm:H'.m=H.m) (ht:∀ i,(H'.tx i).time=(H.tx i).time):tcnt H'=tcnt H:=by
 unfold tcnt;rw[hm];congr 1;apply List.filter_congr;intro i _;rw[ht]
theorem Wf.of (h:Wf H) (hn:H'.n=H.n) (hc:H'.c=H.c) (hm:H'.m=H.m) (ht:H'.time=H.time) (hnd:∀ s j,s<H.c→j<H.n→WfNd s j ((H'.sh s).nd j)) (htab:∀ s,s<H.c→WfT (H'.sh s).tab) (hsto:∀ s,s<H.c→WfS (H'.sh s).sto)
  (hdead:∀ s,s<H.c→(H'.sh s).dead=(H.sh s).dead) (hnet:∀ m∈H'.net.l,WfM m) (hdown:H'.net.dead=H.net.dead) (htx:∀ i,1≤i→i≤H.m→WfX (H'.tx i)) (htt:∀ i,(H'.tx i).time=(H.tx i).time):Wf H':=
 ⟨by rw[hn];exact h.n4,by rw[hc];exact h.c3,by rw[hm];exact h.m60,by rw[hc,hn];exact hnd,by rw[hc];exact htab,by rw[hc];exact hsto,by rw[hc];exact fun s hs i hi=>h.dead s hs i (by rw[← hdead s hs];exact hi),hnet,
  fun i hi=>h.down i (by rw[← hdown];exact hi),by rw[hm];exact htx,by rw[ht,tcnt_same hm htt];exact h.tm,by rw[hm,ht];exact fun i h1 h2=>by rw[htt];exact h.tle i h1 h2⟩
theorem wants_sub {s:Nat} {l:List Cm} : ∀ (k:Nat) (H:Hs) (i:Nat),((Hs.takes s l k H).tx i).wants.Sublist (H.tx i).wants
 | 0,H,i=>List.Sublist.refl _
 | k+1,H,i=>by
  unfold Hs.takes
  split
  ·exact List.Sublist.refl _
  ·rename_i c hc
   refine(wants_sub k _ i).trans ?_
   show(((H.take1 s l (H.sh s).done c)).tx i).wants.Sublist _
   unfold Hs.take1
   split
   ·exact List.Sublist.refl _
   ·split
    ·exact List.filter_sublist
    ·split
     ·exact List.filter_sublist
     ·exact List.Sublist.refl _
theorem take_wants (H:Hs) (s i:Nat):((H.take s).tx i).wants.Sublist (H.tx i).wants:=by
 unfold Hs.take
 split
 ·exact List.Sublist.refl _
 ·exact wants_sub _ _ _
theorem Wf.take (h:Wf H) {s:Nat} (hs:s<H.c):Wf (H.take s):=by
 have hsm:=q0b.take H s
 have hok:TkOk (H.take s) s:=by
  unfold Hs.take
  split
  ·exact h.tkOk hs
  ·rename_i j hj
   refine TkOk.takes (fun a ha=>?_) _ _ (h.tkOk hs)
   have hjn:j<H.n:=by
    have:=List.mem_of_find?_eq_some hj
    unfold Shd.liveIx at this
    exact List.mem_range.1 (List.mem_filter.1 this).1
   exact(h.nd s j hs hjn).log a ha
 refine h.of hsm.n hsm.c hsm.m hsm.time (fun k j hk hj=>?_) (fun k hk=>?_) (fun k hk=>?_) (fun k hk=>?_) (by rw[hsm.net];exact h.net) (by rw[hsm.net]) (fun i h1 h2=>(h.tx i h1 h2).sub (hsm.tx i).2.1 (hsm.tx i).2.2.1 (hsm.tx i).2.2.2.1 (take_wants H s i)) (fun i=>(hsm.tx i).2.2.2.2)
 ·by_cases e:k=s
  ·rw[e,hsm.nd];exact h.nd s j hs hj
  ·rw[hsm.sh k e];exact h.nd k j hk hj
 ·by_cases e:k=s
  ·rw[e];exact hok.tab
  ·rw[hsm.sh k e];exact h.tab k hk
 ·by_cases e:k=s
  ·rw[e];exact hok.sto
  ·rw[hsm.sh k e];exact h.sto k hk
 ·by_cases e:k=s
  ·rw[e,hsm.dead]
  ·rw[hsm.sh k e]
theorem q8x:∀ (ms:List Ms) (s:NetS) (m:Ms),m∈(q0o s ms).l→m∈s.l∨m∈ms
 | [],s,m,h=>.inl h
 | x::ms,s,m,h=>by
  rcases q8x ms (sendS s x) m h with h|h
  ·unfold sendS at h
   split at h
   ·exact .inl h
   ·rcases List.mem_append.1 h with h|h
    ·exact .inl h
    ·rw[List.mem_singleton] at h;subst h;exact .inr (List.mem_cons_self ..)
  ·exact .inr (List.mem_cons_of_mem _ h)
theorem Wf.send (h:Wf H) {ms:List Ms} (hm:∀ m∈ms,WfM m):Wf (H.send ms):=
 h.of rfl rfl rfl rfl h.nd h.tab h.sto (fun _ _=>rfl) (fun m hm2=>(q8x ms H.net m hm2).elim (h.net m) (hm m)) (q20 ms H.net) h.tx (fun _=>rfl)
theorem Wf.setNd (h:Wf H) {s j:Nat} {d:Nd} (hd:WfNd s j d):Wf (H.setNd s j d):=by
 refine h.of rfl rfl rfl rfl (fun k i hk hi=>?_) (fun k hk=>?_) (fun k hk=>?_) (fun k hk=>?_) h.net rfl h.tx (fun _=>rfl)
 ·show WfNd k i ((upd H.sh s { H.sh s with nd:=upd (H.sh s).nd j d } k).nd i)
  by_cases e:k=s
  ·subst e
   rw[q03]
   show WfNd k i (upd (H.sh k).nd j d i)
   by_cases e2:i=j
   ·subst e2;rw[q03];exact hd
   ·rw[q07 e2];exact h.nd k i hk hi
  ·rw[q07 e];exact h.nd k i hk hi
 ·show WfT (upd H.sh s { H.sh s with nd:=upd (H.sh s).nd j d } k).tab
  by_cases e:k=s
  ·subst e;rw[q03];exact h.tab k hk
  ·rw[q07 e];exact h.tab k hk
 ·show WfS (upd H.sh s { H.sh s with nd:=upd (H.sh s).nd j d } k).sto
  by_cases e:k=s
  ·subst e;rw[q03];exact h.sto k hk
  ·rw[q07 e];exact h.sto k hk
 ·show(upd H.sh s { H.sh s with nd:=upd (H.sh s).nd j d } k).dead=_
  by_cases e:k=s
  ·subst e;rw[q03]
  ·rw[q07 e]
theorem wf_to {s j:Nat} {d:Nd} (h:WfNd s j d) (b:Int):0≤d.to_ b∧d.to_ b≤60:=by
 unfold Nd.to_
 cases e:d.nodes[(d.at_+b).toNat]? with
 | none=>simp
 | some x=>exact h.nodes x (List.mem_of_getElem? e)
theorem WfNd.id60 {s j:Nat} {d:Nd} (h:WfNd s j d) (hs:s<3) (hj:j<4):0≤d.id∧d.id≤60:=by have:=h.id;omega
theorem wf_msg {s j:Nat} {d:Nd} (h:WfNd s j d) (hs:s<3) (hj:j<4) (kind b k:Int) (hk:kind≠3):WfM (d.msg kind b k):=⟨h.id60 hs hj,wf_to h b,fun e=>absurd e hk,by show cm0.writes.length≤20;decide⟩
theorem q8l {s j:Nat} {d:Nd} (h:WfNd s j d) (hs:s<3) (hj:j<4) {k:Nat} (hk:k<d.log.length):WfM (d.forward k):=by
 have hc:WfC ((d.log[k]?).getD cm0):=by rw[List.getElem?_eq_getElem hk];exact h.log _ (List.getElem_mem hk)
 exact⟨h.id60 hs hj,wf_to h 1,fun _=>hc,hc.few⟩
theorem q73 {s j:Nat} {d:Nd} (h:WfNd s j d) (hs:s<3) (hj:j<4):WfNd s j d.tick.1∧∀ m∈d.tick.2,WfM m:=by
 unfold Nd.tick
 split
 ·exact⟨h,fun m hm=>by cases hm⟩
 ·split
  ·refine⟨⟨h.id,h.nodes,h.log⟩,fun m hm=>?_⟩
   split at hm
   ·rw[List.mem_singleton.1 hm];exact wf_msg h hs hj _ _ _ (by decide)
   ·cases hm
  ·exact⟨h,fun m hm=>by rw[List.mem_singleton.1 hm];exact wf_msg h hs hj _ _ _ (by decide)⟩
theorem wf_push {s j:Nat} {d:Nd} (h:WfNd s j d) {c:Cm} (hc:WfC c):WfNd s j (d.push c):=⟨h.id,h.nodes,fun a ha=>(List.mem_append.1 ha).elim (h.log a) (fun h=>by rw[List.mem_singleton.1 h];exact hc)⟩
theorem wf_grow {s j:Nat} {d:Nd} (h:WfNd s j d) (hs:s<3) (hj:j<4) {c:Cm} (hc:WfC c):WfNd s j (d.grow c).1∧∀ m∈(d.grow c).2,WfM m:=by
 unfold Nd.grow
 split
 ·exact q73 (wf_push h hc) hs hj
 ·exact⟨wf_push h hc,fun m hm=>by rw[List.mem_singleton.1 hm];exact q8l (wf_push h hc) hs hj (by show _<(d.log++[c]).length;simp)⟩
theorem wf_add {s j:Nat} {d:Nd} (h:WfNd s j d) (hs:s<3) (hj:j<4) {c:Cm} (hc:WfC c) (b:Bool):WfNd s j (d.add c b).1.1∧∀ m∈(d.add c b).1.2,WfM m:=by
 unfold Nd.add
 split
 ·exact⟨h,fun m hm=>by cases hm⟩
 ·split
  ·exact⟨h,fun m hm=>by cases hm⟩
  ·exact wf_grow h hs hj hc
theorem wf_step {s j:Nat} {d:Nd} (h:WfNd s j d) (hs:s<3) (hj:j<4) {m:Ms} (hm:WfM m):WfNd s j (d.step m).1∧∀ x∈(d.step m).2,WfM x:=by
 rw[q9m]
 split
 ·exact⟨h,fun x hx=>by cases hx⟩
 ·split
  ·exact⟨h,fun x hx=>by rw[List.mem_singleton.1 hx];exact wf_msg h hs hj _ _ _ (by decide)⟩
  ·split
   ·refine⟨h,fun x hx=>?_⟩
    obtain⟨k,hk,rfl⟩:=List.mem_map.1 hx
    rw[List.mem_range'_1] at hk
    exact q8l h hs hj (by omega)
   ·split
    ·rename_i h3;exact wf_grow h hs hj (hm.cmd h3.1)
    ·split
     ·refine⟨⟨h.id,h.nodes,h.log⟩,fun x hx=>?_⟩
      split at hx
      ·rw[List.mem_singleton.1 hx];exact wf_msg h hs hj _ _ _ (by decide)
      ·cases hx
     ·exact⟨h,fun x hx=>by cases hx⟩
theorem wf_join {s j:Nat} {d:Nd} (h:WfNd s j d) (e:Int) {ns:List Int} (hn:∀ x∈ns,0≤x∧x≤60):WfNd s j (d.join e ns):=by
 unfold Nd.join
 split
 ·exact⟨h.id,hn,fun a ha=>by cases ha⟩
 ·exact⟨h.id,hn,h.log⟩
theorem setNd_self (H:Hs) (s j:Nat):H.setNd s j ((H.sh s).nd j)=H:=by
 unfold Hs.setNd Hs.setSh
 rw[q9k]
 show({ H with sh:=upd H.sh s (H.sh s) } : Hs)=H
 rw[q9k]
theorem Wf.add (h:Wf H) {s j:Nat} (hs:s<H.c) (hj:j<H.n) {c:Cm} (hc:WfC c) (b:Bool):Wf (H.add s j c b).2:=by
 have h3:s<3:=by have:=h.c3;omega
 have h4:j<4:=by have:=h.n4;omega
 unfold Hs.add
 split
 ·exact h
 ·obtain⟨h1,h2⟩:=wf_add (h.nd s j hs hj) h3 h4 hc b
  exact((h.setNd h1).send h2).take hs
end
def tkTag (s:Nat) (t:Tg):Prop:=shTag s t∨txTag t
theorem take1_done (H:Hs) (s i:Nat) (l:List Cm) (c:Cm):((H.take1 s l i c).sh s).done=(H.sh s).done:=by
 unfold Hs.take1
 split
 ·rw[q0d]
 ·split
  ·rw[rel_done,q0d]
  ·split
   ·rw[rel_done]
   ·rfl
theorem cund:Tryz.prog.underlying 66=some (.slice 69):=Tryz.underlying66
theorem celem:Tryz.prog.elem 66=69:=by kernel_rfl
theorem csize (w:World):(sizeOf 69).run Tryz.prog w=.ok 4 w:=by kernel_rfl
def TkMid (P:Ptr) (own:Own) (s:Nat) (Hi:Hs) (w2:World) (wr:World):Prop:=∃ own',HI wr own' P Hi∧HZ (tkTag s) w2 own wr own'
def TkRel (P:Ptr) (own:Own) (H:Hs) (s:Nat) (l:List Cm) (w2:World) (wr:World):Prop:=
 ∃ (i:Nat) (Hi:Hs),TkMid P own s Hi w2 wr∧TkOk Hi s∧q0b H Hi s∧(Hi.sh s).done=i∧Hs.takes s l (l.length-(H.sh s).done) H=Hs.takes s l (l.length-i) Hi
def TakeP (P:Ptr) (own:Own) (H:Hs) (s:Nat) (w:World) (e:Ending) (w':World):Prop:=e=.returned (.tuple #[])∧∃ own',HI w' own' P (H.take s)∧HZ (tkTag s) w own w' own'
def PrRel (P:Ptr) (s:Nat) (Hi:Hs) (x:CmR) (w3:World) (own3:Own) (v:Value) (wr:World):Prop:=
 ∃ (p:Nat) (own':Own),v=.int .i64 p∧p≤x.n∧HI wr own' P (Hi.setSh s { Hi.sh s with tab:=prepT (Hi.sh s).tab x.c.tx (x.c.writes.take p) })∧HZ (tkTag s) w3 own3 wr own'
def CoRel (P:Ptr) (s:Nat) (Hi:Hs) (x:CmR) (l:List Cm) (i:Nat) (w3:World) (own3:Own) (v:Value) (wr:World):Prop:=
 ∃ (q:Nat) (own':Own),v=.int .i64 q∧q≤i∧HI wr own' P (Hi.setSh s { Hi.sh s with sto:=commK (Hi.sh s).sto (l.take q) x.c })∧HZ (tkTag s) w3 own3 wr own'
def PuRel (P:Ptr) (s:Nat) (Hi:Hs) (K0:Kp) (x y:CmR) (w3:World) (own3:Own) (v:Value) (wr:World):Prop:=
 ∃ (p:Nat) (own':Own),v=.int .i64 p∧p≤y.n∧HI wr own' P (Hi.setSh s { Hi.sh s with sto:=putsK K0 x.c.time (y.c.writes.take p) })∧HZ (tkTag s) w3 own3 wr own'
section
variable {w w':World} {own own':Own} {P:Ptr} {H:Hs}
theorem HZ.unowned {Z:Tg→Prop} {g:Nat} {t:TypeId} {cs:Array Value} (hz:HZ Z w own w' own') (hb:Blk w g t cs) (ho:own g=none):Blk w' g t cs:=hz.fr.blk hb (fun h=>h.owned ho)
theorem HI.free (h:HI w own P H) {b:Nat} (hb:w.heap.size≤b):own b=none:=by
 cases e:own b with
 | none=>rfl
 | some t=>have:=h.lt b (by rw[e];simp);omega
theorem take_any {s:Nat} (h:HI w own P H) (hs:s<H.c) (hn:H.n≤100) (hid:∀ j,j<H.n→okI ((H.sh s).nd j).id) (hok:TkOk H s) (hwf:∀ j,j<H.n→∀ a∈((H.sh s).nd j).log,WfC a) :
  Calls Tryz.prog 52 #[pw P.g,pw (P.gs s)] w (TakeP P own H s w):=by
 have HHD:=LH (shead_any h hs hn hid)
 have htk:H.take s=match H.head s with|none=>H|some j=>Hs.takes s ((H.sh s).nd j).log (((H.sh s).nd j).log.length-(H.sh s).done) H:=rfl
 have hjn:∀ j,H.head s=some j→j<H.n:=fun j e=>by
  have:=List.mem_of_find?_eq_some e
  unfold Shd.liveIx at this
  exact List.mem_range.1 (List.mem_filter.1 this).1
 have HH:=LH h
 have HOK:=LH hok
 have HWF:=LH hwf
 clear h hid hok hwf
 rcases hh:H.head s with _|j
 ·rw[hh] at htk
  unfold SHeadP at HHD
  rw[hh] at HHD
  have HTK:=LH htk;clear htk hh
  unfold pw headV at *
  go_enter Tryz.func52,Tryz.ntmps52
  go_wp2_with fail
  refine HHD.out.mono ?_
  rintro e w1 ⟨rfl,hb1⟩
  have hfin:TakeP P own H s w (.returned (.tuple #[])) w1:=⟨rfl,own,by rw[HTK.out];exact HH.out.below hb1,HZ.below own hb1⟩
  have HF:=LH hfin;clear hfin hb1
  go_wp2_with fail
  refine bodyPost_ret (results_none rfl _ _ _) rfl ?_
  exact HF.out
 ·have hj:=hjn j hh
  rw[hh] at htk
  unfold SHeadP at HHD
  rw[hh] at HHD
  have HTK:=LH htk;clear htk hjn hh
  unfold headV at HHD
  unfold pw at *
  go_enter Tryz.func52,Tryz.ntmps52
  go_wp2_with fail
  refine HHD.out.mono ?_
  rintro e w1 ⟨rfl,hb1⟩
  have hI1:=HH.out.below hb1
  obtain⟨C,V,L,hN1,hNt⟩:=hI1.nd s j hs hj
  have HLG:=LH (q7s hN1)
  have HB1:=LH hb1
  have HNT:=LH hNt
  have HN1:=LH hN1
  have HI1:=LH hI1
  clear hb1 hNt hN1 hI1 HHD
  go_wp2_with fail
  refine HLG.out.mono ?_
  rintro e w2 ⟨A5,k5,rfl,hrow2,hb2,hnew2⟩
  have hI2:=HI1.out.below hb2
  have hN2:=HN1.out.tall hb2
  have hlog:=hN2.log
  have hLl:=hN2.len
  have hcap5:L.length≤k5:=by obtain⟨_,_,e5,h5,_⟩:=q01 hrow2;injection e5 with _ _ e5;omega
  have HFREE:=LH (fun b hb=>HI1.out.free (hnew2 b hb))
  have HROW:=LH hrow2
  have HI2:=LH hI2
  have HN2:=LH hN2
  have HB2:=LH (HB1.out.trans (hb2.mono HB1.out.size))
  have HWL:=LH (fun a (ha:a∈csOf L)=>HWF.out j hj a (by rw[← hlog];exact ha))
  rw[← hlog] at HTK
  have HNZ:=LH (fun W own3 (hz:HZ (tkTag s) w2 own W own3)=>HN2.out.fr hz.fr (fun b hb hs2=>by
   have:=hs2.tag (HNT.out b hb)
   rcases this with (h|h|h|h|h)|⟨i,h⟩ <;> cases h))
  have HRZ:=LH (fun W own3 (hz:HZ (tkTag s) w2 own W own3)=>q1x HROW.out HFREE.out hz)
  clear hrow2 hb2 hnew2 hI2 hN2 HLG HN1 HI1 HB1 HWF HFREE HROW
  have hlen:(csOf L).length=L.length:=by simp[csOf]
  go_wp2_with fail
  go_loopw [6] (fun _ wr=>TkRel P own H s (csOf L) w2 wr) (fun _ wr=>L.length-(intOf ((wr.cell? ⟨P.gs s,7,none⟩).getD undef)).toNat)
  case atStart=>exact⟨(H.sh s).done,H,⟨own,HI2.out,HZ.refl _ _ _⟩,HOK.out,q0b.refl _ _,rfl,rfl⟩
  case round=>
   obtain⟨i,Hi,⟨own3,hI3,hZ3⟩,hok3,hsm3,hd3,htk3⟩:=hrel
   have hsc:s<Hi.c:=by rw[hsm3.c];exact hs
   obtain⟨v,hv⟩:=hI3.sh s hsc
   obtain⟨_,_,_,_,c7,gl⟩:=hv.cells
   rw[hd3] at c7
   by_cases hlt:i<L.length
   ·have d1:decide ((i:Int)<(L.length:Int))=true:=decide_eq_true (by omega)
    obtain⟨gz,kz,hVz,_,_⟩:=own_at (HRZ.out _ _ hZ3) (by omega)
    injection hVz with hA5 _ hk5
    subst hA5 hk5
    obtain⟨gl2,ol,x,hAe,hgl2,hx,l0,l1,l2,l3⟩:=rd4 (Rd.of_own (HRZ.out _ _ hZ3)) rfl hlt
    simp only[Option.some.injEq,Addr.mk.injEq,and_true] at hAe
    obtain⟨rfl,rfl⟩:=hAe
    rw[Nat.zero_add] at l0 l1 l2 l3
    have HX:=LH hx
    have hxc:(csOf L)[i]? = some x.c:=by rw[csOf,List.getElem?_map,hx];rfl
    have HXC:=LH hxc
    have HWX:=LH (HWL.out x.c (List.mem_of_getElem? hxc))
    have hc0:Blk (wr.alloc (.cells #[.int .i64 x.c.kind,.int .i64 x.c.tx,.int .i64 x.c.time,.slice x.A x.n x.k] 69)) wr.heap.size 69 #[.int .i64 x.c.kind,.int .i64 x.c.tx,.int .i64 x.c.time,.slice x.A x.n x.k]:=Blk.new wr _ _
    have hbc:Below wr.heap.size wr (wr.alloc (.cells #[.int .i64 x.c.kind,.int .i64 x.c.tx,.int .i64 x.c.time,.slice x.A x.n x.k] 69)):=(Below.refl _ _).alloc (Nat.le_refl _) _
    have hfr0:own3 wr.heap.size=none:=hI3.free (Nat.le_refl _)
    have HI4:=LH (hI3.below hbc)
    have HZ4:=LH (hZ3.trans (HZ.below own3 hbc))
    have HFR0:=LH hfr0
    have HC0:=LH hc0
    have HOK3:=LH hok3
    have HSM3:=LH hsm3
    have HD3:=LH hd3
    have HTK3:=LH htk3
    have hs2wr:w2.heap.size≤wr.heap.size:=hZ3.fr.size
    have C7:=LH c7
    clear hx hxc hc0 hbc hfr0 hok3 hsm3 hd3 htk3 hI3 hZ3 hv
    go_upto_block 1 with (fail)
    clear c7
    go_cut [] (fun wx=>TkMid P own s (Hi.take1 s (csOf L) i x.c) w2 wx)
    case first=>
     have c7:=C7.out
     go_upto_region 6 with (fail)
     clear l0 l1 l2 l3 c7 hgl2 d1
     generalize hcb0:wr.alloc (.cells #[.int .i64 x.c.kind,.int .i64 x.c.tx,.int .i64 x.c.time,.slice x.A x.n x.k] 69)=w3 at *
     generalize hcbe:wr.heap.size=cb at *
     have HCZ:=LH (fun W own' (hz:HZ (tkTag s) w3 own3 W own')=>hz.unowned HC0.out HFR0.out)
     have HNW:=LH (fun W own' (hz:HZ (tkTag s) w3 own3 W own')=>HNZ.out W own' (HZ4.out.trans hz))
     clear hcb0
     have q0:=HC0.out.cell 0
     have q1:=HC0.out.cell 1
     have q2:=HC0.out.cell 2
     have q3:=HC0.out.cell 3
     simp only[List.getElem?_toArray,List.getElem?_cons_zero,List.getElem?_cons_succ] at q0 q1 q2 q3
     have ql:=HC0.out.lt
     clear C7
     by_cases k2:x.c.kind=2
     ·rw[k2] at q0
      have HSG:=LH (show Hi.take1 s (csOf L) i x.c=Hi.setSh s { Hi.sh s with tab:=prepT (Hi.sh s).tab x.c.tx x.c.writes } by unfold Hs.take1;rw[if_pos k2])
      have hst:PrRel P s Hi x w3 own3 (.int .i64 (0:Nat)) w3:=⟨0,own3,rfl,Nat.zero_le _,by rw[List.take_zero];show HI w3 own3 P (Hi.setSh s { Hi.sh s with tab:=(Hi.sh s).tab });rw[q5u];exact HI4.out,HZ.refl _ _ _⟩
      have HST:=LH hst;clear hst
      have hxo:=(HNW.out _ _ (HZ.refl _ _ _)).own x (List.mem_of_getElem? HX.out)
      have hxl:x.c.writes.length=x.n:=hxo.2.1
      have hxn:x.n≤100000:=hxo.2.2
      clear hxo
      go_wp2_with fail
      go_loopw [47] (PrRel P s Hi x w3 own3) (fun v _=>x.n-(intOf v).toNat)
      case atStart=>exact HST.out
      case round=>
       obtain⟨p,own5,rfl,hp,hI5,hZ5⟩:=hrel
       by_cases hpl:(p:Int)<x.n
       ·have hxr:=((HNW.out _ _ hZ5).own x (List.mem_of_getElem? HX.out)).reads
        obtain⟨gp,op,pr,hA,hgp,hpx,p0,p1,p2⟩:=hxr.at_ (k:=p) (by omega)
        have HPX:=LH hpx
        have HI5:=LH hI5
        have HZ5:=LH hZ5
        have dl:decide ((p:Int)<(x.n:Int))=true:=decide_eq_true (by omega)
        have hcbl:=(HCZ.out _ _ hZ5).lt
        have hpb:Blk (wr.alloc (.cells #[.string pr.key,.string pr.val,.bool pr.gone] 45)) wr.heap.size 45 #[.string pr.key,.string pr.val,.bool pr.gone]:=Blk.new wr _ _
        have HPB:=LH hpb
        have hbp:=(Below.refl wr.heap.size wr).alloc (Nat.le_refl _) (.cells #[.string pr.key,.string pr.val,.bool pr.gone] 45)
        have HCB:=LH ((HCZ.out _ _ hZ5).below hbp hcbl)
        have HI6:=LH (hI5.below hbp)
        have HPF:=LH (hI5.free (Nat.le_refl _))
        have HCF:=LH (show own5 cb=none from(hZ5.ext cb HC0.out.lt).trans HFR0.out)
        have HZ6:=LH (hZ5.trans (HZ.below own5 hbp))
        clear hxr hpx hI5 hZ5 hpb HI5 HZ5 hbp hcbl
        go_upto_region 11 with (fail)
        clear p0 p1 p2 hgp dl hA
        generalize wr.alloc (.cells #[.string pr.key,.string pr.val,.bool pr.gone] 45)=w6 at *
        generalize wr.heap.size=pb at *
        have hok5:=HOK3.out.setTab (T:=prepT (Hi.sh s).tab x.c.tx (x.c.writes.take p)) (WfT.prep HWX.out.tx _ HOK3.out.tab (fun q hq=>HWX.out.ps q (List.mem_of_mem_take hq)))
        have hI6:=HI6.out.below (Below.refl w6.heap.size w6).drew
        have hlk:=q80 hI6 (show s<_ from hsc) x.c.tx 2 pr.key HWX.out.tx (HWX.out.ps pr (List.mem_of_getElem? HPX.out)).1 (.inr rfl) hok5.tab
        have HLK:=LH hlk
        have r1:w6.drew.cell? ⟨cb,1,none⟩=some (.int .i64 x.c.tx):=HCB.out.cell 1
        have r2:w6.drew.cell? ⟨pb,0,none⟩=some (.string pr.key):=HPB.out.cell 0
        have HZ7:=LH (HZ6.out.trans (HZ.below own5 (Below.refl w6.heap.size w6).drew))
        clear hlk hI6 hok5 HI6 HZ6
        refine wp_region_any (by kernel_rfl) ?_
        change wpAny _ _ _ _ _ _ _ (World.drew _)
        refine q0e (fun W=>W.cell? ⟨cb,1,none⟩=some (.int .i64 x.c.tx)∧W.cell? ⟨pb,0,none⟩=some (.string pr.key)) 12 (fun _ _ _ _ _ h=>h) (fun HQP=>?_)
        have HCC:=And.intro r1 r2
        refine nA 0 [1,2,7,8,9,10,11] rfl rfl HQP HCC (fun w' hw'=>by go_simp;rfl) ?_
        refine nA 1 [2,7,8,9,10,11] rfl rfl HQP HCC (fun w' hw'=>by go_simp;rfl) ?_
        refine nA 2 [7,8,9,10,11] rfl rfl HQP HCC (fun w' hw'=>by go_simp;rfl) ?_
        refine nA 3 [4,7,8,9,10,11] rfl rfl HQP HCC (fun w' hw'=>by go_simp;rfl) ?_
        refine nA 4 [7,8,9,10,11] rfl rfl HQP HCC (fun w' hw'=>by obtain⟨h1,h2⟩:=hw';go_simp;rfl) ?_
        refine nA 5 [6,7,8,9,10,11] rfl rfl HQP HCC (fun w' hw'=>by go_simp;rfl) ?_
        refine nA 6 [7,8,9,10,11] rfl rfl HQP HCC (fun w' hw'=>by obtain⟨h1,h2⟩:=hw';go_simp;rfl) ?_
        clear HCC r1 r2
        refine nO 7 rfl (fun KK hK=>?_)
        go_simp
        refine HLK.out.mono ?_
        rintro e w7 ⟨ok7,l7,er7,A7,c7',own7,rfl,_,hI7,hZ7,_,_⟩
        rw[q2c,q0d] at hI7
        have hrel7:PrRel P s Hi x w3 own3 (.int .i64 ((p+1:Nat):Int)) w7:=⟨p+1,own7,rfl,by omega,by rw[prepT_snoc _ _ HPX.out];exact hI7,HZ7.out.trans (hZ7.mono (fun t ht=>.inl ht))⟩
        have HR7:=LH hrel7
        have HCC:=And.intro ((hZ7.unowned (show Blk w6.drew cb _ _ from HCB.out) HCF.out).cell 1) ((hZ7.unowned (show Blk w6.drew pb _ _ from HPB.out) HPF.out).cell 0)
        clear hrel7 hI7 hZ7 HLK
        go_simp
        refine hK _ _ (fun _=>HCC) ?_
        clear hK KK
        refine nA 8 [9,10,11] rfl rfl HQP HCC (fun w' hw'=>by go_simp;rfl) ?_
        refine nA 9 [] rfl rfl HQP HCC (fun w' hw'=>by go_simp;rfl) ?_
        refine nA 10 [] rfl rfl HQP HCC (fun w' hw'=>by go_simp;rfl) ?_
        refine nA 11 [] rfl rfl HQP HCC (fun w' hw'=>by go_simp;rfl) ?_
        clear HCC
        refine ndone (by kernel_rfl) ?_ _
        clear HQP
        go_wp2_with fail
        go_roundw
        case rel=>exact HR7.out
        case measure=>simp[intOf];omega
       ·have dl:decide ((p:Int)<(x.n:Int))=false:=decide_eq_false (by omega)
        rw[List.take_of_length_le (by omega)] at hI5
        have hfin:TkMid P own s (Hi.take1 s (csOf L) i x.c) w2 wr:=⟨own5,by rw[HSG.out];exact hI5,HZ4.out.trans hZ5⟩
        have HF:=LH hfin
        clear hfin hI5 hZ5
        go_wp2_with fail
        go_meet
        exact HF.out
     ·have e2:(x.c.kind == 2)=false:=by simpa using k2
      by_cases k3:x.c.kind=3
      ·have HSG:=LH (show Hi.take1 s (csOf L) i x.c=(Hi.setSh s { Hi.sh s with sto:=commK (Hi.sh s).sto ((csOf L).take i) x.c }).rel s x.c.tx by unfold Hs.take1;rw[if_neg k2,if_pos k3])
       rw[k3] at q0
       clear k2 e2
       have hst:CoRel P s Hi x (csOf L) i w3 own3 (.int .i64 (0:Nat)) w3:=⟨0,own3,rfl,Nat.zero_le _,by rw[List.take_zero];show HI w3 own3 P (Hi.setSh s { Hi.sh s with sto:=(Hi.sh s).sto });rw[q5u];exact HI4.out,HZ.refl _ _ _⟩
       have HST:=LH hst;clear hst
       obtain⟨v3,hv3⟩:=HI4.out.sh s hsc
       obtain⟨_,_,_,_,c73,gl3⟩:=hv3.cells
       rw[HD3.out] at c73
       have s1:=q2x 66 cund celem csize w3 gz L.length k5 i (i:Int) rfl (by omega)
       clear hv3
       go_wp2_with fail
       clear q0 q1 q2 q3 c73 s1
       go_loopw [73] (CoRel P s Hi x (csOf L) i w3 own3) (fun v _=>i-(intOf v).toNat)
       case atStart=>exact HST.out
       case round=>
        obtain⟨q,own5,rfl,hq,hI5,hZ5⟩:=hrel
        have HCB:=LH (HCZ.out _ _ hZ5)
        by_cases hql:(q:Int)<i
        ·have hqL:q<L.length:=by omega
         have dl:decide ((q:Int)<(i:Int))=true:=decide_eq_true hql
         obtain⟨gy,oy,y,hAy,hgy,hy,y0,y1,y2,y3⟩:=rd4 (Rd.of_own (HRZ.out _ _ (HZ4.out.trans hZ5))) rfl hqL
         simp only[Option.some.injEq,Addr.mk.injEq,and_true] at hAy
         obtain⟨rfl,rfl⟩:=hAy
         rw[Nat.zero_add] at y0 y1 y2 y3
         have HY:=LH hy
         have hyc:(csOf L)[q]? = some y.c:=by rw[csOf,List.getElem?_map,hy];rfl
         have HYS:=LH (commK_snoc (Hi.sh s).sto x.c hyc)
         have HWY:=LH (HWL.out y.c (List.mem_of_getElem? hyc))
         have hbp:=(Below.refl wr.heap.size wr).alloc (Nat.le_refl _) (.cells #[.int .i64 y.c.kind,.int .i64 y.c.tx,.int .i64 y.c.time,.slice y.A y.n y.k] 69)
         have HYB:=LH (Blk.new wr 69 #[.int .i64 y.c.kind,.int .i64 y.c.tx,.int .i64 y.c.time,.slice y.A y.n y.k])
         have HYF:=LH (hI5.free (Nat.le_refl _))
         have HI6:=LH (hI5.below hbp)
         have HZ6:=LH (hZ5.trans (HZ.below own5 hbp))
         clear hbp hI5 hZ5 hy hyc HCB
         go_upto_region 17 with (fail)
         clear y0 y1 y2 y3 hgy dl
         generalize wr.alloc (.cells #[.int .i64 y.c.kind,.int .i64 y.c.tx,.int .i64 y.c.time,.slice y.A y.n y.k] 69)=w6 at *
         generalize wr.heap.size=yb at *
         have hyb:=HYB.out
         have q0:=hyb.cell 0
         have q1:=hyb.cell 1
         have q3:=hyb.cell 3
         simp only[List.getElem?_toArray,List.getElem?_cons_zero,List.getElem?_cons_succ] at q0 q1 q3
         have ql6:=hyb.lt
         have hcb6:=HCZ.out _ _ HZ6.out
         have c1:=hcb6.cell 1
         simp only[List.getElem?_toArray,List.getElem?_cons_zero,List.getElem?_cons_succ] at c1
         have cl6:=hcb6.lt
         clear hyb hcb6
         by_cases hyk:y.c.kind=2
         ·rw[hyk] at q0
          by_cases hyt:y.c.tx=x.c.tx
          ·have et:(y.c.tx == x.c.tx)=true:=by simpa using hyt
           have HYP:=LH (HYS.out.trans (if_pos ⟨hyk,hyt⟩))
           clear HYS hyk hyt
           have hok6:=HOK3.out.setSto (K:=commK (Hi.sh s).sto ((csOf L).take q) x.c) (WfS.comm HWX.out _ HOK3.out.sto (fun a ha=>HWL.out a (List.mem_of_mem_take ha)))
           have HKS:=LH (show WfS (commK (Hi.sh s).sto ((csOf L).take q) x.c) by have:=hok6.sto;rw[q0d] at this;exact this)
           have HST6:=LH (show PuRel P s Hi (commK (Hi.sh s).sto ((csOf L).take q) x.c) x y w3 own3 (.int .i64 (0:Nat)) w6 from⟨0,own5,rfl,Nat.zero_le _,HI6.out,HZ6.out⟩)
           have hyo:=(HNW.out _ _ HZ6.out).own y (List.mem_of_getElem? HY.out)
           have hyl:y.c.writes.length=y.n:=hyo.2.1
           have hyn:y.n≤100000:=hyo.2.2
           clear hyo hok6 HI6
           go_wp2_with fail
           clear q0 q1 q3 c1 et
           go_loopw [90] (PuRel P s Hi (commK (Hi.sh s).sto ((csOf L).take q) x.c) x y w3 own3) (fun v _=>y.n-(intOf v).toNat)
           case atStart=>exact HST6.out
           case round=>
            obtain⟨p,own7,rfl,hp,hI7,hZ7⟩:=hrel
            by_cases hpl:(p:Int)<y.n
            ·have dl:decide ((p:Int)<(y.n:Int))=true:=decide_eq_true hpl
             have hyr:=((HNW.out _ _ hZ7).own y (List.mem_of_getElem? HY.out)).reads
             obtain⟨gp,op,pr,hA,hgp,hpx,p0,p1,p2⟩:=hyr.at_ (k:=p) (by omega)
             have HPS:=LH (putsK_snoc (commK (Hi.sh s).sto ((csOf L).take q) x.c) x.c.time hpx)
             have HWP:=LH (HWY.out.ps pr (List.mem_of_getElem? hpx))
             have hbp:=(Below.refl wr.heap.size wr).alloc (Nat.le_refl _) (.cells #[.string pr.key,.string pr.val,.bool pr.gone] 45)
             have HPB:=LH (Blk.new wr 45 #[.string pr.key,.string pr.val,.bool pr.gone])
             have hwk:WfS (putsK (commK (Hi.sh s).sto ((csOf L).take q) x.c) x.c.time (y.c.writes.take p)):=WfS.puts HWX.out.time.1 HWX.out.time.2 _ HKS.out (fun r hr=>HWY.out.ps r (List.mem_of_mem_take hr))
             have hput:=hput_any ((hI7.below hbp).below (Below.refl _ _).drew) (show s<_ from hsc) x.c.time pr HWX.out.time HWP.out (by rw[q0d];exact hwk)
             have HPT:=LH hput
             have HZ8:=LH ((hZ7.trans (HZ.below own7 hbp)).trans (HZ.below own7 (Below.refl _ _).drew))
             have hcb8:=(HCZ.out _ _ HZ8.out)
             have HC8:=LH hcb8
             clear hyr hpx hbp hwk hput hI7 hZ7 hcb8
             go_upto_region 21 with (fail)
             clear p0 p1 p2 hgp dl hA
             generalize wr.alloc (.cells #[.string pr.key,.string pr.val,.bool pr.gone] 45)=w8 at *
             generalize wr.heap.size=pb at *
             have r1:w8.drew.cell? ⟨cb,2,none⟩=some (.int .i64 x.c.time):=HC8.out.cell 2
             have r2:w8.drew.cell? ⟨pb,0,none⟩=some (.string pr.key):=HPB.out.cell 0
             have r3:w8.drew.cell? ⟨pb,1,none⟩=some (.string pr.val):=HPB.out.cell 1
             have r4:w8.drew.cell? ⟨pb,2,none⟩=some (.bool pr.gone):=HPB.out.cell 2
             refine wp_region_any (by kernel_rfl) ?_
             change wpAny _ _ _ _ _ _ _ (World.drew _)
             refine q0e (fun W=>W.cell? ⟨cb,2,none⟩=some (.int .i64 x.c.time)∧W.cell? ⟨pb,0,none⟩=some (.string pr.key)∧W.cell? ⟨pb,1,none⟩=some (.string pr.val)∧W.cell? ⟨pb,2,none⟩=some (.bool pr.gone)) 6 (fun _ _ _ _ _ h=>h) (fun HQP=>?_)
             have HCC:=And.intro r1 (And.intro r2 (And.intro r3 r4))
             refine nA 0 [1,2,6] rfl rfl HQP HCC (fun w' hw'=>by go_simp;rfl) ?_
             refine nA 1 [2,6] rfl rfl HQP HCC (fun w' hw'=>by go_simp;rfl) ?_
             refine nA 2 [6] rfl rfl HQP HCC (fun w' hw'=>by go_simp;rfl) ?_
             refine nA 3 [4,6] rfl rfl HQP HCC (fun w' hw'=>by go_simp;rfl) ?_
             refine nA 4 [6] rfl rfl HQP HCC (fun w' hw'=>by obtain⟨h1,h2,h3,h4⟩:=hw';go_simp;rfl) ?_
             refine nA 5 [6] rfl rfl HQP HCC (fun w' hw'=>by obtain⟨h1,h2,h3,h4⟩:=hw';go_simp;rfl) ?_
             clear HCC r1 r2 r3 r4
             refine nO 6 rfl (fun KK hK=>?_)
             go_simp
             refine HPT.out.mono ?_
             rintro e w9 ⟨er9,own9,rfl,hI9,hZ9⟩
             rw[q2c,q0d] at hI9
             have HR9:=LH (show PuRel P s Hi (commK (Hi.sh s).sto ((csOf L).take q) x.c) x y w3 own3 (.int .i64 ((p+1:Nat):Int)) w9 from⟨p+1,own9,rfl,by omega,by rw[HPS.out];exact hI9,HZ8.out.trans (hZ9.mono (fun t ht=>.inl ht))⟩)
             clear hI9 hZ9 HPT
             go_simp
             refine hK _ _ (fun h=>absurd h (by decide)) ?_
             clear hK KK
             refine ndone (by kernel_rfl) ?_ _
             clear HQP
             go_wp2_with fail
             go_roundw
             case rel=>exact HR9.out
             case measure=>simp[intOf];omega
            ·have dl:decide ((p:Int)<(y.n:Int))=false:=decide_eq_false hpl
             rw[show y.c.writes.take p=y.c.writes from List.take_of_length_le (by omega)] at hI7
             have HR9:=LH (show CoRel P s Hi x (csOf L) i w3 own3 (.int .i64 ((q+1:Nat):Int)) wr from⟨q+1,own7,rfl,by omega,by rw[HYP.out];exact hI7,hZ7⟩)
             clear hI7 hZ7
             go_wp2_with fail
             go_roundw
             case rel=>exact HR9.out
             case measure=>simp[intOf];omega
          ·have et:(y.c.tx == x.c.tx)=false:=by simpa using hyt
           have HR9:=LH (show CoRel P s Hi x (csOf L) i w3 own3 (.int .i64 ((q+1:Nat):Int)) w6 from⟨q+1,own5,rfl,by omega,by rw[HYS.out,if_neg (fun h=>hyt h.2)];exact HI6.out,HZ6.out⟩)
           clear hyk hyt
           go_wp2_with fail
           go_roundw
           case rel=>exact HR9.out
           case measure=>simp[intOf];omega
         ·have ek:(y.c.kind == 2)=false:=by simpa using hyk
          have HR9:=LH (show CoRel P s Hi x (csOf L) i w3 own3 (.int .i64 ((q+1:Nat):Int)) w6 from⟨q+1,own5,rfl,by omega,by rw[HYS.out,if_neg (fun h=>hyk h.1)];exact HI6.out,HZ6.out⟩)
          clear hyk
          go_wp2_with fail
          go_roundw
          case rel=>exact HR9.out
          case measure=>simp[intOf];omega
        ·have dl:decide ((q:Int)<(i:Int))=false:=decide_eq_false hql
         obtain rfl:q=i:=by omega
         have HOK1:=LH (HOK3.out.setSto (K:=commK (Hi.sh s).sto ((csOf L).take q) x.c) (WfS.comm HWX.out _ HOK3.out.sto (fun a ha=>HWL.out a (List.mem_of_mem_take ha))))
         go_wp2_with fail
         have hcb1:=HCZ.out _ _ hZ5
         have r1:wr.drew.cell? ⟨cb,1,none⟩=some (.int .i64 x.c.tx):=hcb1.cell 1
         have HRL:=LH (q42 (hI5.below (Below.refl wr.heap.size wr).drew) (show s<_ from hsc) x.c.tx (q0j (by have:=HWX.out.tx;omega) (by have:=HWX.out.tx;omega)) HOK1.out.tab)
         have HZ1:=LH ((HZ4.out.trans hZ5).trans (HZ.below own5 (Below.refl wr.heap.size wr).drew))
         have HCB1:=LH hcb1
         have HCF1:=LH (show own5 cb=none from(hZ5.ext cb HC0.out.lt).trans HFR0.out)
         clear hI5 hZ5 hcb1
         refine wp_region_any (by kernel_rfl) ?_
         change wpAny _ _ _ _ _ _ _ (World.drew _)
         refine q0e (fun W=>W.cell? ⟨cb,1,none⟩=some (.int .i64 x.c.tx)) 8 (fun _ _ _ _ _ h=>h) (fun HQP=>?_)
         have HCC:=r1
         refine nA 0 [8] rfl rfl HQP HCC (fun w' hw'=>by go_simp;rfl) ?_
         refine nA 1 [8] rfl rfl HQP HCC (fun w' hw'=>by go_simp;rfl) ?_
         refine nA 2 [3,4,7,8] rfl rfl HQP HCC (fun w' hw'=>by go_simp;rfl) ?_
         refine nA 3 [4,7,8] rfl rfl HQP HCC (fun w' hw'=>by go_simp;rfl) ?_
         refine nA 4 [7,8] rfl rfl HQP HCC (fun w' hw'=>by go_simp;rfl) ?_
         refine nA 5 [6,7,8] rfl rfl HQP HCC (fun w' hw'=>by go_simp;rfl) ?_
         refine nA 6 [7,8] rfl rfl HQP HCC (fun w' hw'=>by go_simp;rfl) ?_
         clear HCC r1
         refine nO 7 rfl (fun KK hK=>?_)
         go_simp
         refine HRL.out.mono ?_
         rintro e w7 ⟨V7,gs,own7,rfl,hrow7,hfree7,hgl7,heq7,hI7,hZ7⟩
         obtain⟨A7,c7',rfl,_,_⟩:=q01 hrow7
         have hgr:=q4t (s:=s) hI7 (Nat.le_trans HOK1.out.m (by omega)) (fun a h1 h2=>HOK1.out.wn a h1 h2) hrow7 hfree7 (by omega)
         rw[heq7] at hgr
         have HGR:=LH hgr
         have HZ7:=LH (HZ1.out.trans (hZ7.mono (fun t ht=>.inl ht)))
         have hC7:w7.cell? ⟨cb,1,none⟩=some (.int .i64 x.c.tx):=(hZ7.unowned (show Blk wr.drew cb _ _ from HCB1.out) HCF1.out).cell 1
         clear hgr hrow7 hfree7 hI7 heq7 hZ7 HRL
         go_simp
         refine hK _ _ (fun _=>hC7) ?_
         clear hK KK hC7
         refine nO 8 rfl (fun KK hK=>?_)
         go_simp
         refine HGR.out.mono ?_
         rintro e w8 ⟨rfl,own8,hI8,hZ8⟩
         go_simp
         refine hK _ _ (fun h=>absurd h (by decide)) ?_
         clear hK KK
         refine ndone (by kernel_rfl) ?_ _
         clear HQP HGR
         have hfin:TkMid P own s ((Hi.setSh s { Hi.sh s with sto:=commK (Hi.sh s).sto ((csOf L).take q) x.c }).rel s x.c.tx) w2 w8:=⟨own8,hI8,HZ7.out.trans (hZ8.mono (fun t ht=>.inr ht))⟩
         rw[← HSG.out] at hfin
         have HF:=LH hfin
         clear hfin hI8 hZ8
         go_wp2_with fail
         go_meet
         exact HF.out
      ·have e3:(x.c.kind == 3)=false:=by simpa using k3
       by_cases k4:x.c.kind=4
       ·have HSG:=LH (show Hi.take1 s (csOf L) i x.c=Hi.rel s x.c.tx by unfold Hs.take1;rw[if_neg k2,if_neg k3,if_pos k4])
        rw[k4] at q0
        clear k2 e2 k3 e3
        obtain⟨own5,hI5,hZ5⟩:∃ o,HI w3 o P Hi∧HZ (tkTag s) w3 own3 w3 o:=⟨own3,HI4.out,HZ.refl _ _ _⟩
        have HOK1:=HOK3
        obtain⟨wr2,hwr2⟩:∃ W,W=w3:=⟨w3,rfl⟩
        go_wp2_with fail
        have hcb1:=HCZ.out _ _ hZ5
        have r1:w3.drew.cell? ⟨cb,1,none⟩=some (.int .i64 x.c.tx):=hcb1.cell 1
        have HRL:=LH (q42 (hI5.below (Below.refl w3.heap.size w3).drew) (show s<_ from hsc) x.c.tx (q0j (by have:=HWX.out.tx;omega) (by have:=HWX.out.tx;omega)) HOK1.out.tab)
        have HZ1:=LH ((HZ4.out.trans hZ5).trans (HZ.below own5 (Below.refl w3.heap.size w3).drew))
        have HCB1:=LH hcb1
        have HCF1:=LH (show own5 cb=none from(hZ5.ext cb HC0.out.lt).trans HFR0.out)
        clear hI5 hZ5 hcb1
        refine wp_region_any (by kernel_rfl) ?_
        change wpAny _ _ _ _ _ _ _ (World.drew _)
        refine q0e (fun W=>W.cell? ⟨cb,1,none⟩=some (.int .i64 x.c.tx)) 8 (fun _ _ _ _ _ h=>h) (fun HQP=>?_)
        have HCC:=r1
        refine nA 0 [8] rfl rfl HQP HCC (fun w' hw'=>by go_simp;rfl) ?_
        refine nA 1 [8] rfl rfl HQP HCC (fun w' hw'=>by go_simp;rfl) ?_
        refine nA 2 [3,4,7,8] rfl rfl HQP HCC (fun w' hw'=>by go_simp;rfl) ?_
        refine nA 3 [4,7,8] rfl rfl HQP HCC (fun w' hw'=>by go_simp;rfl) ?_
        refine nA 4 [7,8] rfl rfl HQP HCC (fun w' hw'=>by go_simp;rfl) ?_
        refine nA 5 [6,7,8] rfl rfl HQP HCC (fun w' hw'=>by go_simp;rfl) ?_
        refine nA 6 [7,8] rfl rfl HQP HCC (fun w' hw'=>by go_simp;rfl) ?_
        clear HCC r1
        refine nO 7 rfl (fun KK hK=>?_)
        go_simp
        refine HRL.out.mono ?_
        rintro e w7 ⟨V7,gs,own7,rfl,hrow7,hfree7,hgl7,heq7,hI7,hZ7⟩
        obtain⟨A7,c7',rfl,_,_⟩:=q01 hrow7
        have hgr:=q4t (s:=s) hI7 (Nat.le_trans HOK1.out.m (by omega)) (fun a h1 h2=>HOK1.out.wn a h1 h2) hrow7 hfree7 (by omega)
        rw[heq7] at hgr
        have HGR:=LH hgr
        have HZ7:=LH (HZ1.out.trans (hZ7.mono (fun t ht=>.inl ht)))
        have hC7:w7.cell? ⟨cb,1,none⟩=some (.int .i64 x.c.tx):=(hZ7.unowned (show Blk w3.drew cb _ _ from HCB1.out) HCF1.out).cell 1
        clear hgr hrow7 hfree7 hI7 heq7 hZ7 HRL
        go_simp
        refine hK _ _ (fun _=>hC7) ?_
        clear hK KK hC7
        refine nO 8 rfl (fun KK hK=>?_)
        go_simp
        refine HGR.out.mono ?_
        rintro e w8 ⟨rfl,own8,hI8,hZ8⟩
        go_simp
        refine hK _ _ (fun h=>absurd h (by decide)) ?_
        clear hK KK
        refine ndone (by kernel_rfl) ?_ _
        clear HQP HGR
        have hfin:TkMid P own s (Hi.rel s x.c.tx) w2 w8:=⟨own8,hI8,HZ7.out.trans (hZ8.mono (fun t ht=>.inr ht))⟩
        rw[← HSG.out] at hfin
        have HF:=LH hfin
        clear hfin hI8 hZ8
        go_wp2_with fail
        go_meet
        exact HF.out
       ·have e4:(x.c.kind == 4)=false:=by simpa using k4
        have hfin:TkMid P own s (Hi.take1 s (csOf L) i x.c) w2 w3:=⟨own3,by unfold Hs.take1;rw[if_neg k2,if_neg k3,if_neg k4];exact HI4.out,HZ4.out⟩
        have HF:=LH hfin
        clear hfin k2 k3 k4
        go_wp2_with fail
        go_meet
        exact HF.out
    case rest=>
     obtain⟨own5,hI5,hZ5⟩:=hcut
     rename World=>w5
     obtain⟨v5,hv5⟩:=hI5.sh s (by rw[(q0b.take1 Hi s i (csOf L) x.c).c];exact hsc)
     obtain⟨_,_,_,_,k7,kl⟩:=hv5.cells
     have z7:=hv5.tab.blk.frozen 7
     rw[take1_done,HD3.out] at k7
     have hv6:=hv5.setDone (i+1)
     have hf6:Fr (OS own5 (shTag s)) w5 (w5.setCell ⟨P.gs s,7,none⟩ (.int .i64 ((i+1:Nat):Int))):=(Fr.set1 (P.gs s) w5 7 _).mono (fun b _ e=>⟨_,by rw[e];exact hv5.gt,.inl rfl⟩)
     have hI6:=hI5.setSh' (x':={ (Hi.take1 s (csOf L) i x.c).sh s with done:=i+1 }) rfl hf6 (Ext.refl own5 _) (fun b hb=>Nat.lt_of_lt_of_le (hI5.lt b hb) hf6.size) ⟨_,hv6⟩
     have hrel6:TkRel P own H s (csOf L) w2 (w5.setCell ⟨P.gs s,7,none⟩ (.int .i64 ((i+1:Nat):Int))):=by
      refine⟨i+1,Hi.taken s (csOf L) i x.c,⟨own5,hI6,hZ5.trans ⟨Ext.refl own5 _,hf6.mono (fun _ _ ⟨t,a,b⟩=>⟨t,a,.inl b⟩),fun _ _ h=>h⟩⟩,HOK3.out.taken HWX.out HWL.out,HSM3.out.trans (q0b.taken _ _ _ _ _),by unfold Hs.taken;rw[q0d],?_⟩
      rw[HTK3.out,show(csOf L).length-i=((csOf L).length-(i+1))+1 by omega]
      exact q8s HD3.out HXC.out
     have hc6:=hv6.cells.2.2.2.2.1
     have HR6:=LH hrel6
     have HC6:=LH hc6
     clear hrel6 hc6 hI6 hf6 hv6 hv5 hI5 hZ5 l0 l1 l2 l3 d1 hgl2
     go_wp2_with fail
     go_roundw
     case rel=>exact HR6.out
     case measure=>
      rw[show(((w5.setCell ⟨P.gs s,7,none⟩ (.int .i64 ((i:Int)+1))).cell? ⟨P.gs s,7,none⟩).getD undef)=.int .i64 ((i:Int)+1) from congrArg (fun o=>o.getD undef) HC6.out,C7.out]
      simp[intOf];omega
   ·have d1:decide ((i:Int)<(L.length:Int))=false:=decide_eq_false (by omega)
    rw[show(csOf L).length-i=0 by omega] at htk3
    have hfin:TakeP P own H s w (.returned (.tuple #[])) wr:=⟨rfl,own3,by rw[HTK.out,htk3];exact hI3,(HZ.below own HB2.out).trans hZ3⟩
    have HF:=LH hfin;clear hfin hI3 hZ3 htk3 hv hok3 hsm3 hd3
    go_wp2_with fail
    go_end0
    exact HF.out
end
section
variable {w w':World} {own own':Own} {P:Ptr} {H:Hs}
def ndTag (s j:Nat) (t:Tg):Prop:=t=.nd s j
def q3z (t:Tg):Prop:=t=.hs∨t=.net
theorem HI.node (h:HI w own P H) {s j:Nat} {C V C2 V2:Value} {L L2:List CmR} {d2:Nd} (ht:∀ b,NdF (P.gn s j) C V L b→own b=some (.nd s j))
  (hn:NdI w' 0 (P.gn s j) C2 V2 L2 d2) (hf:Fr (NdF (P.gn s j) C V L) w w') (hft:∀ q,NdF (P.gn s j) C2 V2 L2 q→NdF (P.gn s j) C V L q∨w.heap.size≤q) :
  ∃ own',HI w' own' P (H.setNd s j d2)∧HZ (ndTag s j) w own w' own'∧∀ b,w.heap.size≤b→own' b=none∨own' b=some (.nd s j):=by
 have hf':Fr (OS own (ndTag s j)) w w':=hf.mono (fun b _ hb=>⟨_,ht b hb,rfl⟩)
 have he:Ext own (q15 own w.heap.size (NdF (P.gn s j) C2 V2 L2) (.nd s j)) w.heap.size:=q14
 have hlt:=q1m (own:=own) (t:=.nd s j) hf.size (fun b hb=>(hn.foot_lt hb).2)
 refine⟨_,h.setNd' hf' he hlt ⟨C2,V2,L2,hn,fun b hb=>q1l ((hft b hb).imp (ht b) id) hb⟩,⟨he,hf',(by first|exact q1f (by simp)|exact fun _ _ h=>h)⟩,fun b hb=>?_⟩
 unfold q15
 rw[if_neg (by omega)]
 split
 ·exact .inr rfl
 ·exact .inl rfl
def NodeP (P:Ptr) (H:Hs) (own:Own) (s j:Nat) (d2:Nd) (ms:List Ms) (w:World) (V:Value) (w':World):Prop:=
 OutP w.heap.size ms V w'∧∃ own',HI w' own' P (H.setNd s j d2)∧HZ (ndTag s j) w own w' own'∧∀ b,w.heap.size≤b→own' b=none∨own' b=some (.nd s j)
theorem hstep_any (h:HI w own P H) {s j:Nat} (hs:s<H.c) (hj:j<H.n) (m:Ms) (A:Option Addr) (n k:Nat) (hR:q1k w w.heap.size A n m.cmd.writes) (hk:A=none→k=0) (hn:n≤100000) :
  Calls Tryz.prog 51 #[pw (P.gn s j),.agg #[.int .i64 m.kind,.int .i64 m.from_,.int .i64 m.to_,.int .i64 m.epoch,.int .i64 m.n,.int .i64 m.cmd.kind,.int .i64 m.cmd.tx,.int .i64 m.cmd.time,.slice A n k]] w
   fun e w'=>∃ V,e=.returned V∧NodeP P H own s j (((H.sh s).nd j).step m).1 (((H.sh s).nd j).step m).2 w V w':=by
 obtain⟨C,V,L,hN,ht⟩:=h.nd s j hs hj
 refine(step_any hN m A n k hR hk hn).mono ?_
 rintro e w' ⟨V1,V2,L2,rfl,ho,hn2,hf,hft⟩
 exact⟨V1,rfl,ho,h.node ht hn2 hf hft⟩
theorem htick_any (h:HI w own P H) {s j:Nat} (hs:s<H.c) (hj:j<H.n) :
  Calls Tryz.prog 55 #[pw (P.gn s j)] w fun e w'=>∃ V,e=.returned V∧NodeP P H own s j ((H.sh s).nd j).tick.1 ((H.sh s).nd j).tick.2 w V w':=by
 obtain⟨C,V,L,hN,ht⟩:=h.nd s j hs hj
 refine(q6o hN).mono ?_
 rintro e w' ⟨V1,rfl,ho,hn2,hf⟩
 exact⟨V1,rfl,ho,h.node ht hn2 (hf.mono (fun b _ e=>.inl e)) (fun q hq=>.inl hq)⟩
theorem hadd0_any (h:HI w own P H) {s j:Nat} (hs:s<H.c) (hj:j<H.n) (x:CmR) (hR:q1k w w.heap.size x.A x.n x.c.writes) (hk:x.A=none→x.k=0) (hn:x.n≤100000) :
  Calls Tryz.prog 120 #[pw (P.gn s j),.agg #[.int .i64 x.c.kind,.int .i64 x.c.tx,.int .i64 x.c.time,.slice x.A x.n x.k]] w
   fun e w'=>∃ V b,e=.returned (.tuple #[.int .i64 (((H.sh s).nd j).add x.c b).2.1,V,errI (((H.sh s).nd j).add x.c b).2.2])∧NodeP P H own s j (((H.sh s).nd j).add x.c b).1.1 (((H.sh s).nd j).add x.c b).1.2 w V w':=by
 obtain⟨C,V,L,hN,ht⟩:=h.nd s j hs hj
 refine(add_any hN x hR hk hn).mono ?_
 rintro e w' ⟨V1,V2,L2,b,rfl,ho,hn2,hf,hft⟩
 exact⟨V1,b,rfl,ho,h.node ht hn2 hf hft⟩
theorem hbecome_any (h:HI w own P H) {s j:Nat} (hs:s<H.c) (hj:j<H.n) (e:Int) (ns:List Int) (A:Option Addr) (k:Nat) (hc:w.ownsRow 0 3 1 (.slice A ns.length k) ns.length (ns.map (Value.int .i64))) (he:((H.sh s).nd j).epoch<e) (hn6:ns.length≤6) (hnd:ns.Nodup) (hok:∀ x∈ns,okI x) (hin:((H.sh s).nd j).id∈ns) :
  Calls Tryz.prog 75 #[pw (P.gn s j),.agg #[.int .i64 e,.slice A ns.length k]] w
   fun en w'=>∃ V,en=.returned (.tuple #[V,.nilIface])∧NodeP P H own s j (((H.sh s).nd j).join e ns).tick.1 (((H.sh s).nd j).join e ns).tick.2 w V w':=by
 obtain⟨C,V,L,hN,ht⟩:=h.nd s j hs hj
 refine(become_any hN e ns A k hc he hn6 hnd hok hin).mono ?_
 rintro en w' ⟨V1,C2,V2,L2,rfl,ho,hn2,hf,hft⟩
 exact⟨V1,rfl,ho,h.node ht hn2 hf hft⟩
theorem wf_okI {m:Ms} (h:WfM m):okI m.from_∧okI m.to_:=⟨q0j (by have:=h.fr;omega) (by have:=h.fr;omega),q0j (by have:=h.tw;omega) (by have:=h.tw;omega)⟩
theorem HsI.renet {c m:Nat} {net net':NetS} {time:Int} {v v':HsV} (h:HsI w own P c m net time v) (hf:Fr (OS own q3z) w w') (he:Ext own own' w.heap.size) (hVr:v'.Vr=v.Vr) (hVt:v'.Vt=v.Vt)
  (hN:NetI w' 0 P.g 0 92 (q2e v' time) v'.Vn v'.D 100 v'.L net'.dead v'.lost) (hm:msOf v'.L=net'.l) (hnt:∀ b,NetF v' b→own' b=some .net) (hfew:∀ x∈v'.L,x.n≤100000):HsI w' own' P c m net' time v':=by
 refine⟨hN,hm,hnt,hfew,?_,fun b hb=>?_,?_,fun b hb=>?_,(he _ h.nt.blk.lt).trans h.gt⟩
 ·rw[hVr];exact hf.own h.shr (fun b hb hs=>by rcases hs.tag (h.shrt b hb) with e|e <;> cases e)
 ·rw[hVr] at hb;exact(he b (h.shr.lt b hb).2).trans (h.shrt b hb)
 ·rw[hVt];exact hf.own h.txr (fun b hb hs=>by rcases hs.tag (h.txrt b hb) with e|e <;> cases e)
 ·rw[hVt] at hb;exact(he b (h.txr.lt b hb).2).trans (h.txrt b hb)
theorem net_fr {c m:Nat} {net:NetS} {time:Int} {v:HsV} (h:HsI w own P c m net time v) (hf:Fr (NetB P.g v.Vn v.D) w w'):Fr (OS own q3z) w w':=
 hf.mono (fun b _ hb=>by
  rcases hb with rfl|hb|hb
  ·exact⟨_,h.gt,.inl rfl⟩
  ·exact⟨_,h.nett b (.inl hb.symm),.inr rfl⟩
  ·exact⟨_,h.nett b (.inr (.inl hb.symm)),.inr rfl⟩)
def HSendP (P:Ptr) (H:Hs) (own:Own) (ms:List Ms) (w:World) (e:Ending) (w':World):Prop:=
 ∃ d own',e=.returned (.int .i64 d)∧HI w' own' P (H.send ms)∧HZ q3z w own w' own'
theorem q5d (h:HI w own P H) {B:Nat} {ms:List Ms} {V:Value} (ho:OutP B ms V w) (hB:∀ b,B≤b→own b≠some .hs∧own b≠some .net) (hok:∀ m∈ms,WfM m) (hwf:Wf H) (hlen:ms.length≤100000) :
  Calls Tryz.prog 50 #[pw P.g,V] w (HSendP P H own ms w):=by
 obtain⟨v,hv⟩:=h.hs
 obtain⟨A,k,M,rfl,hrow,hms,hM⟩:=ho
 have hl:ms.length=M.length:=by rw[← hms];simp[msOf]
 have hnb:∀ b,B≤b→¬NetB P.g v.Vn v.D b:=fun b hb hn=>by
  rcases hn with rfl|hn|hn
  ·exact(hB _ hb).1 hv.gt
  ·exact(hB _ hb).2 (hv.nett b (.inl hn.symm))
  ·exact(hB _ hb).2 (hv.nett b (.inr (.inl hn.symm)))
 have hR:ReadsM w (NetB P.g v.Vn v.D) A ms.length M:=by
  refine⟨hl.symm,by rw[hl] at hrow ⊢;exact Rd.of_own hrow,fun g off e h0=>hnb g ?_,fun x hx=>⟨⟨(hM x hx).1.2,Rd.of_own (hM x hx).1.1⟩,fun g off e h0=>hnb g ?_⟩⟩
  ·exact(hrow.lt g (by rw[e];rfl)).1
  ·exact((hM x hx).1.1.lt g (by rw[e];rfl)).1
 refine(send_any 0 P.g 0 100 ms.length k _ _ v.Vn v.D v.L H.net.dead v.lost A M w hv.nt hR hlen (fun x hx=>?_)).mono ?_
 ·have hmx:x.m∈ms:=by rw[← hms];exact List.mem_map.2 ⟨x,hx,rfl⟩
  refine⟨(wf_okI (hok _ hmx)).1,(wf_okI (hok _ hmx)).2,(hM x hx).2,fun e=>?_⟩
  rcases(hM x hx).1.1.2 with ⟨h1,_⟩|⟨_,_,_,h1,_⟩
  ·injection h1
  ·rw[e] at h1;cases h1
 ·rintro e w' ⟨V',L',lost',d,rfl,hpr,hN,hs,hF,hV⟩
  have hf:=net_fr hv hF
  have e2:H.net=⟨msOf v.L,H.net.dead⟩:=by rw[hv.msgs]
  have hs':(H.send ms).net=⟨msOf L',H.net.dead⟩:=by
   show q0o H.net ms=_
   rw[e2]
   rw[← hms]
   exact hs
  have he:Ext own (q15 own w.heap.size (NetF { v with Vn:=V',L:=L',lost:=lost' }) .net) w.heap.size:=q14
  have hN':NetI w' 0 P.g 0 92 (q2e { v with Vn:=V',L:=L',lost:=lost' } H.time) V' v.D 100 L' H.net.dead lost':=hN
  have hnt:∀ b,NetF { v with Vn:=V',L:=L',lost:=lost' } b→own b=some .net∨w.heap.size≤b:=fun b hb=>by
   rcases hb with hb|hb|⟨x,hx,hb⟩
   ·rcases hV with h1|⟨q,h1,h2⟩
    ·exact .inl (hv.nett b (.inl (by rw[← h1];exact hb)))
    ·have hb':V'.ownBlock=some b:=hb
     rw[h1] at hb';injection hb' with hb';exact .inr (by omega)
   ·exact .inl (hv.nett b (.inr (.inl hb)))
   ·rcases hpr x hx with h1|h1
    ·exact .inl (hv.nett b (.inr (.inr ⟨x,h1,hb⟩)))
    ·exact .inr (h1 b hb)
  have hsi:=hv.renet (net':=(H.send ms).net) (v':={ v with Vn:=V',L:=L',lost:=lost' }) hf he rfl rfl (by rw[hs'];exact hN') (by rw[hs']) (fun b hb=>q1l (hnt b hb) hb) (fun x hx=>?_)
  ·refine⟨d,_,rfl,?_,⟨he,hf,(by first|exact q1f (by simp)|exact fun _ _ h=>h)⟩⟩
   have:=h.setHs' (net':=(H.send ms).net) (time':=H.time) (q27 hf (fun t ht=>ht.elim .inl (fun e=>.inr (.inl e)))) he (q1m hf.size (fun b hb=>hN'.foot_lt hb)) ⟨_,hsi⟩
   exact this
  ·have h1:x.m∈(H.send ms).net.l:=by rw[hs'];exact List.mem_map.2 ⟨x,hx,rfl⟩
   have h2:=((hwf.send hok).net x.m h1).few
   rw[(hN.own x hx).2] at h2
   omega
end
def addTag (s:Nat) (t:Tg):Prop:=(∃ j,t=.nd s j)∨q3z t∨tkTag s t
theorem add_err {d:Nd} {c:Cm} {b:Bool} (h:(d.add c b).2.2≠0):(d.add c b).1.1=d:=by
 unfold Nd.add at h ⊢
 split
 ·rfl
 ·rename_i h1
  rw[if_neg h1] at h
  split
  ·rfl
  ·rename_i h2
   rw[if_neg h2] at h
   exact absurd rfl h
section
variable {w w':World} {own own':Own} {P:Ptr} {H:Hs}
theorem q7z {s:Nat} (h:HI w own P H) (wf:Wf H) (hs:s<H.c):Calls Tryz.prog 52 #[pw P.g,pw (P.gs s)] w (TakeP P own H s w):=
 take_any h hs (by have:=wf.n4;omega) (fun j hj=>wf.idOk hs hj) (wf.tkOk hs) (fun j hj=>(wf.nd s j hs hj).log)
theorem q5f {s:Nat} (h:HI w own P H) (wf:Wf H) (hs:s<H.c):Calls Tryz.prog 61 #[pw (P.gs s)] w (SHeadP P H s w):=
 shead_any h hs (by have:=wf.n4;omega) (fun j hj=>wf.idOk hs hj)
def HAddP (P:Ptr) (H:Hs) (own:Own) (s j:Nat) (c:Cm) (w:World) (e:Ending) (w':World):Prop:=
 ∃ b own',e=.returned (.int .i64 (H.add s j c b).1)∧HI w' own' P (H.add s j c b).2∧HZ (addTag s) w own w' own'
theorem q6u {s j:Nat} (h:HI w own P H) (wf:Wf H) (hs:s<H.c) (hj:j<H.n) (x:CmR) (hR:q1k w w.heap.size x.A x.n x.c.writes) (hk:x.A=none→x.k=0) (hn:x.n≤100000) (hc:WfC x.c) :
  Calls Tryz.prog 94 #[pw P.g,pw (P.gs s),pw (P.gn s j),.agg #[.int .i64 x.c.kind,.int .i64 x.c.tx,.int .i64 x.c.time,.slice x.A x.n x.k]] w (HAddP P H own s j x.c w):=by
 have hb1:Below w.heap.size w (w.alloc (.cells #[.int .i64 x.c.kind,.int .i64 x.c.tx,.int .i64 x.c.time,.slice x.A x.n x.k] 69)):=(Below.refl _ _).alloc (Nat.le_refl _) _
 have hcb:Blk (w.alloc (.cells #[.int .i64 x.c.kind,.int .i64 x.c.tx,.int .i64 x.c.time,.slice x.A x.n x.k] 69)) w.heap.size 69 #[.int .i64 x.c.kind,.int .i64 x.c.tx,.int .i64 x.c.time,.slice x.A x.n x.k]:=Blk.new w _ _
 have HI1:=LH (h.below hb1)
 have HA:=LH (hadd0_any (h.below hb1) hs hj x ⟨hR.1,(hR.2.below hb1).more hb1.size⟩ hk hn)
 have HZ1:=LH (HZ.below (Z:=addTag s) own hb1)
 have q0:=hcb.cell 0
 have q1:=hcb.cell 1
 have q2:=hcb.cell 2
 have q3:=hcb.cell 3
 have ql:=hcb.lt
 simp only[List.getElem?_toArray,List.getElem?_cons_zero,List.getElem?_cons_succ] at q0 q1 q2 q3
 clear h hb1 hcb hR
 unfold pw at *
 go_enter Tryz.func94,Tryz.ntmps94
 go_upto_region 1 with (fail)
 generalize (w.alloc _)=w1 at *
 generalize w.heap.size=cb at *
 go_wp2_with fail
 refine HA.out.mono ?_
 rintro e w2 ⟨V,b,rfl,ho,own2,hI2,hZ2,hnew⟩
 clear q0 q1 q2 q3 ql HA
 by_cases her:(((H.sh s).nd j).add x.c b).2.2=0
 ·have hadd:H.add s j x.c b=((((H.sh s).nd j).add x.c b).2.1,(((H.setNd s j (((H.sh s).nd j).add x.c b).1.1).send (((H.sh s).nd j).add x.c b).1.2)).take s):=by
   unfold Hs.add;rw[if_neg (by rw[her];simp)]
  have HAD:=LH hadd
  have hwa:=wf_add (wf.nd s j hs hj) (show s<3 by have:=wf.c3;omega) (show j<4 by have:=wf.n4;omega) hc b
  have hwf1:=wf.setNd hwa.1
  have hlen:(((H.sh s).nd j).add x.c b).1.2.length≤100000:=by
   obtain⟨A,k,M,e,hrow,hms,_⟩:=ho
   unfold Nd.add
   split
   ·simp
   ·split
    ·simp
    ·unfold Nd.grow Nd.tick
     split
     ·split
      ·simp
      ·split
       ·split <;> simp
       ·simp
     ·simp
  have hsd:=q5d hI2 ho (fun q hq=>by rcases hnew q hq with e|e <;> (rw[e];simp)) hwa.2 hwf1 hlen
  have HSD:=LH hsd
  have HZ2:=LH (HZ1.out.trans (hZ2.mono (fun t ht=>.inl ⟨j,ht⟩)))
  have HWF:=LH (hwf1.send hwa.2)
  unfold errI
  rw[her,if_pos rfl]
  obtain⟨A,k,M,rfl,_⟩:=ho
  unfold pw at HSD
  clear hadd hwa hwf1 hsd hlen hnew hI2 hZ2 her
  go_wp2_with fail
  refine HSD.out.mono ?_
  rintro e w3 ⟨d3,own3,rfl,hI3,hZ3⟩
  have HTK:=LH (q7z hI3 HWF.out (show s<_ from hs))
  have HZ3:=LH (HZ2.out.trans (hZ3.mono (fun t ht=>.inr (.inl ht))))
  unfold pw at HTK
  clear hI3 hZ3 HSD
  go_wp2_with fail
  refine HTK.out.mono ?_
  rintro e w4 ⟨rfl,own4,hI4,hZ4⟩
  have hfin:HAddP P H own s j x.c w (.returned (.int .i64 (((H.sh s).nd j).add x.c b).2.1)) w4:=⟨b,own4,by rw[HAD.out],by rw[HAD.out];exact hI4,HZ3.out.trans (hZ4.mono (fun t ht=>.inr (.inr ht)))⟩
  have HF:=LH hfin
  clear hfin hI4 hZ4
  go_wp2_with fail
  go_ret
  exact HF.out
 ·have hadd:H.add s j x.c b=(-1,H):=by unfold Hs.add;rw[if_pos her]
  rw[add_err her,setNd_self] at hI2
  have hfin:HAddP P H own s j x.c w (.returned (.int .i64 (-1))) w2:=⟨b,own2,by rw[hadd],by rw[hadd];exact hI2,HZ1.out.trans (hZ2.mono (fun t ht=>.inl ⟨j,ht⟩))⟩
  have HF:=LH hfin
  unfold errI
  rw[if_neg her]
  clear hfin hI2 hZ2 ho hadd her
  go_wp2_with fail
  go_ret
  exact HF.out
end
theorem int_infoX:(Tryz.prog.info? 3).map (fun i=>(i.zero,i.size,i.bytes))=some (some (.int .i64 0),1,8):=by kernel_rfl
def Txn.comesI (t:Txn):List Int:=t.comes.map fun k:Nat=>(k:Int)
theorem q2l {t:Txn} {k:Nat} : k∈t.comes↔(k=0∨k=1)∧t.shards k≠none:=by
 unfold Txn.comes
 rw[List.mem_filter]
 simp only[List.mem_cons,List.not_mem_nil,or_false,Option.isSome_iff_ne_none]
theorem q1a {t:Txn} {k:Nat} (h:k∈t.comes):k<2:=by rcases(q2l.1 h).1 with rfl|rfl <;> omega
theorem q89 (t:Txn):t.comes.length≤2:=List.length_filter_le _ _
theorem comesI_eq {t:Txn} (hsh:∀ k e,t.shards k=some e→(k=0∨k=1)∧True) {l:List Int} (hnd:l.Nodup) (hm:∀ o,o∈l↔t.shards o≠none):sortI l=t.comesI:=by
 refine sorted_eqI (sortI_lt hnd) ?_ (fun a=>?_)
 ·unfold Txn.comesI Txn.comes
  rw[List.pairwise_map]
  refine List.Pairwise.filter _ ?_
  simp
 ·rw[mem_sortI,hm a]
  unfold Txn.comesI
  rw[List.mem_map]
  constructor
  ·intro h
   obtain⟨e,he⟩:=Option.ne_none_iff_exists'.1 h
   rcases(hsh a e he).1 with rfl|rfl
   ·exact⟨0,q2l.2 ⟨.inl rfl,h⟩,rfl⟩
   ·exact⟨1,q2l.2 ⟨.inr rfl,h⟩,rfl⟩
  ·rintro ⟨k,hk,rfl⟩
   exact(q2l.1 hk).2
def ComesP (t:Txn) (w:World) (e:Ending) (w':World):Prop:=∃ V,e=.returned V∧w'.ownsRow w.heap.size 3 1 V t.comes.length (t.comesI.map (Value.int .i64))∧Below w.heap.size w w'
def CmRel (W:World) (f:Int→Option Int) (hb r:Nat) (v:Value) (wr:World):Prop:=
 ∃ (left:Int→Bool) (cnt:Nat) (l:List Int),q0z q05 wr hb r 100 (inM f) left cnt∧l.length+cnt≤100∧wr.ownsRow (W.heap.size+1) 3 1 v l.length (l.map (Value.int .i64))∧l.Nodup∧
  (∀ o,o∈l↔left o=false∧f o≠none)∧Below W.heap.size W wr∧W.heap.size+1≤wr.heap.size
section
variable {w w':World} {own own':Own} {P:Ptr} {H:Hs}
open Classical in
theorem q8a {i:Nat} (h:HI w own P H) (wf:Wf H) (h1:1≤i) (hi:i≤H.m):Calls Tryz.prog 68 #[pw (P.gt i)] w (ComesP (H.tx i) w):=by
 obtain⟨v,hv⟩:=h.tx i h1 hi
 obtain⟨_,_,_,c3,_,_,_,gl⟩:=hv.cells
 have HMAP:=LH hv.shards
 have HSH:=LH (wf.tx i h1 hi).sh
 have HHB:=LH hv.shards.lt
 have hcl:(H.tx i).comesI.length=(H.tx i).comes.length:=by unfold Txn.comesI;simp
 have HCL:=LH hcl
 generalize H.tx i=t at *
 clear h wf hv hcl
 unfold pw
 go_enter Tryz.func68,Tryz.ntmps68
 go_wp2_with (at_range;refine q23 rfl _ 61 3 rfl Tryz.underlying61 rfl HMAP.out ?_;intro w0 cnt0 hrg0 hf0 hs0)
 try go_frame
 go_loopw [3] (fun v wr=>CmRel w t.shards _ w.heap.size v wr) (fun _ wr=>wr.rangeLeft v.bs w.heap.size)
 case atStart=>exact⟨_,cnt0,[],hrg0,(by simpa using hrg0.cnt_le),World.ownsRow_nil _ _ _ _,List.nodup_nil,(fun o=>by
  simp only[List.not_mem_nil,false_iff]
  rintro ⟨h1,h2⟩
  obtain⟨e,he⟩:=Option.ne_none_iff_exists'.1 h2
  simp[inM,he] at h1),hf0.none_below,by omega⟩
 case round=>
  obtain⟨left,cnt,l,hrg,hcn,hown,hnd,hmem,hbw,hsz⟩:=hrel
  have HRG:=LH hrg;clear hrg
  have HOWN:=LH hown;clear hown
  have HND:=LH hnd;clear hnd
  have HMEM:=LH hmem;clear hmem
  have HBW:=LH hbw;clear hbw
  have HCN:=LH hcn;clear hcn
  have HSZ:=LH hsz;clear hsz
  go_wp2_with (at_next;refine q2i rfl _ rfl rfl HRG.out ?_ ?_)
  ·intro hl0
   have hsrt:=sort_ints (w.heap.size+1) l.length _ l wr HOWN.out rfl (by have:=HCN.out;omega)
   have HSRT:=LH hsrt;clear hsrt
   obtain⟨A2,c2,hV2,_,hA2⟩:=q01 HOWN.out
   subst hV2
   go_wp2_with fail
   refine HSRT.out.mono ?_
   rintro e w9 ⟨rfl,hown9,hf9⟩
   have heq:=comesI_eq HSH.out HND.out (fun o=>by
    rw[HMEM.out o]
    exact⟨fun h=>h.2,fun h=>⟨hl0 o (by
     obtain⟨e,he⟩:=Option.ne_none_iff_exists'.1 h
     rcases(HSH.out o e he).1 with rfl|rfl <;> exact q0j (by omega) (by omega)),h⟩⟩)
   have hlen:l.length=t.comes.length:=by rw[← HCL.out,← heq];exact(List.length_mergeSort l).symm
   rw[heq,hlen] at hown9
   have hfin:ComesP t w (.returned (.slice A2 l.length c2)) w9:=⟨_,rfl,by rw[hlen];exact q17 hown9 (by omega),HBW.out.trans (hf9.below (fun i hi=>by have:=(HOWN.out.lt i hi).1;omega) (by have:=HBW.out.size;omega))⟩
   have HF:=LH hfin;clear hfin hf9 hown9 hlen heq
   go_wp2_with fail
   go_ret
   exact HF.out
  ·intro o v9 w3 cnt3 hox hlx hmx hrg3 hlt hf3 hs3 hen
   obtain⟨m,hm,rfl⟩:∃ m,t.shards o=some m∧v9=.int .i64 m:=by
    unfold inM at hmx
    cases e:t.shards o with
    | none=>rw[e] at hmx;cases hmx
    | some m=>rw[e] at hmx;injection hmx with hmx;exact⟨m,rfl,hmx.symm⟩
   have hb3:Below w.heap.size w w3:=HBW.out.trans (hf3.below (fun i (hi:i=_)=>by omega) (by have:=HBW.out.size;omega))
   have hown3:=hf3.own HOWN.out (fun b hb (e:b=_)=>by have:=(HOWN.out.lt b hb).1;omega)
   have HB3:=LH hb3;clear hb3
   have HO3:=LH hown3;clear hown3
   have HM3:=LH hm;clear hm
   have HRG3:=LH hrg3;clear hrg3 hmx
   have HLX:=LH hlx;clear hlx
   rw[show q05.val o=Value.int .i64 o from rfl] at hen ⊢
   have HLT:=LH hlt;clear hlt hf3
   have HS3:=LH hs3;clear hs3
   have hl100:l.length≤100:=by have:=HCN.out;omega
   go_wp2_with (at_builtin;refine stop ?_)
   refine back ?_
   have hsz3:w.heap.size+1≤w3.heap.size:=by have:=HSZ.out;have:=HS3.out;omega
   refine q0h w3 _ rfl (.tmp 14) (.tmp 16) 26 rfl (w.heap.size+1) 3 (.int .i64 0) 1 8 Tryz.underlying26 int_infoX rfl (by decide) _ _ _ #[.int .i64 o] rfl HO3.out 1 rfl _ rfl rfl (by simp[Value.oneCell']) (by unfold maxLen;omega) (by omega) hsz3 ?_
   intro v' w8 hr8 hm8
   have hb8:Below (w.heap.size+1) w3 w8:=hm8.below (fun b hb=>(HO3.out.lt b hb).1) hsz3
   have hrg8:q0z q05 w8 v.bs w.heap.size 100 (inM t.shards) _ cnt3:=HRG3.out.of_blocks (hb8.block _ (by have:=HHB.out;omega)) (hb8.block _ (by omega))
   have hrel8:CmRel w t.shards v.bs w.heap.size v' w8:=by
    refine⟨_,cnt3,l++[o],hrg8,by have:=HCN.out;have:=HLT.out;simp;omega,by simpa using hr8,?_,fun p=>?_,HB3.out.trans (hb8.mono (by omega)),by have:=hb8.size;omega⟩
    ·refine List.nodup_append.2 ⟨HND.out,by simp,fun a ha b hb=>?_⟩
     simp at hb
     subst hb
     rintro rfl
     have:=((HMEM.out a).1 ha).1
     rw[HLX.out] at this;cases this
    ·rw[List.mem_append,HMEM.out p,List.mem_singleton]
     by_cases e:p=o
     ·subst e
      simp[HM3.out]
     ·simp[e]
   have hms:w8.rangeLeft v.bs w.heap.size<wr.rangeLeft v.bs w.heap.size:=by rw[hrg8.left_eq,HRG.out.left_eq];exact HLT.out
   have HR8:=LH hrel8
   have HMS:=LH hms
   clear hrel8 hms hrg8 hb8 hr8 hm8
   go_wp2_with fail
   go_roundw
   case rel=>exact HR8.out
   case measure=>exact HMS.out
end
end Go.Proofs.YtccahlhdifadfaaGreatDoor
