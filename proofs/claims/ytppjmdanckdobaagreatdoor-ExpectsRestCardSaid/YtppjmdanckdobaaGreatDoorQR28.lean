/- So many rounds tell all that is least. Plain. -/
import Derived.Test.YtppjmdanckdobaaGreatDoorQR27
namespace Go.Proofs.YtppjmdanckdobaaGreatDoor
section
variable {B:Bk} {Fk:Nat→List Fst}
structure Chain (B:Bk) (Fk:Nat→List Fst):Prop where
 sound:∀ k,SoundF B (Fk k)
 next:∀ (k r:Nat) (n:Nd),B.bodies[r]? = some n→(Fk (k+1))[r]? = some ((B.wf (Fk k)).firstN n)
 start:∀ (r:Nat) (f:Fst),(Fk 0)[r]? = some f→f.long = -1
 lp:∀ n∈B.bodies,n.lp
theorem mkF_long (v:List Int):(mkF v).long≠-1:=by unfold mkF;dsimp only;omega
theorem Min.uniq {n:Nd} {u v:List Int} (h:Min B n u) (k:Min B n v):u=v:=slB_tri (k.2 u h.1) (h.2 v k.1)
mutual
theorem exN (hC:Chain B Fk):∀ {n:Nd} {u:List Int},Lg B n u→n.lp→Min B n u→u.length≤256→∃ k,∀ k',k≤k'→(B.wf (Fk k')).firstN n=mkF u
 | _,_,.tok (x:=x) h,_,hm,_=>⟨0,fun k' _=>by
  rw [Bk.firstN,if_pos rfl]
  rcases h with rfl | rfl
  ·rfl
  ·exact absurd hm.1.2 (by simp)⟩
 | .mk _ nm tx set subs,u,.ref h hd,_,hm,hl=>by
  obtain ⟨⟨-,h2⟩,h3⟩:=hm
  obtain ⟨k,hk⟩:=exN hC hd (hC.lp _ (List.mem_of_getElem? h)) ⟨⟨hd,h2⟩,fun u hu=>h3 u ⟨.ref h hu.1,hu.2⟩⟩ hl
  refine ⟨k+1,fun k' hk'=>?_⟩
  obtain ⟨m,rfl⟩:∃ m,k'=m+1:=⟨k' - 1,by omega⟩
  have h5:=hC.next m _ _ h
  rw [hk m (by omega)] at h5
  rw [Bk.firstN,if_neg (by decide),if_pos rfl]
  have e:(B.wf (Fk (m+1))).firsts[(B.wf (Fk (m+1))).rule nm]? = some (mkF u):=h5
  rw [e]
  rfl
 | .mk _ nm tx set subs,u,.seq h,hlp,hm,hl=>by
  rw [Nd.lp] at hlp
  obtain ⟨⟨-,h2⟩,h3⟩:=hm
  obtain ⟨k,hk⟩:=exL hC h hlp.2 ⟨⟨h,h2⟩,fun u hu=>h3 u ⟨.seq hu.1,hu.2⟩⟩ hl
  refine ⟨k,fun k' hk'=>?_⟩
  rw [Bk.firstN,if_neg (by decide),if_neg (by decide),if_pos rfl]
  have:=hk k' hk' [] (by simpa using hl)
  rw [List.nil_append] at this
  exact this
 | .mk _ nm tx set subs,u,.alt hx h,hlp,hm,hl=>by
  rw [Nd.lp] at hlp
  have hma:=hm.alt
  obtain ⟨k,hk⟩:=exN hC h (hlp.2.mem _ hx) ⟨⟨h,hm.1.2⟩,fun u hu=>hma _ hx u hu⟩ hl
  refine ⟨k,fun k' hk'=>?_⟩
  rw [Bk.firstN,if_neg (by decide),if_neg (by decide),if_neg (by decide),if_pos rfl]
  exact alt_find (hC.sound k') hl subs hlp.2 hma ⟨_,hx,hk k' hk'⟩ _ (behind_none u)
 | _,_,.opt0,_,_,_=>⟨0,fun k' _=>by
  rw [Bk.firstN,if_neg (by decide),if_neg (by decide),if_neg (by decide),if_neg (by decide),if_neg (by decide)]
  rfl⟩
 | .mk _ nm tx set _,u,.opt h,_,hm,_=>⟨0,fun k' _=>by
  rw [Bk.firstN,if_neg (by decide),if_neg (by decide),if_neg (by decide),if_neg (by decide),if_neg (by decide),slB_nil (hm.2 [] ⟨.opt0,by simp⟩)]
  rfl⟩
 | _,_,.star0,_,_,_=>⟨0,fun k' _=>by
  rw [Bk.firstN,if_neg (by decide),if_neg (by decide),if_neg (by decide),if_neg (by decide),if_neg (by decide)]
  rfl⟩
 | .mk _ nm tx set _,u,.star h,_,hm,_=>⟨0,fun k' _=>by
  rw [Bk.firstN,if_neg (by decide),if_neg (by decide),if_neg (by decide),if_neg (by decide),if_neg (by decide),slB_nil (hm.2 [] ⟨.star0,by simp⟩)]
  rfl⟩
 | .mk _ nm tx set _,u,.plus (x:=x) (r:=r) h,hlp,hm,hl=>by
  rw [Nd.lp] at hlp
  obtain ⟨k,hk⟩:=exP hC h (hlp.2.mem _ (List.mem_cons_self ..)) (fun u' hu' h2=>hm.2 u' ⟨.plus hu',h2⟩) hm.1.2 hl
  refine ⟨k,fun k' hk'=>?_⟩
  rw [Bk.firstN,if_neg (by decide),if_neg (by decide),if_neg (by decide),if_neg (by decide),if_pos rfl,Bk.firstHd]
  exact hk k' hk'
 | .mk k nm tx set subs,_,.other hk,_,_,_=>⟨0,fun k' _=>by
  rw [Bk.firstN,if_neg (by omega),if_neg (by omega),if_neg (by omega),if_neg (by omega),if_neg (by omega)]
  rfl⟩
theorem exL (hC:Chain B Fk):∀ {l:List Nd} {u:List Int},LgL B l u→Nd.lpL l→MinL B l u→u.length≤256→∃ k,∀ k',k≤k'→∀ p,p.length+u.length≤256→(B.wf (Fk k')).firstSeq l (mkF p)=mkF (p++u)
 | _,_,.nil,_,_,_=>⟨0,fun k' _ p _=>by rw [Bk.firstSeq,List.append_nil]⟩
 | _,_,.cons (u:=a) (v:=b) h hr,hlp,hm,hl=>by
  rw [Nd.lpL] at hlp
  rw [List.length_append] at hl
  obtain ⟨m1,m2⟩:=hm.parts h hr
  obtain ⟨k1,hk1⟩:=exN hC h hlp.1 m1 (by omega)
  obtain ⟨k2,hk2⟩:=exL hC hr hlp.2 m2 (by omega)
  refine ⟨k1+k2,fun k' hk' p hp=>?_⟩
  rw [List.length_append] at hp
  rw [Bk.firstSeq,hk1 k' (by omega),join_mk p a (by omega),← List.append_assoc]
  exact hk2 k' (by omega) (p++a) (by rw [List.length_append];omega)
theorem exP (hC:Chain B Fk):∀ {x:Nd} {u:List Int},LgP B x u→x.lp→(∀ u',LgP B x u'→-2∉u'→slB u' u=false)→-2∉u→u.length≤256→∃ k,∀ k',k≤k'→(B.wf (Fk k')).firstN x=mkF u
 | _,_,.one h,hlp,hm,h2,hl=>exN hC h hlp ⟨⟨h,h2⟩,fun u' hu'=>hm u' (.one hu'.1) hu'.2⟩ hl
 | _,_,.more (u:=a) (v:=b) h _,hlp,hm,h2,hl=>by
  have hc:=no2_app.1 h2
  have h3:=hm a h hc.1
  have hb:b=[]:=by
   cases b with
   | nil=>rfl
   | cons y r =>
    unfold slB at h3
    rw [if_neg (by simp)] at h3
    simp at h3
  rw [hb,List.append_nil] at hm hl ⊢
  exact exP hC h hlp hm hc.1 hl
end
theorem KeepF.refl (F:List Fst):KeepF B F F:=fun _ _ _ _ _ _ h=>h
theorem KeepF.trans {F G H:List Fst} (h:KeepF B F G) (k:KeepF B G H):KeepF B F H:=fun r n v h1 h2 h3 h4=>k r n v h1 h2 h3 (h r n v h1 h2 h3 h4)
theorem Chain.lift (hC:Chain B Fk) {j k:Nat} (h:KeepF B (Fk j) (Fk k)):KeepF B (Fk (j+1)) (Fk (k+1)):=fun r n v h1 h2 h3 h4=>by
 rw [hC.next j r n h1] at h4
 rw [hC.next k r n h1,keep_min (hC.sound j) (hC.sound k) h n (hC.lp n (List.mem_of_getElem? h1)) v h2 h3 (Option.some.inj h4)]
theorem Chain.up (hC:Chain B Fk):∀ k,KeepF B (Fk k) (Fk (k+1))
 | 0=>fun r _ v _ _ _ h4=>absurd (hC.start r _ h4) (mkF_long v)
 | k+1=>hC.lift (hC.up k)
theorem Chain.up_to (hC:Chain B Fk) (k:Nat):∀ m,KeepF B (Fk k) (Fk (k+m))
 | 0=>KeepF.refl _
 | m+1=>(hC.up_to k m).trans (hC.up (k+m))
theorem Chain.down (hC:Chain B Fk) {j:Nat} (h:KeepF B (Fk (j+1)) (Fk j)):∀ m,KeepF B (Fk (j+m+1)) (Fk (j+m))
 | 0=>h
 | m+1=>hC.lift (hC.down h m)
theorem Chain.down_to (hC:Chain B Fk) {j:Nat} (h:KeepF B (Fk (j+1)) (Fk j)):∀ m,KeepF B (Fk (j+m)) (Fk j)
 | 0=>KeepF.refl _
 | m+1=>(hC.down h m).trans (hC.down_to h m)
def Done (B:Bk) (F:List Fst) (r:Nat):Prop:=∃ (n:Nd) (v:List Int),B.bodies[r]? = some n∧Min B n v∧v.length≤256∧F[r]? = some (mkF v)
noncomputable def doneB (B:Bk) (F:List Fst) (r:Nat):Bool:=@decide (Done B F r) (Classical.propDecidable _)
theorem doneB_iff {F:List Fst} {r:Nat}:doneB B F r=true↔Done B F r:=by unfold doneB;simp
theorem grow_of {F G:List Fst} (h:KeepF B F G) (hn:¬ KeepF B G F):((List.range B.bodies.length).filter (doneB B F)).length < ((List.range B.bodies.length).filter (doneB B G)).length:=by
 obtain ⟨r,n,v,h1,h2,h3,h4,h5⟩:∃ (r:Nat) (n:Nd) (v:List Int),B.bodies[r]? = some n∧Min B n v∧v.length≤256∧G[r]? = some (mkF v)∧¬ F[r]? = some (mkF v):=by
  refine Classical.byContradiction fun hc=>hn fun r n v h1 h2 h3 h4=>Classical.byContradiction fun h5=>hc ⟨r,n,v,h1,h2,h3,h4,h5⟩
 refine filter_less (x:=r) (fun k _ hk=>?_) (List.mem_range.2 (List.getElem?_eq_some_iff.1 h1).1) (doneB_iff.2 ⟨n,v,h1,h2,h3,h4⟩) ?_
 ·obtain ⟨n,v,k1,k2,k3,k4⟩:=doneB_iff.1 hk
  exact doneB_iff.2 ⟨n,v,k1,k2,k3,h _ n v k1 k2 k3 k4⟩
 ·cases hd:doneB B F r
  ·rfl
  ·obtain ⟨n',v',k1,k2,k3,k4⟩:=doneB_iff.1 hd
   rw [h1] at k1
   cases k1
   rw [k2.uniq h2] at k4
   exact absurd k4 h5
theorem Chain.all (hC:Chain B Fk) {r:Nat} {n:Nd} {v:List Int} (hb:B.bodies[r]? = some n) (hm:Min B n v) (hv:v.length≤256) (m:Nat):(Fk (B.bodies.length+m))[r]? = some (mkF v):=by
 obtain ⟨k,hk⟩:=exN hC hm.1.1 (hC.lp n (List.mem_of_getElem? hb)) hm hv
 refine hC.up_to _ m r n v hb hm hv ?_
 refine Classical.byContradiction fun hno=>?_
 have hstep:∀ j,j≤B.bodies.length→¬ KeepF B (Fk (j+1)) (Fk j):=by
  intro j hj hkeep
  have h1:(Fk (j+(k+1)))[r]? = some (mkF v):=by
   have:=hC.next (j+k) r n hb
   rw [hk (j+k) (by omega)] at this
   exact this
  have h2:=hC.down_to hkeep (k+1) r n v hb hm hv h1
  have h3:=hC.up_to j (B.bodies.length - j) r n v hb hm hv h2
  rw [show j+(B.bodies.length - j)=B.bodies.length by omega] at h3
  exact hno h3
 have hcnt:∀ j,j≤B.bodies.length+1→j≤((List.range B.bodies.length).filter (doneB B (Fk j))).length:=by
  intro j
  induction j with
  | zero=>intro _;omega
  | succ j ih =>
   intro hj
   have h1:=ih (by omega)
   have h2:=grow_of (hC.up j) (hstep j (by omega))
   omega
 have h1:=hcnt (B.bodies.length+1) (Nat.le_refl _)
 have h2:=List.length_filter_le (doneB B (Fk (B.bodies.length+1))) (List.range B.bodies.length)
 rw [List.length_range] at h2
 omega
end
theorem iter_wf (B:Bk):∀ k,B.iter k=B.wf (B.iter k).firsts
 | 0=>rfl
 | k+1=>by
  obtain ⟨h1,h2,h3,h4⟩:=B.iter_rest (k+1)
  cases h:B.iter (k+1) with
  | mk a b c d e =>
   rw [h] at h1 h2 h3 h4
   dsimp only at h1 h2 h3 h4
   rw [h1,h2,h3,h4]
   rfl
theorem chain_of {B:Bk} (hlp:∀ n∈B.bodies,n.lp) (hst:∀ f∈B.firsts,f=⟨-1,[]⟩) (hlen:B.firsts.length=B.bodies.length):Chain B fun k=>(B.iter k).firsts:=by
 have hnext:∀ (k r:Nat) (n:Nd),B.bodies[r]? = some n→((B.iter (k+1)).firsts)[r]? = some ((B.wf (B.iter k).firsts).firstN n):=by
  intro k r n h
  show ((B.iter k).bodies.map fun n=>(B.iter k).firstN n)[r]? = _
  rw [List.getElem?_map,(B.iter_rest k).2.2.2,h,← iter_wf]
  rfl
 refine ⟨fun k=>?_,hnext,fun r f hf=>?_,hlp⟩
 ·induction k with
  | zero =>
   refine ⟨hlen,fun r f hf=>?_⟩
   have:=hst f (List.mem_of_getElem? hf)
   subst this
   exact ⟨ok_none,fun _ _ h=>absurd rfl h⟩
  | succ k ih =>
   have hl:=B.iter_len hlen (k+1)
   refine ⟨hl,fun r f hf=>?_⟩
   have hr:r < B.bodies.length:=by rw [← hl];exact (List.getElem?_eq_some_iff.1 hf).1
   have hn:=hnext k r _ (List.getElem?_eq_getElem hr)
   have e:f=(B.wf (B.iter k).firsts).firstN B.bodies[r]:=Option.some.inj (hf.symm.trans hn)
   subst e
   refine ⟨Bk.firstN_ok (B:=B.wf (B.iter k).firsts) ih.ok _,fun n hb h1 h2=>?_⟩
   rw [List.getElem?_eq_getElem hr] at hb
   cases hb
   exact firstN_sound ih _ (hlp _ (List.getElem_mem hr)) h1 h2
 ·rw [hst f (List.mem_of_getElem? hf)]
end Go.Proofs.YtppjmdanckdobaaGreatDoor

/- SamplesWhole,plain: what All,Has,Least and Long tell of a grammar in which nothing is wrong. -/
namespace Go.Proofs.YtppjmdanckdobaaGreatDoor
section
variable {B:Bk} {F:List Fst}
mutual
theorem lg_wf:∀ {n:Nd} {u:List Int},Lg B n u→Lg (B.wf F) n u
 | _,_,.tok h=>.tok h
 | _,_,.ref h hd=>.ref h (lg_wf hd)
 | _,_,.seq h=>.seq (lgL_wf h)
 | _,_,.alt hx h=>.alt hx (lg_wf h)
 | _,_,.opt0=>.opt0
 | _,_,.opt h=>.opt (lg_wf h)
 | _,_,.star0=>.star0
 | _,_,.star h=>.star (lgP_wf h)
 | _,_,.plus h=>.plus (lgP_wf h)
 | _,_,.other hk=>.other hk
theorem lgL_wf:∀ {l:List Nd} {u:List Int},LgL B l u→LgL (B.wf F) l u
 | _,_,.nil=>.nil
 | _,_,.cons h hr=>.cons (lg_wf h) (lgL_wf hr)
theorem lgP_wf:∀ {n:Nd} {u:List Int},LgP B n u→LgP (B.wf F) n u
 | _,_,.one h=>.one (lg_wf h)
 | _,_,.more h hr=>.more (lgP_wf h) (lg_wf hr)
end
theorem lg_wf_iff {n:Nd} {u:List Int}:Lg (B.wf F) n u↔Lg B n u:=⟨fun h=>lg_wf (B:=B.wf F) (F:=B.firsts) h,lg_wf⟩
end
theorem kindsTo_rise (g:Gr) (T:List Int):∀ j,(∀ x∈kindsTo g T j,0≤x∧x < (j:Int))∧(kindsTo g T j).Pairwise (· < ·)
 | 0=>⟨by simp [kindsTo],by simp [kindsTo]⟩
 | j+1=>by
  obtain ⟨h1,h2⟩:=kindsTo_rise g T j
  rw [kindsTo]
  split
  ·refine ⟨fun x hx=>?_,?_⟩
   ·rcases List.mem_append.1 hx with hx | hx
    ·have:=h1 x hx;omega
    ·rw [List.mem_singleton.1 hx];omega
   ·rw [List.pairwise_append]
    exact ⟨h2,by simp,fun a ha b hb=>by rw [List.mem_singleton.1 hb];exact (h1 a ha).2⟩
  ·exact ⟨fun x hx=>by have:=h1 x hx;omega,h2⟩
theorem kindsTo_has {g:Gr} {T:List Int}:∀ {j q:Nat},q < j→(g.rAt (T.getD q 0)).sort=1→(q:Int)∈kindsTo g T j
 | 0,q,h,_=>absurd h (by omega)
 | j+1,q,h,hs=>by
  rw [kindsTo]
  by_cases e:q=j
  ·subst e
   rw [if_pos hs]
   simp
  ·have:=kindsTo_has (j:=j) (q:=q) (by omega) hs
   split
   ·exact List.mem_append_left _ this
   ·exact this
theorem of_hasS {g:Gr} {S:List Int} {k:Nat} (hk:k < g.rules.length) (hs:(S.any fun y=>g.rules[k].sort == y)=true):∃ q,q < (g.of S).length∧(g.of S)[q]? = some (k:Int):=by
 have hmem:∀ m,k < m→m≤g.rules.length→(k:Int)∈g.ofTo S m:=by
  intro m
  induction m with
  | zero=>intro h;omega
  | succ m ih =>
   intro hm hl
   rw [Gr.ofTo]
   by_cases e:k=m
   ·subst e
    rw [if_pos (by rw [Gr.isAt_get hk];exact hs)]
    simp
   ·have:=ih (by omega) (by omega)
    split
    ·exact List.mem_append_left _ this
    ·exact this
 obtain ⟨q,hq⟩:=List.getElem?_of_mem (hmem g.rules.length hk (Nat.le_refl _))
 exact ⟨q,(List.getElem?_eq_some_iff.1 hq).1,hq⟩
theorem tok_ix {g:Gr} (hn:g.Names) {q k:Nat} (hk:k < g.rules.length) (hq:(g.of [1,3])[q]? = some (k:Int)):(bookOf g).tok g.rules[k].name=q:=by
 unfold Bk.tok bookOf
 rw [(Bk.iter_rest _ _).2.1]
 show (lookS (nmsTo g (g.of [1,3]) (g.of [1,3]).length) g.rules[k].name).getD 0=q
 have hql:=(List.getElem?_eq_some_iff.1 hq).1
 have hmem:=nmsTo_has (g:=g) (T:=g.of [1,3]) hql
 rw [List.getD_eq_getElem?_getD,hq,Option.getD_some,Gr.rAt_nat g hk] at hmem
 obtain ⟨p,hp⟩:=lookS_some hmem rfl
 rw [hp,Option.getD_some]
 obtain ⟨x,hx,hx1,rfl⟩:=lookS_mem hp
 obtain ⟨h1,h2⟩:=nmsTo_mem hx
 have h3:(g.of [1,3])[x.2]? = some ((g.of [1,3])[x.2]'h1):=List.getElem?_eq_getElem _
 obtain ⟨m,hm,hme,-⟩:=of_get h3
 rw [hme] at h3
 rw [List.getD_eq_getElem?_getD,h3,Option.getD_some,Gr.rAt_nat g hm] at h2
 have e:=hn m k hm hk (h2.symm.trans hx1)
 subst e
 rcases Nat.lt_trichotomy x.2 q with h | h | h
 ·have:=of_rise g _ h h3 hq;omega
 ·exact h
 ·have:=of_rise g _ h hq h3;omega
theorem bookOf_kinds (g:Gr):(bookOf g).kinds=kindsTo g (g.of [1,3]) (g.of [1,3]).length:=by
 unfold bookOf
 rw [(Bk.iter_rest _ _).2.2.1]
 rfl
theorem book_toks {g:Gr} {es:List Bool} {rch rnd:Nat→Nat→Bool} (ht:g.told es rch rnd=[]) (hn:g.Names):∀ n∈(bookOf g).bodies,TokIn (bookOf g) n:=by
 intro n hnm m hm h6k
 have hb:=bookOf_bodies g
 obtain ⟨r,hr⟩:=List.getElem?_of_mem hnm
 rw [hb] at hr
 have hr':r < (g.of [0]).length:=by have:=(List.getElem?_eq_some_iff.1 hr).1;rw [bodsTo_len] at this;exact this
 obtain ⟨hi,h1,-⟩:=ix_get hr'
 obtain ⟨hi2,h2⟩:=rAt_ix hr'
 rw [bodsTo_at hr',h2] at hr
 have h2:=Option.some.inj hr
 have hq:=(told_quiet ht).1 _ hi
 have hmb:m∈g.rules[g.ix r].body.all:=by rw [h2];exact hm
 have hname:m.isName=true:=by unfold Nd.isName;rw [h6k];rfl
 have h6:=hq.none_ m hmb
 have h7:=hq.sorts m hmb
 unfold Gr.noneBad at h6
 unfold Gr.sortBad at h7
 rw [hname] at h6 h7
 have h0:¬ g.find m.name < 0:=by simpa using h6
 have h8:decide (0≤g.find m.name)=true:=decide_eq_true (by omega)
 rw [h8] at h7
 have h9:sortedB g.rules[g.ix r] m (g.sortAt (g.find m.name))=true:=by simpa using h7
 unfold sortedB at h9
 rw [h6k] at h9
 have hpar:g.rules[g.ix r].parser=true:=by unfold Rl.parser;rw [h1];rfl
 rw [hpar] at h9
 have h10:g.sortAt (g.find m.name)=1:=by simpa using h9
 rcases ixOf_cases g.rules (fun r=>sameB r.name m.name) with ⟨hf,-⟩ | ⟨k,hk,hf,hsame,-⟩
 ·unfold Gr.find at h0
  omega
 ·have hf':g.find m.name=(k:Int):=hf
  rw [hf',sortAt_nat g k hk] at h10
  obtain ⟨q,hq1,hq2⟩:=of_hasS (g:=g) (S:=[1,3]) hk (by simp [h10])
  have hnm2:m.name=g.rules[k].name:=(toList_eq ((sameB_iff _ _).1 hsame)).symm
  rw [hnm2,tok_ix hn hk hq2,bookOf_kinds]
  refine kindsTo_has hq1 ?_
  rw [List.getD_eq_getElem?_getD,hq2,Option.getD_some,Gr.rAt_nat g hk]
  exact h10
end Go.Proofs.YtppjmdanckdobaaGreatDoor

/- What may come behind a list,plain: which nodes derive anything;which tokens are met at the list's end. -/
namespace Go.Proofs.YtppjmdanckdobaaGreatDoor
open Go.RowKit
section
variable {B:Bk} {w:List Int}
mutual
theorem lg_clean:∀ {n:Nd} {u:List Int},Lg B n u→∃ v,v.length=u.length∧Lg B n v∧∀ x∈v,0≤x
 | .mk _ nm _ _ _,_,.tok _=>⟨[(B.tok nm:Int)],rfl,.tok (.inl rfl),fun x hx=>by rw [List.mem_singleton.1 hx];omega⟩
 | _,_,.ref h hd=>by
  obtain ⟨v,h1,h2,h3⟩:=lg_clean hd
  exact ⟨v,h1,.ref h h2,h3⟩
 | _,_,.seq h=>by
  obtain ⟨v,h1,h2,h3⟩:=lgL_clean h
  exact ⟨v,h1,.seq h2,h3⟩
 | _,_,.alt hx h=>by
  obtain ⟨v,h1,h2,h3⟩:=lg_clean h
  exact ⟨v,h1,.alt hx h2,h3⟩
 | _,_,.opt0=>⟨[],rfl,.opt0,by simp⟩
 | _,_,.opt h=>by
  obtain ⟨v,h1,h2,h3⟩:=lg_clean h
  exact ⟨v,h1,.opt h2,h3⟩
 | _,_,.star0=>⟨[],rfl,.star0,by simp⟩
 | _,_,.star h=>by
  obtain ⟨v,h1,h2,h3⟩:=lgP_clean h
  exact ⟨v,h1,.star h2,h3⟩
 | _,_,.plus h=>by
  obtain ⟨v,h1,h2,h3⟩:=lgP_clean h
  exact ⟨v,h1,.plus h2,h3⟩
 | _,_,.other hk=>⟨[],rfl,.other hk,by simp⟩
theorem lgL_clean:∀ {l:List Nd} {u:List Int},LgL B l u→∃ v,v.length=u.length∧LgL B l v∧∀ x∈v,0≤x
 | _,_,.nil=>⟨[],rfl,.nil,by simp⟩
 | _,_,.cons h hr=>by
  obtain ⟨v,h1,h2,h3⟩:=lg_clean h
  obtain ⟨v',k1,k2,k3⟩:=lgL_clean hr
  exact ⟨v++v',by rw [List.length_append,List.length_append,h1,k1],.cons h2 k2,fun x hx=>(List.mem_append.1 hx).elim (h3 x) (k3 x)⟩
theorem lgP_clean:∀ {n:Nd} {u:List Int},LgP B n u→∃ v,v.length=u.length∧LgP B n v∧∀ x∈v,0≤x
 | _,_,.one h=>by
  obtain ⟨v,h1,h2,h3⟩:=lg_clean h
  exact ⟨v,h1,.one h2,h3⟩
 | _,_,.more h hr=>by
  obtain ⟨v,h1,h2,h3⟩:=lgP_clean h
  obtain ⟨v',k1,k2,k3⟩:=lg_clean hr
  exact ⟨v++v',by rw [List.length_append,List.length_append,h1,k1],.more h2 k2,fun x hx=>(List.mem_append.1 hx).elim (h3 x) (k3 x)⟩
end
mutual
theorem lg_pos:∀ {n:Nd} {u:List Int},Lg B n u→∀ x∈u,x = -2∨0≤x
 | _,_,.tok h=>fun x hx=>by rw [List.mem_singleton.1 hx];omega
 | _,_,.ref _ hd=>lg_pos hd
 | _,_,.seq h=>lgL_pos h
 | _,_,.alt _ h=>lg_pos h
 | _,_,.opt0=>fun x hx=>by cases hx
 | _,_,.opt h=>lg_pos h
 | _,_,.star0=>fun x hx=>by cases hx
 | _,_,.star h=>lgP_pos h
 | _,_,.plus h=>lgP_pos h
 | _,_,.other _=>fun x hx=>by cases hx
theorem lgL_pos:∀ {l:List Nd} {u:List Int},LgL B l u→∀ x∈u,x = -2∨0≤x
 | _,_,.nil=>fun x hx=>by cases hx
 | _,_,.cons h hr=>fun x hx=>(List.mem_append.1 hx).elim (lg_pos h x) (lgL_pos hr x)
theorem lgP_pos:∀ {n:Nd} {u:List Int},LgP B n u→∀ x∈u,x = -2∨0≤x
 | _,_,.one h=>lg_pos h
 | _,_,.more h hr=>fun x hx=>(List.mem_append.1 hx).elim (lgP_pos h x) (lg_pos hr x)
end
theorem nat_least {P:Nat→Prop} (h:∃ k,P k):∃ k,P k∧∀ i,i < k→¬ P i:=by
 obtain ⟨k,hk⟩:=h
 induction k using Nat.strongRecOn with
 | _ k ih =>
  by_cases hc:∃ i,i < k∧P i
  ·obtain ⟨i,h1,h2⟩:=hc
   exact ih i h1 h2
  ·exact ⟨k,hk,fun i hi hp=>hc ⟨i,hi,hp⟩⟩
theorem lex_least:∀ (m:Nat) (S:List Int→Prop),(∀ u,S u→∀ x∈u,0≤x)→(∃ u,S u∧u.length=m)→∃ v,S v∧v.length=m∧∀ u,S u→u.length=m→lexB u v=false
 | 0,S,_,⟨u,h,hl⟩=>⟨u,h,hl,fun v _ hv=>by rw [List.eq_nil_of_length_eq_zero hv];rfl⟩
 | m+1,S,hp,⟨u,h,hl⟩=>by
  obtain ⟨k,⟨u1,h1,h2⟩,hk⟩:=nat_least (P:=fun k=>∃ u,S ((k:Int)::u)∧u.length=m) (by
   cases u with
   | nil=>simp at hl
   | cons a u =>
    have:=hp _ h a (List.mem_cons_self ..)
    exact ⟨a.toNat,u,by rw [Int.toNat_of_nonneg this];exact h,by simpa using hl⟩)
  obtain ⟨v,v1,v2,v3⟩:=lex_least m (fun u=>S ((k:Int)::u)) (fun u hu x hx=>hp _ hu x (List.mem_cons_of_mem _ hx)) ⟨u1,h1,h2⟩
  refine ⟨(k:Int)::v,v1,by simp [v2],fun u hu hlu=>?_⟩
  cases u with
  | nil=>rfl
  | cons a u =>
   have ha:=hp _ hu a (List.mem_cons_self ..)
   obtain ⟨b,rfl⟩:=Int.eq_ofNat_of_zero_le ha
   have hbk:¬ b < k:=fun hb=>hk b hb ⟨u,hu,by simpa using hlu⟩
   rw [lexB]
   by_cases e:(b:Int)=k
   ·rw [if_pos e]
    rw [e] at hu
    exact v3 u hu (by simpa using hlu)
   ·rw [if_neg e]
    exact decide_eq_false (by omega)
theorem exists_min {n:Nd} {u:List Int} (h:Lg B n u):∃ v,Min B n v∧v.length≤u.length:=by
 obtain ⟨u0,h0,h1,h2⟩:=lg_clean h
 have hpos:∀ u,Lc B n u→∀ x∈u,0≤x:=fun u hu x hx=>(lg_pos hu.1 x hx).elim (fun e=>absurd (e▸hx) hu.2) id
 have hc:Lc B n u0:=⟨h1,fun hx=>by have:=h2 _ hx;omega⟩
 obtain ⟨k,⟨u1,k1,k2⟩,k3⟩:=nat_least (P:=fun k=>∃ u,Lc B n u∧u.length=k) ⟨_,u0,hc,rfl⟩
 obtain ⟨v,v1,v2,v3⟩:=lex_least k (Lc B n) hpos ⟨u1,k1,k2⟩
 refine ⟨v,⟨v1,fun u hu=>?_⟩,?_⟩
 ·unfold slB
  by_cases e:u.length=v.length
  ·rw [if_pos e]
   exact v3 u hu (by omega)
  ·rw [if_neg e]
   exact decide_eq_false fun hl=>k3 u.length (by omega) ⟨u,hu,rfl⟩
 ·rcases Nat.lt_or_ge u.length v.length with hl | hl
  ·exact absurd ⟨u0,hc,rfl⟩ (k3 u0.length (by omega))
  ·exact hl
end
def Bk.longN (B:Bk) (r:Nat):Int:=((B.firsts[r]?).getD ⟨-1,[]⟩).long
def Bk.Lng (B:Bk):Prop:=∀ (w:List Int),w.length≤64→∀ (r:Nat) (n:Nd) (i j:Nat),B.bodies[r]? = some n→i≤w.length→Der B w n i j→0≤B.longN r
theorem book_lng {g:Gr} (hs:soundP g):(bookOf g).Lng:=by
 obtain ⟨B0,hB0⟩:∃ B0,book0 g (g.of [1,3]) (g.of [0])=B0:=⟨_,rfl⟩
 have hbook:bookOf g=B0.iter ((g.of [0]).length+1):=by unfold bookOf;rw [hB0]
 have hlen0:B0.bodies.length=(g.of [0]).length:=by rw [← hB0];exact bodsTo_len g _ _
 have hC:Chain B0 fun k=>(B0.iter k).firsts:=by
  refine chain_of ?_ ?_ ?_
  ·rw [← hB0];exact bods_lp hs
  ·intro f hf
   rw [← hB0] at hf
   exact (List.mem_replicate.1 (show f∈List.replicate (g.of [0]).length ⟨-1,[]⟩ from hf)).2
  ·rw [hlen0,← hB0];exact List.length_replicate
 have hbod:(bookOf g).bodies=B0.bodies:=by rw [hbook];exact (B0.iter_rest _).2.2.2
 have hwf:bookOf g=B0.wf (bookOf g).firsts:=by rw [hbook];exact iter_wf B0 _
 intro w hw r n i j hn hi hd
 have h1:=lg_of_der hd
 rw [hwf] at h1
 obtain ⟨v,hv,hvl⟩:=exists_min (lg_wf_iff.1 h1)
 have hl:((w.drop i).take (j - i)).length≤w.length:=by rw [List.length_take,List.length_drop];omega
 have h2:=hC.all (by rw [← hbod];exact hn) hv (by omega) 1
 have h3:(bookOf g).firsts[r]? = some (mkF v):=by rw [hbook,← hlen0];exact h2
 unfold Bk.longN
 rw [h3]
 show 0≤(v.length:Int)
 omega
mutual
def Bk.dv (B:Bk):Nd→Bool
 | .mk k nm _ _ subs=>if k=5 then decide (0≤B.longN (B.rule nm)) else if k=1 then B.dvAll subs else if k=0∨k=4 then B.dvAny subs else true
def Bk.dvAll (B:Bk):List Nd→Bool
 | []=>true
 | n::r=>B.dv n&&B.dvAll r
def Bk.dvAny (B:Bk):List Nd→Bool
 | []=>false
 | n::r=>B.dv n || B.dvAny r
end
theorem dvAll_eq (B:Bk):∀ l:List Nd,B.dvAll l=l.all B.dv
 | []=>rfl
 | n::r=>by rw [Bk.dvAll,dvAll_eq B r,List.all_cons]
theorem dvAny_eq (B:Bk):∀ l:List Nd,B.dvAny l=l.any B.dv
 | []=>rfl
 | n::r=>by rw [Bk.dvAny,dvAny_eq B r,List.any_cons]
section
variable {B:Bk} {w:List Int}
mutual
theorem dv_of_der (hB:B.Lng) (hw:w.length≤64):∀ {n:Nd} {i j:Nat},Der B w n i j→i≤w.length→B.dv n=true
 | _,_,_,.tok _,_=>by rw [Bk.dv];rfl
 | _,_,_,.ref h hd,hi=>by
  rw [Bk.dv,if_pos rfl]
  exact decide_eq_true (hB w hw _ _ _ _ h hi hd)
 | _,_,_,.seq h,hi=>by
  rw [Bk.dv,if_neg (by omega),if_pos rfl]
  exact dvL_of_der hB hw h hi
 | _,_,_,.alt hx h,hi=>by
  rw [Bk.dv,if_neg (by omega),if_neg (by omega),if_pos (.inl rfl),dvAny_eq,List.any_eq_true]
  exact ⟨_,hx,dv_of_der hB hw h hi⟩
 | _,_,_,.opt0,_=>by rw [Bk.dv];rfl
 | _,_,_,.opt _,_=>by rw [Bk.dv];rfl
 | _,_,_,.star0,_=>by rw [Bk.dv];rfl
 | _,_,_,.star _,_=>by rw [Bk.dv];rfl
 | _,_,_,.plus h,hi=>by
  rw [Bk.dv,if_neg (by omega),if_neg (by omega),if_pos (.inr rfl),dvAny_eq,List.any_eq_true]
  exact ⟨_,List.mem_cons_self ..,dvP_of_der hB hw h hi⟩
 | _,_,_,.other hk,_=>by rw [Bk.dv,if_neg (by omega),if_neg (by omega),if_neg (by omega)]
theorem dvL_of_der (hB:B.Lng) (hw:w.length≤64):∀ {l:List Nd} {i j:Nat},DerL B w l i j→i≤w.length→B.dvAll l=true
 | _,_,_,.nil,_=>by rw [Bk.dvAll]
 | _,_,_,.cons h hr,hi=>by rw [Bk.dvAll,dv_of_der hB hw h hi,dvL_of_der hB hw hr (h.le.2 hi)];rfl
theorem dvP_of_der (hB:B.Lng) (hw:w.length≤64):∀ {n:Nd} {i j:Nat},DerP B w n i j→i≤w.length→B.dv n=true
 | _,_,_,.one h,hi=>dv_of_der hB hw h hi
 | _,_,_,.more h _,hi=>dvP_of_der hB hw h hi
end
mutual
inductive Nx (B:Bk) (w:List Int):Nd→Nat→Nat→Prop
 | tok {nm tx:ByteArray} {set:List (Int × Int)} {subs:List Nd} {i:Nat} (h:i=w.length):Nx B w (.mk 6 nm tx set subs) i (B.tok nm)
 | ref {nm tx:ByteArray} {set:List (Int × Int)} {subs:List Nd} {i t:Nat} {n:Nd} (hg:B.dv (.mk 5 nm tx set subs)=true) (h:B.bodies[B.rule nm]? = some n) (hd:Nx B w n i t):Nx B w (.mk 5 nm tx set subs) i t
 | seq {nm tx:ByteArray} {set:List (Int × Int)} {subs:List Nd} {i t:Nat} (hg:B.dv (.mk 1 nm tx set subs)=true) (h:NxL B w subs i t):Nx B w (.mk 1 nm tx set subs) i t
 | alt {nm tx:ByteArray} {set:List (Int × Int)} {subs:List Nd} {i t:Nat} {x:Nd} (hx:x∈subs) (h:Nx B w x i t):Nx B w (.mk 0 nm tx set subs) i t
 | loop {k:Int} {nm tx:ByteArray} {set:List (Int × Int)} {x:Nd} {l:List Nd} {i t:Nat} (hk:k=2∨k=3∨k=4) (hg:B.dv (.mk k nm tx set (x::l))=true) (h:Nx B w x i t):Nx B w (.mk k nm tx set (x::l)) i t
 | again {k:Int} {nm tx:ByteArray} {set:List (Int × Int)} {x:Nd} {l:List Nd} {i j t:Nat} (hk:k=3∨k=4) (hd:DerP B w x i j) (h:Nx B w x j t):Nx B w (.mk k nm tx set (x::l)) i t
inductive NxL (B:Bk) (w:List Int):List Nd→Nat→Nat→Prop
 | here {x:Nd} {l:List Nd} {i t:Nat} (h:Nx B w x i t):NxL B w (x::l) i t
 | next {x:Nd} {l:List Nd} {i j t:Nat} (hd:Der B w x i j) (h:NxL B w l j t):NxL B w (x::l) i t
end
end
end Go.Proofs.YtppjmdanckdobaaGreatDoor
