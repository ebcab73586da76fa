/- The book of a grammar, plain. -/
import Derived.Test.YtppjmdanckdobaaGreatDoorQR13
import Derived.Test.YtppjmdanckdobaaGreatDoorQR25
import Derived.Test.YtppjmdanckdobaaGreatDoorQR10
namespace Go.Proofs.YtppjmdanckdobaaGreatDoor
open Go.RowKit
def Gr.rAt (g:Gr) (x:Int):Rl:=(g.rules[x.toNat]?).getD ⟨⟨#[]⟩,0,.mk 0 ⟨#[]⟩ ⟨#[]⟩ [] [],0,0,0⟩
theorem Gr.rAt_nat (g:Gr) {k:Nat} (hk:k < g.rules.length):g.rAt (k:Int)=g.rules[k]:=by
 unfold Gr.rAt
 rw [Int.toNat_natCast,List.getElem?_eq_getElem hk]
 rfl
def nmsTo (g:Gr) (T:List Int):Nat→List (ByteArray × Nat)
 | 0=>[]
 | j+1=>nmsTo g T j++[((g.rAt (T.getD j 0)).name,j)]
def kindsTo (g:Gr) (T:List Int):Nat→List Int
 | 0=>[]
 | j+1=>if (g.rAt (T.getD j 0)).sort=1 then kindsTo g T j++[(j:Int)] else kindsTo g T j
def bodsTo (g:Gr) (P:List Int):Nat→List Nd
 | 0=>[]
 | j+1=>bodsTo g P j++[(g.rAt (P.getD j 0)).body]
theorem kindsTo_len (g:Gr) (T:List Int):∀ j,(kindsTo g T j).length≤j
 | 0=>Nat.le_refl _
 | j+1=>by
  have:=kindsTo_len g T j
  rw [kindsTo]
  split
  ·rw [List.length_append,List.length_singleton];omega
  ·omega
theorem bodsTo_len (g:Gr) (P:List Int):∀ j,(bodsTo g P j).length=j
 | 0=>rfl
 | j+1=>by rw [bodsTo,List.length_append,bodsTo_len g P j,List.length_singleton]
theorem nmsTo_mem {g:Gr} {T:List Int}:∀ {j:Nat} {x:ByteArray × Nat},x∈nmsTo g T j→x.2 < j∧x.1=(g.rAt (T.getD x.2 0)).name
 | 0,x,h=>by simp [nmsTo] at h
 | j+1,x,h=>by
  rw [nmsTo] at h
  rcases List.mem_append.1 h with h | h
  ·have:=nmsTo_mem h
   exact ⟨by omega,this.2⟩
  ·rw [List.mem_singleton.1 h]
   exact ⟨by simp,rfl⟩
theorem bodsTo_at {g:Gr} {P:List Int}:∀ {j k:Nat},k < j→(bodsTo g P j)[k]? = some (g.rAt (P.getD k 0)).body
 | 0,k,h=>absurd h (by omega)
 | j+1,k,h=>by
  rw [bodsTo]
  by_cases e:k < j
  ·rw [List.getElem?_append_left (by rw [bodsTo_len];exact e)]
   exact bodsTo_at e
  ·have:k=j:=by omega
   subst this
   rw [List.getElem?_append_right (by rw [bodsTo_len];exact Nat.le_refl _),bodsTo_len,Nat.sub_self]
   rfl
theorem ba_eqS {a b:ByteArray} (h:(a == b)=true):a=b:=by
 cases a;cases b
 have h2:ByteArray.beq _ _=true:=h
 unfold ByteArray.beq at h2
 simp at h2
 rw [h2]
theorem lookS_mem:∀ {l:List (ByteArray × Nat)} {nm:ByteArray} {k:Nat},lookS l nm=some k→∃ x∈l,x.1=nm∧x.2=k
 | [],nm,k,h=>by cases h
 | x::r,nm,k,h=>by
  rw [lookS] at h
  split at h
  ·rename_i hc
   exact ⟨x,by simp,(ba_eqS hc).symm,Option.some.inj h⟩
  ·obtain ⟨y,hy,h2⟩:=lookS_mem h
   exact ⟨y,List.mem_cons_of_mem _ hy,h2⟩
theorem lookS_none:∀ {l:List (ByteArray × Nat)} {nm:ByteArray},(∀ x∈l,x.1≠nm)→lookS l nm=none
 | [],_,_=>rfl
 | x::r,nm,h=>by
  rw [lookS,if_neg (fun e=>h x (by simp) (ba_eqS e).symm)]
  exact lookS_none fun y hy=>h y (List.mem_cons_of_mem _ hy)
theorem ofTo_rise (g:Gr) (S:List Int):∀ j,(∀ x∈g.ofTo S j,x < (j:Int))∧(g.ofTo S j).Pairwise (· < ·)
 | 0=>⟨by simp [Gr.ofTo],by simp [Gr.ofTo]⟩
 | j+1=>by
  obtain ⟨h1,h2⟩:=ofTo_rise g S j
  rw [Gr.ofTo]
  split
  ·refine ⟨fun x hx=>?_,?_⟩
   ·rcases List.mem_append.1 hx with hx | hx
    ·have:=h1 x hx;omega
    ·rw [List.mem_singleton.1 hx];omega
   ·rw [List.pairwise_append]
    exact ⟨h2,by simp,fun a ha b hb=>by rw [List.mem_singleton.1 hb];exact h1 a ha⟩
  ·exact ⟨fun x hx=>by have:=h1 x hx;omega,h2⟩
theorem of_rise (g:Gr) (S:List Int) {a b:Nat} (hab:a < b) {x y:Int} (hx:(g.of S)[a]? = some x) (hy:(g.of S)[b]? = some y):x < y:=by
 obtain ⟨ha,rfl⟩:=List.getElem?_eq_some_iff.1 hx
 obtain ⟨hb,rfl⟩:=List.getElem?_eq_some_iff.1 hy
 exact (List.pairwise_iff_getElem.1 (ofTo_rise g S g.rules.length).2) a b ha hb hab
theorem of_get {g:Gr} {S:List Int} {j:Nat} {x:Int} (h:(g.of S)[j]? = some x):∃ k,∃ hk:k < g.rules.length,x=(k:Int)∧(S.any fun y=>g.rules[k].sort == y)=true:=by
 obtain ⟨i,hi,-,h1,h2⟩:=Gr.ofTo_mem g S g.rules.length x (List.mem_of_getElem? h)
 exact ⟨i,hi,h1,h2⟩
def Gr.Names (g:Gr):Prop:=∀ i j (hi:i < g.rules.length) (hj:j < g.rules.length),g.rules[i].name=g.rules[j].name→i=j
theorem nms_new {g:Gr} (hn:g.Names) {S:List Int} {j k:Nat} (hj:(g.of S)[j]? = some (k:Int)) (hk:k < g.rules.length):lookS (nmsTo g (g.of S) j) g.rules[k].name=none:=by
 refine lookS_none fun x hx e=>?_
 obtain ⟨h1,h2⟩:=nmsTo_mem hx
 have hjl:=(List.getElem?_eq_some_iff.1 hj).1
 have h3:(g.of S)[x.2]? = some ((g.of S)[x.2]'(by omega)):=List.getElem?_eq_getElem _
 have h4:=of_rise g S h1 h3 hj
 obtain ⟨m,hm,hme,-⟩:=of_get h3
 rw [hme] at h4 h3
 rw [List.getD_eq_getElem?_getD,h3,Option.getD_some,Gr.rAt_nat g hm] at h2
 have:=hn m k hm hk (h2.symm.trans e)
 omega
def Gr.Fine (g:Gr):Prop:=∃ es M N,g.IsEmpty es∧IsReach (g.Once es) g.rules.length M∧IsReach g.rd0 g.rules.length N∧g.told es (at2 M) (at2 N)=[]
theorem told_quiet {g:Gr} {es:List Bool} {rch rnd:Nat→Nat→Bool} (h:g.told es rch rnd=[]):(∀ i (h:i < g.rules.length),Quiet g es rch rnd i g.rules[i])∧0≤g.start:=by
 unfold Gr.told at h
 rw [List.append_eq_nil_iff] at h
 refine ⟨fun i hi=>?_,?_⟩
 ·have:=rulesTold_at g.rules 0 h.1 i hi
  rw [Nat.zero_add] at this
  exact quiet_of this
 ·rcases Int.lt_or_le g.start 0 with h1 | h1
  ·rw [if_pos h1] at h
   cases h.2
  ·exact h1
theorem Gr.Fine.names {g:Gr} (h:g.Fine):g.Names:=by
 obtain ⟨es,M,N,-,-,-,ht⟩:=h
 intro i j hi hj e
 have h1:=fine_find hi ((told_quiet ht).1 i hi)
 have h2:=fine_find hj ((told_quiet ht).1 j hj)
 rw [e,h2] at h1
 omega
theorem Gr.Fine.start {g:Gr} (h:g.Fine):0 < (g.of [0]).length:=by
 obtain ⟨es,M,N,-,-,-,ht⟩:=h
 have h0:=(told_quiet ht).2
 unfold Gr.start at h0
 rcases ixOf_cases g.rules (fun r=>r.parser) with ⟨h1,-⟩ | ⟨j,hj,h1,h2,-⟩
 ·omega
 ·have hmem:∀ m,j < m→m≤g.rules.length→(j:Int)∈g.ofTo [0] m:=by
   intro m
   induction m with
   | zero=>intro h;omega
   | succ m ih =>
    intro hm hl
    rw [Gr.ofTo]
    by_cases e:j=m
    ·subst e
     rw [if_pos (by rw [Gr.isAt_get hj];unfold Rl.parser at h2;simp only [List.any_cons,List.any_nil,Bool.or_false];exact h2)]
     simp
    ·have:=ih (by omega) (by omega)
     split
     ·exact List.mem_append_left _ this
     ·exact this
  exact List.length_pos_of_mem (hmem g.rules.length hj (Nat.le_refl _))
def book0 (g:Gr) (T P:List Int):Bk:=⟨nmsTo g P P.length,nmsTo g T T.length,kindsTo g T T.length,bodsTo g P P.length,List.replicate P.length ⟨-1,[]⟩⟩
def Bk.step (B:Bk):Bk:={ B with firsts:=B.bodies.map fun n=>B.firstN n }
def Bk.iter (B:Bk):Nat→Bk
 | 0=>B
 | k+1=>(B.iter k).step
theorem Bk.iter_rest (B:Bk):∀ k,(B.iter k).rules=B.rules∧(B.iter k).tokens=B.tokens∧(B.iter k).kinds=B.kinds∧(B.iter k).bodies=B.bodies
 | 0=>⟨rfl,rfl,rfl,rfl⟩
 | k+1=>B.iter_rest k
theorem Bk.iter_len (B:Bk) (h:B.firsts.length=B.bodies.length):∀ k,(B.iter k).firsts.length=B.bodies.length
 | 0=>h
 | k+1=>by
  show ((B.iter k).bodies.map _).length=_
  rw [List.length_map,(B.iter_rest k).2.2.2]
theorem Bk.iter_ok (B:Bk) (h:∀ f∈B.firsts,f.Ok):∀ k,∀ f∈(B.iter k).firsts,f.Ok
 | 0=>h
 | k+1=>fun f hf=>by
  obtain ⟨n,-,rfl⟩:=List.mem_map.1 (show f∈(B.iter k).bodies.map fun n=>(B.iter k).firstN n from hf)
  exact Bk.firstN_ok (B.iter_ok h k) n
def bookOf (g:Gr):Bk:=(book0 g (g.of [1,3]) (g.of [0])).iter ((g.of [0]).length+1)
theorem book0_ok (g:Gr) (T P:List Int):∀ f∈(book0 g T P).firsts,f.Ok:=fun f hf=>by
 rw [(List.mem_replicate.1 (show f∈List.replicate P.length ⟨-1,[]⟩ from hf)).2]
 exact ok_none
theorem book0_rule (g:Gr) (T P:List Int) (hp:0 < P.length) (k:Nat) (nm:ByteArray):((book0 g T P).iter k).rule nm < ((book0 g T P).iter k).firsts.length:=by
 rw [Bk.iter_len _ (by show (List.replicate P.length _).length=(bodsTo g P P.length).length;rw [List.length_replicate,bodsTo_len])]
 show _ < (bodsTo g P P.length).length
 rw [bodsTo_len]
 unfold Bk.rule
 rw [((book0 g T P).iter_rest k).1]
 cases h:lookS (book0 g T P).rules nm with
 | none=>exact hp
 | some q =>
  obtain ⟨x,hx,-,rfl⟩:=lookS_mem h
  exact (nmsTo_mem hx).1
mutual
theorem lp_of_plain (token:Bool):∀ (n:Nd) (d:Int),(∀ p∈n.alld d,plainN token p.2=true)→n.lp
 | .mk k nm tx set subs,d,h=>by
  rw [Nd.alld] at h
  rw [Nd.lp]
  refine ⟨fun hk he=>?_,lpL_of_plain token subs _ fun p hp=>h p (List.mem_cons_of_mem _ hp)⟩
  have h1:=h _ (List.mem_cons_self ..)
  unfold plainN plainX plainK at h1
  rw [Bool.and_eq_true] at h1
  have h2:=h1.2
  have hk':(Nd.mk k nm tx set subs).kind=k:=rfl
  have hs:(Nd.mk k nm tx set subs).subs=subs:=rfl
  simp only [hk',hs] at h2
  rw [if_neg (by omega),if_neg (by omega),if_pos hk,he] at h2
  simp at h2
theorem lpL_of_plain (token:Bool):∀ (l:List Nd) (d:Int),(∀ p∈Nd.alldL d l,plainN token p.2=true)→Nd.lpL l
 | [],_,_=>by rw [Nd.lpL];trivial
 | n::r,d,h=>by
  rw [Nd.alldL] at h
  rw [Nd.lpL]
  exact ⟨lp_of_plain token n d fun p hp=>h p (List.mem_append_left _ hp),lpL_of_plain token r d fun p hp=>h p (List.mem_append_right _ hp)⟩
end
theorem sound_lp {g:Gr} (h:soundP g) {i:Nat} (hi:i < g.rules.length):g.rules[i].body.lp:=by
 obtain ⟨-,-,-,h4⟩:=h
 obtain ⟨-,-,h5⟩:=h4 i hi
 exact lp_of_plain _ _ 1 fun p hp=>(h5.2 p hp).2
theorem bods_lp {g:Gr} (h:soundP g):∀ n∈bodsTo g (g.of [0]) (g.of [0]).length,n.lp:=by
 intro n hn
 obtain ⟨k,hk⟩:=List.getElem?_of_mem hn
 have hkl:=(List.getElem?_eq_some_iff.1 hk).1
 rw [bodsTo_len] at hkl
 rw [bodsTo_at hkl] at hk
 have h3:(g.of [0])[k]? = some (g.of [0])[k]:=List.getElem?_eq_getElem hkl
 obtain ⟨m,hm,hme,-⟩:=of_get h3
 rw [hme] at h3
 rw [List.getD_eq_getElem?_getD,h3,Option.getD_some,Gr.rAt_nat g hm] at hk
 rw [← Option.some.inj hk]
 exact sound_lp h hm
end Go.Proofs.YtppjmdanckdobaaGreatDoor

/- A book of a grammar in which nothing is wrong: rules rank below those that ask for them where they stand. Plain. -/
namespace Go.Proofs.YtppjmdanckdobaaGreatDoor
open Go.RowKit
def Gr.ix (g:Gr) (r:Nat):Nat:=((g.of [0]).getD r 0).toNat
structure Nd.Lk (g:Gr) (B:Bk) (m:Nd):Prop where
 kind:0≤m.kind∧m.kind≤7
 name:m.kind=5→B.rule m.name < B.bodies.length∧g.named false m=(g.ix (B.rule m.name):Int)
structure Lnk (g:Gr) (B:Bk):Prop where
 bod:∀ r n,B.bodies[r]? = some n→∃ hi:g.ix r < g.rules.length,g.rules[g.ix r].body=n∧g.rules[g.ix r].token=false
 all:∀ n∈B.bodies,∀ m∈n.all,m.Lk g B
theorem mem_allL:∀ {l:List Nd} {x m:Nd},x∈l→m∈x.all→m∈Nd.allL l
 | y::r,x,m,hx,hm=>by
  rw [Nd.allL]
  rcases List.mem_cons.1 hx with rfl | hx
  ·exact List.mem_append_left _ hm
  ·exact List.mem_append_right _ (mem_allL hx hm)
section
variable {g:Gr} {es:List Bool} {B:Bk} {w:List Int}
def Nd.ok (g:Gr) (B:Bk) (n:Nd):Prop:=∀ m∈n.all,m.Lk g B
theorem Nd.ok.sub {k:Int} {nm tx:ByteArray} {set:List (Int × Int)} {subs:List Nd} (h:(Nd.mk k nm tx set subs).ok g B) {x:Nd} (hx:x∈subs):x.ok g B:=fun m hm=>h m (by rw [Nd.all];exact List.mem_cons_of_mem _ (mem_allL hx hm))
theorem Nd.ok.self {n:Nd} (h:n.ok g B):n.Lk g B:=h n (all_self n)
theorem mayAny_of {l:List Nd} {x:Nd} (hx:x∈l) (h:g.may es false x=true):g.mayAny es false l=true:=by
 rw [mayAny_eq,List.any_eq_true]
 exact ⟨x,hx,h⟩
mutual
theorem may_of_der (he:g.IsEmpty es) (hl:Lnk g B):∀ {n:Nd} {i j:Nat},Der B w n i j→i=j→n.ok g B→g.may es false n=true
 | _,_,_,.tok _,e,_=>by omega
 | .mk _ nm tx set subs,i,j,.ref h hd,e,ho=>by
  have h1:=may_of_der he hl hd e (hl.all _ (List.mem_of_getElem? h))
  obtain ⟨hi,h2,h3⟩:=hl.bod _ _ h
  have h4:=he.pre _ hi (by rw [h2,h3];exact h1)
  obtain ⟨-,h5⟩:=ho.self.name rfl
  rw [Gr.may]
  rw [show (Nd.mk 5 nm tx set subs).name=nm from rfl] at h5
  rw [h5,Int.toNat_natCast,h4]
  simp
 | .mk _ nm tx set subs,i,j,.seq h,e,ho=>by
  rw [Gr.may]
  simp only [beq_self_eq_true,if_true]
  exact mayAll_of_der he hl h e fun x hx=>ho.sub hx
 | .mk _ nm tx set subs,i,j,.alt hx h,e,ho=>by
  have h1:=may_of_der he hl h e (ho.sub hx)
  rw [Gr.may]
  simpa using mayAny_of hx h1
 | _,_,_,.opt0,_,_=>by rw [Gr.may];simp
 | _,_,_,.opt _,_,_=>by rw [Gr.may];simp
 | _,_,_,.star0,_,_=>by rw [Gr.may];simp
 | _,_,_,.star _,_,_=>by rw [Gr.may];simp
 | .mk _ nm tx set _,i,j,.plus h,e,ho=>by
  have h1:=may_of_derP he hl h e (ho.sub (List.mem_cons_self ..))
  rw [Gr.may]
  simpa using mayAny_of (List.mem_cons_self ..) h1
 | .mk k nm tx set subs,_,_,.other hk,_,ho=>by
  have h1:=ho.self.kind
  have h2:k=7:=by
   have:(Nd.mk k nm tx set subs).kind=k:=rfl
   omega
  subst h2
  rw [Gr.may]
  simp
theorem mayAll_of_der (he:g.IsEmpty es) (hl:Lnk g B):∀ {l:List Nd} {i j:Nat},DerL B w l i j→i=j→(∀ x∈l,x.ok g B)→g.mayAll es false l=true
 | _,_,_,.nil,_,_=>by rw [Gr.mayAll]
 | _,i,k,.cons h hr,e,ho=>by
  have h1:=h.le.1
  have h2:=hr.le.1
  rw [Gr.mayAll,may_of_der he hl h (by omega) (ho _ (List.mem_cons_self ..)),mayAll_of_der he hl hr (by omega) fun x hx=>ho x (List.mem_cons_of_mem _ hx)]
  rfl
theorem may_of_derP (he:g.IsEmpty es) (hl:Lnk g B):∀ {n:Nd} {i j:Nat},DerP B w n i j→i=j→n.ok g B→g.may es false n=true
 | _,_,_,.one h,e,ho=>may_of_der he hl h e ho
 | _,_,_,.more h hr,e,ho=>by
  have h1:=h.le.1
  have h2:=hr.le.1
  exact may_of_derP he hl h (by omega) ho
end
def LeD (l m:List Bool):Prop:=l.length=m.length∧∀ k:Nat,l.getD k false=true→m.getD k false=true
theorem LeD.refl (l:List Bool):LeD l l:=⟨rfl,fun _ h=>h⟩
theorem LeD.trans {a b c:List Bool} (h:LeD a b) (k:LeD b c):LeD a c:=⟨h.1.trans k.1,fun i hi=>k.2 i (h.2 i hi)⟩
mutual
theorem marks_le (g:Gr) (es:List Bool) (t:Bool):∀ (n:Nd) (l:List Bool),LeD l (g.marks es t n l)
 | .mk k nm tx set subs,l=>by
  rw [Gr.marks]
  split
  ·exact marksSeq_le g es t subs l
  split
  ·exact marksAll_le g es t subs l
  split
  ·split
   ·refine ⟨by rw [List.length_set],fun k hk=>?_⟩
    rw [getD_set]
    split
    ·rfl
    ·exact hk
   ·exact LeD.refl _
  ·exact LeD.refl _
theorem marksSeq_le (g:Gr) (es:List Bool) (t:Bool):∀ (ns:List Nd) (l:List Bool),LeD l (g.marksSeq es t ns l)
 | [],l=>by rw [Gr.marksSeq];exact LeD.refl _
 | n::r,l=>by
  rw [Gr.marksSeq]
  split
  ·exact (marks_le g es t n l).trans (marksSeq_le g es t r _)
  ·exact marks_le g es t n l
theorem marksAll_le (g:Gr) (es:List Bool) (t:Bool):∀ (ns:List Nd) (l:List Bool),LeD l (g.marksAll es t ns l)
 | [],l=>by rw [Gr.marksAll];exact LeD.refl _
 | n::r,l=>by
  rw [Gr.marksAll]
  exact (marks_le g es t n l).trans (marksAll_le g es t r _)
end
def Mk1 (g:Gr) (es:List Bool) (i:Nat) (n:Nd):Prop:=∀ l:List Bool,l.length=g.rules.length→(g.marks es false n l).getD i false=true
theorem marksAll_mem {i:Nat}:∀ {ns:List Nd} {x:Nd},x∈ns→Mk1 g es i x→∀ l:List Bool,l.length=g.rules.length→(g.marksAll es false ns l).getD i false=true
 | n::r,x,hx,hm,l,hl=>by
  rw [Gr.marksAll]
  rcases List.mem_cons.1 hx with rfl | hx
  ·exact (marksAll_le g es false r _).2 i (hm l hl)
  ·exact marksAll_mem hx hm _ ((marks_le g es false n l).1▸hl)
mutual
theorem mark_of_vis (he:g.IsEmpty es) (hl:Lnk g B):∀ {n:Nd} {a r a':Nat},Vis B w n a r a'→a'=a→n.ok g B→Mk1 g es (g.ix r) n
 | .mk _ nm tx set subs,a,_,_,.ref,_,ho=>fun l hll=>by
  obtain ⟨h1,h2⟩:=ho.self.name rfl
  rw [show (Nd.mk 5 nm tx set subs).name=nm from rfl] at h1 h2
  obtain ⟨hi,-,-⟩:=hl.bod _ _ (List.getElem?_eq_getElem h1)
  rw [Gr.marks]
  rw [h2,Int.toNat_natCast]
  simp only [show ((5:Int) == 1)=false from rfl,show ((5:Int) == 0)=false from rfl,show ((5:Int) == 2)=false from rfl,show ((5:Int) == 3)=false from rfl,show ((5:Int) == 4)=false from rfl,show ((5:Int) == 7)=false from rfl,show ((5:Int) == 5)=true from rfl,Bool.or_false,Bool.true_or,Bool.false_eq_true,if_false,if_true]
  rw [if_pos (by omega),List.getD_eq_getElem?_getD,List.getElem?_set_self (by omega)]
  rfl
 | .mk _ nm tx set subs,a,r,a',.seq h,e,ho=>fun l hll=>by
  rw [Gr.marks]
  simp only [beq_self_eq_true,if_true]
  exact markL_of_vis he hl h e (fun x hx=>ho.sub hx) l hll
 | .mk _ nm tx set subs,a,r,a',.alt hx h,e,ho=>fun l hll=>by
  have h1:=mark_of_vis he hl h e (ho.sub hx)
  rw [Gr.marks]
  simpa using marksAll_mem hx h1 l hll
 | .mk k nm tx set _,a,r,a',.loop hk h,e,ho=>fun l hll=>by
  have h1:=mark_of_vis he hl h e (ho.sub (List.mem_cons_self ..))
  rw [Gr.marks]
  rcases hk with rfl | rfl | rfl<;>simpa using marksAll_mem (List.mem_cons_self ..) h1 l hll
 | .mk k nm tx set _,a,r,a',.again hk hd h,e,ho=>fun l hll=>by
  have h2:=hd.le.1
  have h3:=h.le.1
  have h1:=mark_of_vis he hl h (by omega) (ho.sub (List.mem_cons_self ..))
  rw [Gr.marks]
  rcases hk with rfl | rfl<;>simpa using marksAll_mem (List.mem_cons_self ..) h1 l hll
theorem markL_of_vis (he:g.IsEmpty es) (hl:Lnk g B):∀ {ns:List Nd} {a r a':Nat},VisL B w ns a r a'→a'=a→(∀ x∈ns,x.ok g B)→∀ l:List Bool,l.length=g.rules.length→(g.marksSeq es false ns l).getD (g.ix r) false=true
 | x::ns,a,r,a',.here h,e,ho,l,hll=>by
  have h1:=mark_of_vis he hl h e (ho _ (List.mem_cons_self ..)) l hll
  rw [Gr.marksSeq]
  split
  ·exact (marksSeq_le g es false ns _).2 _ h1
  ·exact h1
 | x::ns,a,r,a',.next hd h,e,ho,l,hll=>by
  have h2:=hd.le.1
  have h3:=h.le.1
  rw [Gr.marksSeq,if_pos (may_of_der he hl hd (by omega) (ho _ (List.mem_cons_self ..)))]
  exact markL_of_vis he hl h (by omega) (fun x hx=>ho x (List.mem_cons_of_mem _ hx)) _ ((marks_le g es false x l).1▸hll)
end
mutual
theorem vis_in:∀ {n:Nd} {a r a':Nat},Vis B w n a r a'→n.ok g B→r < B.bodies.length
 | _,_,_,_,.ref,ho=>(ho.self.name rfl).1
 | _,_,_,_,.seq h,ho=>visL_in h fun _ hx=>ho.sub hx
 | _,_,_,_,.alt hx h,ho=>vis_in h (ho.sub hx)
 | _,_,_,_,.loop _ h,ho=>vis_in h (ho.sub (List.mem_cons_self ..))
 | _,_,_,_,.again _ _ h,ho=>vis_in h (ho.sub (List.mem_cons_self ..))
theorem visL_in:∀ {ns:List Nd} {a r a':Nat},VisL B w ns a r a'→(∀ x∈ns,x.ok g B)→r < B.bodies.length
 | _,_,_,_,.here h,ho=>vis_in h (ho _ (List.mem_cons_self ..))
 | _,_,_,_,.next _ h,ho=>visL_in h fun x hx=>ho x (List.mem_cons_of_mem _ hx)
end
end
theorem filter_less {α:Type} {p q:α→Bool}:∀ {l:List α} {x:α},(∀ k∈l,p k=true→q k=true)→x∈l→q x=true→p x=false→(l.filter p).length < (l.filter q).length
 | y::r,x,h,hx,h1,h2=>by
  have hle:(r.filter p).length≤(r.filter q).length:=by
   have:∀ (l:List α),(∀ k∈l,p k=true→q k=true)→(l.filter p).length≤(l.filter q).length:=by
    intro l
    induction l with
    | nil=>intro _;simp
    | cons z l ih =>
     intro h
     have h3:=ih fun k hk=>h k (List.mem_cons_of_mem _ hk)
     have h4:=h z (List.mem_cons_self ..)
     rw [List.filter_cons,List.filter_cons]
     cases hp:p z
     ·cases hq:q z
      ·simpa using h3
      ·simp;omega
     ·rw [h4 hp]
      simpa using h3
   exact this r fun k hk=>h k (List.mem_cons_of_mem _ hk)
  rw [List.filter_cons,List.filter_cons]
  rcases List.mem_cons.1 hx with rfl | hx
  ·rw [h1,h2]
   simp
   omega
  ·have h3:=filter_less (fun k hk=>h k (List.mem_cons_of_mem _ hk)) hx h1 h2
   have h4:=h y (List.mem_cons_self ..)
   cases hp:p y
   ·cases hq:q y
    ·simpa using h3
    ·simp;omega
   ·rw [h4 hp]
    simpa using h3
theorem lnk_ranked {g:Gr} {es:List Bool} {M N:List (List Bool)} {B:Bk} (he:g.IsEmpty es) (hM:IsReach (g.Once es) g.rules.length M) (hN:IsReach g.rd0 g.rules.length N) (ht:g.told es (at2 M) (at2 N)=[]) (hl:Lnk g B) (w:List Int):∃ rank,Ranked B w rank:=by
 refine ⟨fun r=>((List.range g.rules.length).filter fun k=>at2 M (g.ix r) k).length,fun r n a r' a' hn ha hv=>?_⟩
 have ho:=hl.all n (List.mem_of_getElem? hn)
 have hin:=vis_in hv ho
 refine ⟨hin,fun e=>?_⟩
 have h1:=mark_of_vis he hl hv e ho (List.replicate g.rules.length false) (by simp)
 obtain ⟨hi,h2,h3⟩:=hl.bod r n hn
 obtain ⟨hi',-,-⟩:=hl.bod r' _ (List.getElem?_eq_getElem hin)
 have honce:g.Once es (g.ix r) (g.ix r'):=by
  unfold Gr.Once at2 Gr.onceM
  have hrow:((List.range g.rules.length).map (g.onceRow es)).getD (g.ix r) []=g.onceRow es (g.ix r):=by
   rw [List.getD_eq_getElem?_getD,List.getElem?_map,List.getElem?_range hi]
   rfl
  rw [hrow]
  unfold Gr.onceRow
  rw [List.getElem?_eq_getElem hi]
  simp only
  rw [h2,h3]
  exact h1
 have hq:=(told_quiet ht).1
 have hno:=no_ring hq (fun i k h=>(hM.tc i k).1 h) (fun i k h=>(hN.tc i k).2 h) (g.ix r') hi'
 refine filter_less (fun k _ h=>?_) (List.mem_range.2 hi') ((hM.tc _ _).2 (.one honce)) hno
 exact (hM.tc _ _).2 (.more honce ((hM.tc _ _).1 h))
mutual
theorem all_of_alld:∀ (n:Nd) (d:Int),∀ m∈n.all,∃ e,(e,m)∈n.alld d
 | .mk k nm tx set subs,d,m,hm=>by
  rw [Nd.all] at hm
  rw [Nd.alld]
  rcases List.mem_cons.1 hm with rfl | hm
  ·exact ⟨d,List.mem_cons_self ..⟩
  ·obtain ⟨e,he⟩:=allL_of_alld subs _ m hm
   exact ⟨e,List.mem_cons_of_mem _ he⟩
theorem allL_of_alld:∀ (l:List Nd) (d:Int),∀ m∈Nd.allL l,∃ e,(e,m)∈Nd.alldL d l
 | [],_,m,hm=>by rw [Nd.allL] at hm;cases hm
 | n::r,d,m,hm=>by
  rw [Nd.allL] at hm
  rw [Nd.alldL]
  rcases List.mem_append.1 hm with hm | hm
  ·obtain ⟨e,he⟩:=all_of_alld n d m hm
   exact ⟨e,List.mem_append_left _ he⟩
  ·obtain ⟨e,he⟩:=allL_of_alld r d m hm
   exact ⟨e,List.mem_append_right _ he⟩
end
theorem plain_kind {n:Nd} (h:plainN false n=true):0≤n.kind∧n.kind≤7:=by
 unfold plainN plainX plainK at h
 rw [Bool.and_eq_true] at h
 have h2:=h.2
 by_cases h0:0≤n.kind∧n.kind≤7
 ·exact h0
 ·rw [if_neg (by omega),if_neg (by omega),if_neg (by omega),if_neg (by omega),if_neg (by omega),if_neg (by omega)] at h2
  split at h2
  ·simp at h2
  ·split at h2
   ·simp at h2
   ·cases h2
theorem toList_eq {a b:ByteArray} (h:a.toList=b.toList):a=b:=by
 have key:∀ (c:ByteArray),c.toList=c.data.toList:=fun c=>by
  rw [Lib.toList_data]
 rw [key,key] at h
 cases a
 cases b
 simp only [ByteArray.mk.injEq]
 exact Array.ext' h
theorem ix_get {g:Gr} {r:Nat} (h:r < (g.of [0]).length):∃ hi:g.ix r < g.rules.length,g.rules[g.ix r].sort=0∧(g.of [0])[r]? = some (g.ix r:Int):=by
 have h3:(g.of [0])[r]? = some (g.of [0])[r]:=List.getElem?_eq_getElem h
 obtain ⟨m,hm,hme,hs⟩:=of_get h3
 have e:g.ix r=m:=by
  unfold Gr.ix
  rw [List.getD_eq_getElem?_getD,h3,Option.getD_some,hme,Int.toNat_natCast]
 rw [hme] at h3
 refine ⟨e▸hm,?_,by rw [e];exact h3⟩
 have:g.rules[m].sort=0:=by simpa using hs
 simp only [e]
 exact this
theorem of_has {g:Gr} {k:Nat} (hk:k < g.rules.length) (hs:g.rules[k].sort=0):∃ q,q < (g.of [0]).length∧g.ix q=k:=by
 have hmem:∀ m,k < m→m≤g.rules.length→(k:Int)∈g.ofTo [0] m:=by
  intro m
  induction m with
  | zero=>intro h;omega
  | succ m ih =>
   intro hm hl
   rw [Gr.ofTo]
   by_cases e:k=m
   ·subst e
    rw [if_pos (by rw [Gr.isAt_get hk];simp [hs])]
    simp
   ·have:=ih (by omega) (by omega)
    split
    ·exact List.mem_append_left _ this
    ·exact this
 obtain ⟨q,hq⟩:=List.getElem?_of_mem (hmem g.rules.length hk (Nat.le_refl _))
 have hq':(g.of [0])[q]? = some (k:Int):=hq
 refine ⟨q,(List.getElem?_eq_some_iff.1 hq').1,?_⟩
 unfold Gr.ix
 rw [List.getD_eq_getElem?_getD,hq',Option.getD_some,Int.toNat_natCast]
theorem ix_inj {g:Gr} {p q:Nat} (hp:p < (g.of [0]).length) (hq:q < (g.of [0]).length) (e:g.ix p=g.ix q):p=q:=by
 obtain ⟨-,-,h1⟩:=ix_get hp
 obtain ⟨-,-,h2⟩:=ix_get hq
 rcases Nat.lt_trichotomy p q with h | h | h
 ·have:=of_rise g [0] h h1 h2
  omega
 ·exact h
 ·have:=of_rise g [0] h h2 h1
  omega
theorem lookS_some {l:List (ByteArray × Nat)} {nm:ByteArray} {x:ByteArray × Nat} (hx:x∈l) (hn:x.1=nm):∃ k,lookS l nm=some k:=by
 cases h:lookS l nm with
 | some k=>exact ⟨k,rfl⟩
 | none =>
  have:∀ (l:List (ByteArray × Nat)),lookS l nm=none→∀ x∈l,x.1≠nm:=by
   intro l
   induction l with
   | nil=>intro _ x hx;cases hx
   | cons y r ih =>
    intro h x hx e
    rw [lookS] at h
    split at h
    ·cases h
    ·rename_i hc
     rcases List.mem_cons.1 hx with rfl | hx
     ·apply hc
      rw [e]
      show ByteArray.beq nm nm=true
      unfold ByteArray.beq
      simp
     ·exact ih h x hx e
  exact absurd hn (this l h x hx)
theorem nmsTo_has {g:Gr} {T:List Int}:∀ {j k:Nat},k < j→((g.rAt (T.getD k 0)).name,k)∈nmsTo g T j
 | 0,k,h=>absurd h (by omega)
 | j+1,k,h=>by
  rw [nmsTo]
  by_cases e:k=j
  ·subst e
   simp
  ·exact List.mem_append_left _ (nmsTo_has (by omega))
theorem rAt_ix {g:Gr} {q:Nat} (hq:q < (g.of [0]).length):∃ hi:g.ix q < g.rules.length,g.rAt ((g.of [0]).getD q 0)=g.rules[g.ix q]:=by
 obtain ⟨hi,-,h1⟩:=ix_get hq
 refine ⟨hi,?_⟩
 rw [List.getD_eq_getElem?_getD,h1,Option.getD_some,Gr.rAt_nat g hi]
theorem rule_ix {g:Gr} (hn:g.Names) {q:Nat} (hq:q < (g.of [0]).length) {hi:g.ix q < g.rules.length}:(bookOf g).rule g.rules[g.ix q].name=q:=by
 unfold Bk.rule bookOf
 rw [(Bk.iter_rest _ _).1]
 show (lookS (nmsTo g (g.of [0]) (g.of [0]).length) g.rules[g.ix q].name).getD 0=q
 obtain ⟨hi',hr⟩:=rAt_ix hq
 have hmem:=nmsTo_has (g:=g) (T:=g.of [0]) hq
 rw [hr] at hmem
 obtain ⟨k,hk⟩:=lookS_some hmem rfl
 rw [hk,Option.getD_some]
 obtain ⟨x,hx,hx1,rfl⟩:=lookS_mem hk
 obtain ⟨h1,h2⟩:=nmsTo_mem hx
 obtain ⟨hi2,hr2⟩:=rAt_ix h1
 rw [hr2] at h2
 exact ix_inj h1 hq (hn _ _ hi2 hi (h2.symm.trans hx1))
theorem bookOf_bodies (g:Gr):(bookOf g).bodies=bodsTo g (g.of [0]) (g.of [0]).length:=by
 unfold bookOf
 rw [(Bk.iter_rest _ _).2.2.2]
 rfl
theorem book_lnk {g:Gr} {es:List Bool} {rch rnd:Nat→Nat→Bool} (hs:soundP g) (ht:g.told es rch rnd=[]) (hn:g.Names):Lnk g (bookOf g):=by
 have hb:=bookOf_bodies g
 have hlen:(bookOf g).bodies.length=(g.of [0]).length:=by rw [hb,bodsTo_len]
 have hget:∀ r n,(bookOf g).bodies[r]? = some n→r < (g.of [0]).length∧∃ hi:g.ix r < g.rules.length,g.rules[g.ix r].sort=0∧g.rules[g.ix r].body=n:=by
  intro r n h
  have hr:r < (g.of [0]).length:=by rw [← hlen];exact (List.getElem?_eq_some_iff.1 h).1
  obtain ⟨hi,h1,-⟩:=ix_get hr
  obtain ⟨hi2,h2⟩:=rAt_ix hr
  rw [hb,bodsTo_at hr,h2] at h
  exact ⟨hr,hi,h1,Option.some.inj h⟩
 refine ⟨fun r n h=>?_,fun n hnm m hm=>?_⟩
 ·obtain ⟨-,hi,h1,h2⟩:=hget r n h
  exact ⟨hi,h2,by unfold Rl.token;rw [h1];rfl⟩
 ·obtain ⟨r,hr⟩:=List.getElem?_of_mem hnm
  obtain ⟨-,hi,h1,h2⟩:=hget r n hr
  obtain ⟨-,-,-,h4⟩:=hs
  obtain ⟨-,-,h5⟩:=h4 _ hi
  rw [h1,h2] at h5
  obtain ⟨e,he⟩:=all_of_alld n 1 m hm
  have hpl:plainN false m=true:=(h5.2 _ he).2
  refine ⟨plain_kind hpl,fun h5k=>?_⟩
  have hq:=(told_quiet ht).1 _ hi
  have hmb:m∈g.rules[g.ix r].body.all:=by rw [h2];exact hm
  have hname:m.isName=true:=by unfold Nd.isName;rw [h5k];rfl
  have h6:=hq.none_ m hmb
  have h7:=hq.sorts m hmb
  unfold Gr.noneBad at h6
  unfold Gr.sortBad at h7
  rw [hname] at h6 h7
  have h0:¬ g.find m.name < 0:=by simpa using h6
  have h8:decide (0≤g.find m.name)=true:=decide_eq_true (by omega)
  rw [h8] at h7
  have h9:sortedB g.rules[g.ix r] m (g.sortAt (g.find m.name))=true:=by simpa using h7
  unfold sortedB at h9
  rw [h5k] at h9
  have h10:g.sortAt (g.find m.name)=0:=by
   have:(g.rules[g.ix r].parser&&g.sortAt (g.find m.name) == 0)=true:=by simpa using h9
   rw [Bool.and_eq_true] at this
   simpa using this.2
  rcases ixOf_cases g.rules (fun r=>sameB r.name m.name) with ⟨hf,-⟩ | ⟨k,hk,hf,hsame,-⟩
  ·unfold Gr.find at h0
   omega
  ·have hf':g.find m.name=(k:Int):=hf
   rw [hf',sortAt_nat g k hk] at h10
   obtain ⟨q,hq1,hq2⟩:=of_has hk h10
   have hnm2:m.name=g.rules[k].name:=(toList_eq ((sameB_iff _ _).1 hsame)).symm
   subst hq2
   rw [hnm2,rule_ix hn hq1,hlen]
   refine ⟨hq1,?_⟩
   unfold Gr.named
   simp only [hf',sortAt_nat g _ hk,h10,h5k]
   rw [if_neg (by omega)]
   simp
theorem book_good {g:Gr} (hs:soundP g) (hf:g.Fine):(bookOf g).Good:=by
 have hn:=hf.names
 obtain ⟨es,M,N,he,hM,hN,ht⟩:=hf
 refine ⟨by rw [bookOf_bodies];exact bods_lp hs,fun w _=>lnk_ranked he hM hN ht (book_lnk hs ht hn) w⟩
end Go.Proofs.YtppjmdanckdobaaGreatDoor
