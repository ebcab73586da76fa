/- What a node derives, as lists. Plain. -/
import Derived.Test.YtppjmdanckdobaaGreatDoorQR26
import Derived.Test.YtppjmdanckdobaaGreatDoorQR1
namespace Go.Proofs.YtppjmdanckdobaaGreatDoor
mutual
inductive Lg (B:Bk):Nd→List Int→Prop
 | tok {nm tx:ByteArray} {set:List (Int × Int)} {subs:List Nd} {x:Int} (h:x=(B.tok nm:Int)∨x = -2):Lg B (.mk 6 nm tx set subs) [x]
 | ref {nm tx:ByteArray} {set:List (Int × Int)} {subs:List Nd} {u:List Int} {n:Nd} (h:B.bodies[B.rule nm]? = some n) (hd:Lg B n u):Lg B (.mk 5 nm tx set subs) u
 | seq {nm tx:ByteArray} {set:List (Int × Int)} {subs:List Nd} {u:List Int} (h:LgL B subs u):Lg B (.mk 1 nm tx set subs) u
 | alt {nm tx:ByteArray} {set:List (Int × Int)} {subs:List Nd} {u:List Int} {x:Nd} (hx:x∈subs) (h:Lg B x u):Lg B (.mk 0 nm tx set subs) u
 | opt0 {nm tx:ByteArray} {set:List (Int × Int)} {subs:List Nd}:Lg B (.mk 2 nm tx set subs) []
 | opt {nm tx:ByteArray} {set:List (Int × Int)} {x:Nd} {r:List Nd} {u:List Int} (h:Lg B x u):Lg B (.mk 2 nm tx set (x::r)) u
 | star0 {nm tx:ByteArray} {set:List (Int × Int)} {subs:List Nd}:Lg B (.mk 3 nm tx set subs) []
 | star {nm tx:ByteArray} {set:List (Int × Int)} {x:Nd} {r:List Nd} {u:List Int} (h:LgP B x u):Lg B (.mk 3 nm tx set (x::r)) u
 | plus {nm tx:ByteArray} {set:List (Int × Int)} {x:Nd} {r:List Nd} {u:List Int} (h:LgP B x u):Lg B (.mk 4 nm tx set (x::r)) u
 | other {k:Int} {nm tx:ByteArray} {set:List (Int × Int)} {subs:List Nd} (hk:k < 0∨6 < k):Lg B (.mk k nm tx set subs) []
inductive LgL (B:Bk):List Nd→List Int→Prop
 | nil:LgL B [] []
 | cons {x:Nd} {r:List Nd} {u v:List Int} (h:Lg B x u) (hr:LgL B r v):LgL B (x::r) (u++v)
inductive LgP (B:Bk):Nd→List Int→Prop
 | one {x:Nd} {u:List Int} (h:Lg B x u):LgP B x u
 | more {x:Nd} {u v:List Int} (h:LgP B x u) (hr:Lg B x v):LgP B x (u++v)
end
theorem slice_app {w:List Int} {i j k:Nat} (h1:i≤j) (h2:j≤k):(w.drop i).take (k - i)=(w.drop i).take (j - i)++(w.drop j).take (k - j):=by
 have e:w.drop j=(w.drop i).drop (j - i):=by rw [List.drop_drop];congr 1;omega
 rw [e,show k - i=(j - i)+(k - j) by omega,List.take_add]
theorem slice_nil {w:List Int} {i:Nat}:(w.drop i).take (i - i)=[]:=by rw [Nat.sub_self,List.take_zero]
theorem slice_one {w:List Int} {i:Nat} {x:Int} (h:w[i]? = some x):(w.drop i).take (i+1 - i)=[x]:=by
 obtain ⟨hi,rfl⟩:=List.getElem?_eq_some_iff.1 h
 rw [show i+1 - i=1 by omega,List.drop_eq_getElem_cons hi]
 rfl
section
variable {B:Bk} {w:List Int}
mutual
theorem lg_of_der:∀ {n:Nd} {i j:Nat},Der B w n i j→Lg B n ((w.drop i).take (j - i))
 | _,_,_,.tok ⟨_,h1,h2⟩=>by rw [slice_one h1];exact .tok h2
 | _,_,_,.ref h hd=>.ref h (lg_of_der hd)
 | _,_,_,.seq h=>.seq (lgL_of_der h)
 | _,_,_,.alt hx h=>.alt hx (lg_of_der h)
 | _,_,_,.opt0=>by rw [slice_nil];exact .opt0
 | _,_,_,.opt h=>.opt (lg_of_der h)
 | _,_,_,.star0=>by rw [slice_nil];exact .star0
 | _,_,_,.star h=>.star (lgP_of_der h)
 | _,_,_,.plus h=>.plus (lgP_of_der h)
 | _,_,_,.other hk=>by rw [slice_nil];exact .other hk
theorem lgL_of_der:∀ {l:List Nd} {i j:Nat},DerL B w l i j→LgL B l ((w.drop i).take (j - i))
 | _,_,_,.nil=>by rw [slice_nil];exact .nil
 | _,_,_,.cons h hr=>by rw [slice_app h.le.1 hr.le.1];exact .cons (lg_of_der h) (lgL_of_der hr)
theorem lgP_of_der:∀ {n:Nd} {i j:Nat},DerP B w n i j→LgP B n ((w.drop i).take (j - i))
 | _,_,_,.one h=>.one (lg_of_der h)
 | _,_,_,.more h hr=>by rw [slice_app h.le.1 hr.le.1];exact .more (lgP_of_der h) (lg_of_der hr)
end
mutual
theorem der_of_lg:∀ {n:Nd} {u:List Int},Lg B n u→∀ p q:List Int,Der B (p++u++q) n p.length (p.length+u.length)
 | _,_,.tok h=>fun p q=>.tok ⟨_,by simp,h⟩
 | _,_,.ref h hd=>fun p q=>.ref h (der_of_lg hd p q)
 | _,_,.seq h=>fun p q=>.seq (derL_of_lg h p q)
 | _,_,.alt hx h=>fun p q=>.alt hx (der_of_lg h p q)
 | _,_,.opt0=>fun _ _=>.opt0
 | _,_,.opt h=>fun p q=>.opt (der_of_lg h p q)
 | _,_,.star0=>fun _ _=>.star0
 | _,_,.star h=>fun p q=>.star (derP_of_lg h p q)
 | _,_,.plus h=>fun p q=>.plus (derP_of_lg h p q)
 | _,_,.other hk=>fun _ _=>.other hk
theorem derL_of_lg:∀ {l:List Nd} {u:List Int},LgL B l u→∀ p q:List Int,DerL B (p++u++q) l p.length (p.length+u.length)
 | _,_,.nil=>fun _ _=>.nil
 | _,_,.cons (u:=u) (v:=v) h hr=>fun p q=>by
  have h1:=der_of_lg h p (v++q)
  have h2:=derL_of_lg hr (p++u) q
  rw [List.length_append] at h2
  rw [List.length_append,← Nat.add_assoc]
  have e1:p++u++(v++q)=p++(u++v)++q:=by simp
  have e2:p++u++v++q=p++(u++v)++q:=by simp
  rw [e1] at h1
  rw [e2] at h2
  exact .cons h1 h2
theorem derP_of_lg:∀ {n:Nd} {u:List Int},LgP B n u→∀ p q:List Int,DerP B (p++u++q) n p.length (p.length+u.length)
 | _,_,.one h=>fun p q=>.one (der_of_lg h p q)
 | _,_,.more (u:=u) (v:=v) h hr=>fun p q=>by
  have h1:=derP_of_lg h p (v++q)
  have h2:=der_of_lg hr (p++u) q
  rw [List.length_append] at h2
  rw [List.length_append,← Nat.add_assoc]
  have e1:p++u++(v++q)=p++(u++v)++q:=by simp
  have e2:p++u++v++q=p++(u++v)++q:=by simp
  rw [e1] at h1
  rw [e2] at h2
  exact .more h1 h2
end
end
def Bk.Rg (B:Bk) (r:Nat) (u:List Int):Prop:=∃ n,B.bodies[r]? = some n∧Lg B n u
theorem d_rg {B:Bk} {r:Nat} {w:List Int}:B.D r w↔B.Rg r w:=by
 unfold Bk.D Bk.Rg
 constructor
 ·rintro ⟨n,hn,h⟩
  have:=lg_of_der h
  rw [List.drop_zero,Nat.sub_zero,List.take_length] at this
  exact ⟨n,hn,this⟩
 ·rintro ⟨n,hn,h⟩
  have:=der_of_lg h [] []
  rw [List.nil_append,List.append_nil,List.length_nil,Nat.zero_add] at this
  exact ⟨n,hn,this⟩
def Wld:List Int→List Int→Prop
 | [],[]=>True
 | a::u,b::v=>(b=a∨b = -2)∧Wld u v
 | _,_=>False
theorem Wld.refl:∀ u:List Int,Wld u u
 | []=>trivial
 | _::u=>⟨.inl rfl,Wld.refl u⟩
theorem Wld.split:∀ {u v w:List Int},Wld (u++v) w→∃ a b,w=a++b∧Wld u a∧Wld v b
 | [],_,w,h=>⟨[],w,rfl,trivial,h⟩
 | _::_,_,[],h=>by cases h
 | _::_,_,y::_,h=>by
  obtain ⟨a,b,rfl,h1,h2⟩:=Wld.split h.2
  exact ⟨y::a,b,rfl,⟨h.1,h1⟩,h2⟩
theorem Wld.app:∀ {u v a b:List Int},Wld u a→Wld v b→Wld (u++v) (a++b)
 | [],_,[],_,_,h=>h
 | _::_,_,_::_,_,h1,h2=>⟨h1.1,Wld.app h1.2 h2⟩
theorem Wld.all:∀ u:List Int,Wld u (List.replicate u.length (-2))
 | []=>trivial
 | _::u=>⟨.inr rfl,Wld.all u⟩
theorem Wld.nil {w:List Int} (h:Wld [] w):w=[]:=by
 cases w with
 | nil=>rfl
 | cons _ _=>cases h
section
variable {B:Bk}
mutual
theorem lg_wild:∀ {n:Nd} {u:List Int},Lg B n u→∀ w,Wld u w→Lg B n w
 | _,_,.tok (x:=x) h=>fun w hw=>by
  match w,hw with
  | [y],hw =>
   refine .tok ?_
   rcases hw.1 with rfl | rfl
   ·exact h
   ·exact .inr rfl
 | _,_,.ref h hd=>fun w hw=>.ref h (lg_wild hd w hw)
 | _,_,.seq h=>fun w hw=>.seq (lgL_wild h w hw)
 | _,_,.alt hx h=>fun w hw=>.alt hx (lg_wild h w hw)
 | _,_,.opt0=>fun w hw=>by rw [hw.nil];exact .opt0
 | _,_,.opt h=>fun w hw=>.opt (lg_wild h w hw)
 | _,_,.star0=>fun w hw=>by rw [hw.nil];exact .star0
 | _,_,.star h=>fun w hw=>.star (lgP_wild h w hw)
 | _,_,.plus h=>fun w hw=>.plus (lgP_wild h w hw)
 | _,_,.other hk=>fun w hw=>by rw [hw.nil];exact .other hk
theorem lgL_wild:∀ {l:List Nd} {u:List Int},LgL B l u→∀ w,Wld u w→LgL B l w
 | _,_,.nil=>fun w hw=>by rw [hw.nil];exact .nil
 | _,_,.cons h hr=>fun w hw=>by
  obtain ⟨a,b,rfl,h1,h2⟩:=Wld.split hw
  exact .cons (lg_wild h a h1) (lgL_wild hr b h2)
theorem lgP_wild:∀ {n:Nd} {u:List Int},LgP B n u→∀ w,Wld u w→LgP B n w
 | _,_,.one h=>fun w hw=>.one (lg_wild h w hw)
 | _,_,.more h hr=>fun w hw=>by
  obtain ⟨a,b,rfl,h1,h2⟩:=Wld.split hw
  exact .more (lgP_wild h a h1) (lg_wild hr b h2)
end
theorem rg_wild {r:Nat} {u w:List Int} (h:B.Rg r u) (hw:Wld u w):B.Rg r w:=by
 obtain ⟨n,h1,h2⟩:=h
 exact ⟨n,h1,lg_wild h2 w hw⟩
def TokIn (B:Bk) (n:Nd):Prop:=∀ m∈n.all,m.kind=6→(B.tok m.name:Int)∈B.kinds
theorem TokIn.sub {k:Int} {nm tx:ByteArray} {set:List (Int × Int)} {subs:List Nd} (h:TokIn B (.mk k nm tx set subs)) {x:Nd} (hx:x∈subs):TokIn B x:=fun m hm=>h m (by rw [Nd.all];exact List.mem_cons_of_mem _ (mem_allL hx hm))
mutual
theorem lg_toks (hB:∀ n∈B.bodies,TokIn B n):∀ {n:Nd} {u:List Int},Lg B n u→TokIn B n→∀ x∈u,x = -2∨x∈B.kinds
 | .mk _ nm tx set subs,_,.tok h,ht=>fun x hx=>by
  rw [List.mem_singleton.1 hx]
  rcases h with rfl | rfl
  ·exact .inr (ht _ (all_self _) rfl)
  ·exact .inl rfl
 | _,_,.ref h hd,_=>lg_toks hB hd (hB _ (List.mem_of_getElem? h))
 | .mk _ nm tx set subs,_,.seq h,ht=>lgL_toks hB h fun _ hx=>ht.sub hx
 | .mk _ nm tx set subs,_,.alt hx h,ht=>lg_toks hB h (ht.sub hx)
 | _,_,.opt0,_=>fun x hx=>by cases hx
 | .mk _ nm tx set _,_,.opt h,ht=>lg_toks hB h (ht.sub (List.mem_cons_self ..))
 | _,_,.star0,_=>fun x hx=>by cases hx
 | .mk _ nm tx set _,_,.star h,ht=>lgP_toks hB h (ht.sub (List.mem_cons_self ..))
 | .mk _ nm tx set _,_,.plus h,ht=>lgP_toks hB h (ht.sub (List.mem_cons_self ..))
 | _,_,.other _,_=>fun x hx=>by cases hx
theorem lgL_toks (hB:∀ n∈B.bodies,TokIn B n):∀ {l:List Nd} {u:List Int},LgL B l u→(∀ n∈l,TokIn B n)→∀ x∈u,x = -2∨x∈B.kinds
 | _,_,.nil,_=>fun x hx=>by cases hx
 | _,_,.cons h hr,ht=>fun x hx=>by
  rcases List.mem_append.1 hx with hx | hx
  ·exact lg_toks hB h (ht _ (List.mem_cons_self ..)) x hx
  ·exact lgL_toks hB hr (fun n hn=>ht n (List.mem_cons_of_mem _ hn)) x hx
theorem lgP_toks (hB:∀ n∈B.bodies,TokIn B n):∀ {n:Nd} {u:List Int},LgP B n u→TokIn B n→∀ x∈u,x = -2∨x∈B.kinds
 | _,_,.one h,ht=>lg_toks hB h ht
 | _,_,.more h hr,ht=>fun x hx=>by
  rcases List.mem_append.1 hx with hx | hx
  ·exact lgP_toks hB h ht x hx
  ·exact lg_toks hB hr ht x hx
end
theorem rg_toks (hB:∀ n∈B.bodies,TokIn B n) {r:Nat} {u:List Int} (h:B.Rg r u):∀ x∈u,x = -2∨x∈B.kinds:=by
 obtain ⟨n,h1,h2⟩:=h
 exact lg_toks hB h2 (hB _ (List.mem_of_getElem? h1))
end
end Go.Proofs.YtppjmdanckdobaaGreatDoor

/- Lists in order,plain. -/
namespace Go.Proofs.YtppjmdanckdobaaGreatDoor
def lexB:List Int→List Int→Bool
 | a::l,b::m=>if a=b then lexB l m else decide (a < b)
 | _,_=>false
def slB (a b:List Int):Bool:=if a.length=b.length then lexB a b else decide (a.length < b.length)
theorem lexB_pre {t:Int} {u v:List Int}:lexB (t::u) (t::v)=lexB u v:=by rw [lexB,if_pos rfl]
end Go.Proofs.YtppjmdanckdobaaGreatDoor

/- The first lists are the least ones. Plain. -/
namespace Go.Proofs.YtppjmdanckdobaaGreatDoor
theorem lexB_tri:∀ {u v:List Int},u.length=v.length→lexB u v=false→lexB v u=false→u=v
 | [],[],_,_,_=>rfl
 | a::u,b::v,hl,h1,h2=>by
  rw [lexB] at h1 h2
  by_cases e:a=b
  ·subst e
   rw [if_pos rfl] at h1 h2
   rw [lexB_tri (by simpa using hl) h1 h2]
  ·rw [if_neg e,decide_eq_false_iff_not] at h1
   rw [if_neg (fun x=>e x.symm),decide_eq_false_iff_not] at h2
   omega
theorem slB_tri {u v:List Int} (h1:slB u v=false) (h2:slB v u=false):u=v:=by
 unfold slB at h1 h2
 by_cases e:u.length=v.length
 ·rw [if_pos e] at h1
  rw [if_pos e.symm] at h2
  exact lexB_tri e h1 h2
 ·rw [if_neg e,decide_eq_false_iff_not] at h1
  rw [if_neg (fun x=>e x.symm),decide_eq_false_iff_not] at h2
  omega
theorem lexB_app:∀ {u v:List Int} (q:List Int),u.length=v.length→lexB u v=true→lexB (u++q) (v++q)=true
 | [],[],_,_,h=>by cases h
 | a::u,b::v,q,hl,h=>by
  rw [List.cons_append,List.cons_append]
  rw [lexB] at h ⊢
  split
  ·rename_i e
   rw [if_pos e] at h
   exact lexB_app q (by simpa using hl) h
  ·rename_i e
   rw [if_neg e] at h
   exact h
theorem lexB_pref {u v:List Int}:∀ p:List Int,lexB u v=true→lexB (p++u) (p++v)=true
 | [],h=>h
 | a::p,h=>by rw [List.cons_append,List.cons_append,lexB_pre];exact lexB_pref p h
theorem slB_mid {u v:List Int} (p q:List Int) (h:slB u v=true):slB (p++(u++q)) (p++(v++q))=true:=by
 unfold slB at h ⊢
 simp only [List.length_append]
 by_cases e:u.length=v.length
 ·rw [if_pos e] at h
  rw [if_pos (by omega)]
  exact lexB_pref p (lexB_app q e h)
 ·rw [if_neg e,decide_eq_true_eq] at h
  rw [if_neg (by omega),decide_eq_true_eq]
  omega
theorem slB_nil {u:List Int} (h:slB [] u=false):u=[]:=by
 cases u with
 | nil=>rfl
 | cons a u =>
  unfold slB at h
  rw [if_neg (by simp)] at h
  simp at h
theorem cI_lt {x y:Int} (h:x < y):Lib.compareInt x y = -1:=by unfold Lib.compareInt;rw [if_pos h]
theorem cI_eq (x:Int):Lib.compareInt x x=0:=by unfold Lib.compareInt;rw [if_neg (by omega),if_neg (by omega)]
theorem cI_gt {x y:Int} (h:y < x):Lib.compareInt x y=1:=by unfold Lib.compareInt;rw [if_neg (by omega),if_pos h]
theorem cmpL_neg:∀ {u v:List Int},u.length=v.length→(cmpL u v < 0↔lexB u v=true)
 | [],[],_=>by simp [cmpL,lexB]
 | a::u,b::v,hl=>by
  have ih:=cmpL_neg (u:=u) (v:=v) (by simpa using hl)
  rw [cmpL,lexB]
  rcases Int.lt_trichotomy a b with h | h | h
  ·rw [cI_lt h,if_pos (by decide),if_neg (by omega)]
   simp [h]
  ·subst h
   rw [cI_eq,if_neg (by decide),if_pos rfl]
   exact ih
  ·rw [cI_gt h,if_pos (by decide),if_neg (by omega)]
   simp
   omega
def mkF (v:List Int):Fst:=⟨v.length,v⟩
theorem Fst.Ok.short {f:Fst} (h:f.Ok) (h1:f.long≠-1) (h2:f.long≤256):f=mkF f.w:=by
 rcases h with ⟨e,-⟩ | ⟨h3,h4,h5,h6⟩
 ·exact absurd e h1
 ·obtain ⟨l,w⟩:=f
  have:=h5 h2
  unfold mkF
  dsimp only at this ⊢
  rw [this]
theorem lt_mk (u v:List Int):firstLt (mkF u) (mkF v)=slB u v:=by
 unfold firstLt slB mkF
 dsimp only
 rw [if_neg (by omega)]
 by_cases e:u.length=v.length
 ·rw [if_pos e,e,cI_eq,if_neg (by decide)]
  rw [Bool.eq_iff_iff,decide_eq_true_eq]
  exact cmpL_neg e
 ·rw [if_neg e]
  by_cases h:u.length < v.length
  ·rw [cI_lt (by omega),if_pos (by decide)]
   simp [h]
  ·rw [cI_gt (by omega),if_pos (by decide)]
   simp
   omega
theorem lt_none (v:List Int) {o:Fst} (h:o.long = -1):firstLt (mkF v) o=true:=by
 unfold firstLt mkF
 rw [if_pos (.inr h)]
 simp
theorem lt_long (v:List Int) {o:Fst} (hl:(v.length:Int) < o.long):firstLt (mkF v) o=true:=by
 unfold firstLt mkF
 dsimp only
 rw [if_neg (by omega),cI_lt hl,if_pos (by decide)]
 rfl
theorem none_lt (v:List Int) {o:Fst} (h:o.long = -1):firstLt o (mkF v)=false:=by
 unfold firstLt
 rw [if_pos (.inl h)]
 simp [h]
theorem long_lt (v:List Int) {o:Fst} (hl:(v.length:Int) < o.long):firstLt o (mkF v)=false:=by
 unfold firstLt mkF
 dsimp only
 rw [if_neg (by omega),cI_gt hl,if_pos (by decide)]
 rfl
theorem join_mk (u v:List Int) (h:u.length+v.length≤256):joinF (mkF u) (mkF v)=mkF (u++v):=by
 unfold joinF mkF
 dsimp only
 rw [if_neg (by omega),if_pos (by omega),List.length_append]
 congr 1
theorem join_short {f g:Fst} (hf:f.Ok) (hg:g.Ok) (h1:(joinF f g).long≠-1) (h2:(joinF f g).long≤256):f.long≠-1∧f.long≤256∧g.long≠-1∧g.long≤256∧joinF f g=mkF (f.w++g.w)∧f.w.length+g.w.length≤256:=by
 unfold joinF at h1 h2 ⊢
 split at h1
 ·exact absurd rfl h1
 ·rename_i h
  rw [if_neg h] at h2 ⊢
  dsimp only at h1 h2
  rcases hf with ⟨e,-⟩ | ⟨f1,f2,f3,f4⟩
  ·exact absurd (.inl e) h
  rcases hg with ⟨e,-⟩ | ⟨g1,g2,g3,g4⟩
  ·exact absurd (.inr (.inl e)) h
  have a1:=f3 (by omega)
  have a2:=g3 (by omega)
  refine ⟨by omega,by omega,by omega,by omega,?_,by omega⟩
  rw [if_pos h2]
  unfold mkF
  rw [List.length_append]
  congr 1
  omega
section
variable {B:Bk}
def Lc (B:Bk) (n:Nd) (u:List Int):Prop:=Lg B n u∧-2∉u
def LcL (B:Bk) (l:List Nd) (u:List Int):Prop:=LgL B l u∧-2∉u
def Min (B:Bk) (n:Nd) (v:List Int):Prop:=Lc B n v∧∀ u,Lc B n u→slB u v=false
def MinL (B:Bk) (l:List Nd) (v:List Int):Prop:=LcL B l v∧∀ u,LcL B l u→slB u v=false
theorem no2_app {u v:List Int}:-2∉u++v↔-2∉u∧-2∉v:=by rw [List.mem_append,not_or]
theorem MinL.parts {s:Nd} {r:List Nd} {a b:List Int} (h:MinL B (s::r) (a++b)) (ha:Lg B s a) (hb:LgL B r b):Min B s a∧MinL B r b:=by
 obtain ⟨⟨-,h2⟩,h3⟩:=h
 rw [no2_app] at h2
 refine ⟨⟨⟨ha,h2.1⟩,fun u hu=>?_⟩,⟨hb,h2.2⟩,fun u hu=>?_⟩
 ·cases hc:slB u a
  ·rfl
  ·have:=slB_mid [] b hc
   rw [List.nil_append,List.nil_append] at this
   rw [h3 (u++b) ⟨.cons hu.1 hb,no2_app.2 ⟨hu.2,h2.2⟩⟩] at this
   cases this
 ·cases hc:slB u b
  ·rfl
  ·have:=slB_mid a [] hc
   rw [List.append_nil,List.append_nil] at this
   rw [h3 (a++u) ⟨.cons ha hu.1,no2_app.2 ⟨h2.1,hu.2⟩⟩] at this
   cases this
def SoundF (B:Bk) (F:List Fst):Prop:=F.length=B.bodies.length∧∀ (r:Nat) (f:Fst),F[r]? = some f→f.Ok∧∀ n,B.bodies[r]? = some n→f.long≠-1→f.long≤256→Lc B n f.w
def Bk.wf (B:Bk) (F:List Fst):Bk:={ B with firsts:=F }
theorem firstSeq_long {F:List Fst} (hF:∀ f∈F,f.Ok):∀ (l:List Nd) (o:Fst),o.Ok→((B.wf F).firstSeq l o).long≠-1→o.long≤((B.wf F).firstSeq l o).long∧o.long≠-1
 | [],o,_,h=>by rw [Bk.firstSeq] at h ⊢;exact ⟨Int.le_refl _,h⟩
 | s::r,o,ho,h=>by
  rw [Bk.firstSeq] at h ⊢
  have hn:((B.wf F).firstN s).Ok:=Bk.firstN_ok hF s
  obtain ⟨h1,h2⟩:=firstSeq_long hF r _ (joinF_ok ho hn) h
  unfold joinF at h1 h2
  split at h2
  ·exact absurd rfl h2
  ·rename_i hc
   rw [if_neg hc] at h1
   dsimp only at h1
   have:0≤((B.wf F).firstN s).long:=by
    rcases hn with ⟨e,-⟩ | ⟨e,-⟩
    ·exact absurd (.inr (.inl e)) hc
    ·exact e
   refine ⟨?_,fun e=>hc (.inl e)⟩
   unfold joinF
   rw [if_neg hc]
   omega
theorem SoundF.ok {F:List Fst} (h:SoundF B F):∀ f∈F,f.Ok:=fun f hf=>by
 obtain ⟨r,hr⟩:=List.getElem?_of_mem hf
 exact (h.2 r f hr).1
theorem firstAlt_one {F:List Fst}:∀ (l:List Nd) (o:Fst),(B.wf F).firstAlt l o=o∨∃ s∈l,(B.wf F).firstAlt l o=(B.wf F).firstN s
 | [],o=>by rw [Bk.firstAlt];exact .inl rfl
 | s::r,o=>by
  rw [Bk.firstAlt]
  rcases firstAlt_one r (if firstLt ((B.wf F).firstN s) o then (B.wf F).firstN s else o) with e | ⟨t,ht,e⟩
  ·rw [e]
   split
   ·exact .inr ⟨s,List.mem_cons_self ..,rfl⟩
   ·exact .inl rfl
  ·exact .inr ⟨t,List.mem_cons_of_mem _ ht,e⟩
mutual
theorem firstN_sound {F:List Fst} (hF:SoundF B F):∀ n:Nd,n.lp→((B.wf F).firstN n).long≠-1→((B.wf F).firstN n).long≤256→Lc B n ((B.wf F).firstN n).w
 | .mk k nm tx set subs,hlp,h1,h2=>by
  rw [Nd.lp] at hlp
  rw [Bk.firstN] at h1 h2 ⊢
  by_cases k6:k=6
  ·subst k6
   rw [if_pos rfl]
   refine ⟨.tok (.inl rfl),?_⟩
   simp
  rw [if_neg k6] at h1 h2 ⊢
  by_cases k5:k=5
  ·subst k5
   rw [if_pos rfl] at h1 h2 ⊢
   cases hf:(B.wf F).firsts[(B.wf F).rule nm]? with
   | none=>rw [hf] at h1;exact absurd rfl h1
   | some f =>
    rw [hf] at h1 h2
    obtain ⟨ho,hs⟩:=hF.2 _ f hf
    rw [Option.getD_some] at h1 h2 ⊢
    cases hb:B.bodies[B.rule nm]? with
    | none =>
     have h3:=(List.getElem?_eq_some_iff.1 hf).1
     have h4:=List.getElem?_eq_none_iff.1 hb
     have h5:F.length=B.bodies.length:=hF.1
     have h6:B.rule nm < F.length:=h3
     omega
    | some n =>
     have:=hs n hb h1 h2
     exact ⟨.ref hb this.1,this.2⟩
  rw [if_neg k5] at h1 h2 ⊢
  by_cases k1:k=1
  ·subst k1
   rw [if_pos rfl] at h1 h2 ⊢
   obtain ⟨u,hu,e⟩:=firstSeq_sound hF subs hlp.2 ⟨0,[]⟩ ok_zero h1 h2
   rw [e]
   exact ⟨.seq hu.1,by simpa using hu.2⟩
  rw [if_neg k1] at h1 h2 ⊢
  by_cases k0:k=0
  ·subst k0
   rw [if_pos rfl] at h1 h2 ⊢
   rcases firstAlt_one (B:=B) (F:=F) subs ⟨-1,[]⟩ with e | ⟨s,hs,e⟩
   ·rw [e] at h1;exact absurd rfl h1
   ·rw [e] at h1 h2 ⊢
    have:=firstN_all hF subs hlp.2 s hs h1 h2
    exact ⟨.alt hs this.1,this.2⟩
  rw [if_neg k0] at h1 h2 ⊢
  by_cases k4:k=4
  ·subst k4
   rw [if_pos rfl] at h1 h2 ⊢
   cases subs with
   | nil=>exact absurd rfl (hlp.1 (by omega))
   | cons s r =>
    rw [Bk.firstHd] at h1 h2 ⊢
    have:=firstN_all hF (s::r) hlp.2 s (List.mem_cons_self ..) h1 h2
    exact ⟨.plus (.one this.1),this.2⟩
  rw [if_neg k4]
  refine ⟨?_,by simp⟩
  by_cases k2:k=2
  ·subst k2;exact .opt0
  by_cases k3:k=3
  ·subst k3;exact .star0
  exact .other (by omega)
theorem firstN_all {F:List Fst} (hF:SoundF B F):∀ l:List Nd,Nd.lpL l→∀ s∈l,((B.wf F).firstN s).long≠-1→((B.wf F).firstN s).long≤256→Lc B s ((B.wf F).firstN s).w
 | n::r,hlp,s,hs,h1,h2=>by
  rw [Nd.lpL] at hlp
  rcases List.mem_cons.1 hs with e | hs
  ·rw [e] at h1 h2 ⊢
   exact firstN_sound hF n hlp.1 h1 h2
  ·exact firstN_all hF r hlp.2 s hs h1 h2
theorem firstSeq_sound {F:List Fst} (hF:SoundF B F):∀ (l:List Nd),Nd.lpL l→∀ (o:Fst),o.Ok→((B.wf F).firstSeq l o).long≠-1→((B.wf F).firstSeq l o).long≤256→∃ u,LcL B l u∧((B.wf F).firstSeq l o).w=o.w++u
 | [],_,o,_,_,_=>⟨[],⟨.nil,by simp⟩,by rw [Bk.firstSeq];simp⟩
 | s::r,hlp,o,ho,h1,h2=>by
  rw [Nd.lpL] at hlp
  rw [Bk.firstSeq] at h1 h2 ⊢
  have hn:((B.wf F).firstN s).Ok:=Bk.firstN_ok hF.ok s
  obtain ⟨h3,h4⟩:=firstSeq_long hF.ok r _ (joinF_ok ho hn) h1
  obtain ⟨-,-,j3,j4,j5,-⟩:=join_short ho hn h4 (by omega)
  have hs:=firstN_sound hF s hlp.1 j3 j4
  obtain ⟨u,hu,e⟩:=firstSeq_sound hF r hlp.2 _ (joinF_ok ho hn) h1 h2
  refine ⟨((B.wf F).firstN s).w++u,⟨.cons hs.1 hu.1,no2_app.2 ⟨hs.2,hu.2⟩⟩,?_⟩
  rw [e,j5]
  show o.w++_++u=_
  rw [List.append_assoc]
end
theorem alt_not {G:List Fst} (hG:SoundF B G) {s:Nd} (hlp:s.lp) {v:List Int} (hmin:∀ u,Lc B s u→slB u v=false) (hv:v.length≤256):firstLt ((B.wf G).firstN s) (mkF v)=false:=by
 have ho:((B.wf G).firstN s).Ok:=Bk.firstN_ok hG.ok s
 by_cases h1:((B.wf G).firstN s).long = -1
 ·exact none_lt v h1
 ·by_cases h2:(v.length:Int) < ((B.wf G).firstN s).long
  ·exact long_lt v h2
  ·rw [ho.short h1 (by omega),lt_mk]
   exact hmin _ (firstN_sound hG s hlp h1 (by omega))
theorem alt_keep {G:List Fst} (hG:SoundF B G) {v:List Int} (hv:v.length≤256):∀ l:List Nd,Nd.lpL l→(∀ s∈l,∀ u,Lc B s u→slB u v=false)→(B.wf G).firstAlt l (mkF v)=mkF v
 | [],_,_=>by rw [Bk.firstAlt]
 | s::r,hlp,hmin=>by
  rw [Nd.lpL] at hlp
  rw [Bk.firstAlt,alt_not hG hlp.1 (hmin s (List.mem_cons_self ..)) hv]
  exact alt_keep hG hv r hlp.2 fun t ht=>hmin t (List.mem_cons_of_mem _ ht)
def Behind (v:List Int) (o:Fst):Prop:=o.Ok∧(o.long≠-1→o.long≤256→slB o.w v=false)
theorem alt_find {G:List Fst} (hG:SoundF B G) {v:List Int} (hv:v.length≤256):∀ (l:List Nd),Nd.lpL l→(∀ s∈l,∀ u,Lc B s u→slB u v=false)→(∃ s∈l,(B.wf G).firstN s=mkF v)→∀ o,Behind v o→(B.wf G).firstAlt l o=mkF v
 | [],_,_,⟨s,hs,_⟩,_,_=>by cases hs
 | s::r,hlp,hmin,hex,o,ho=>by
  rw [Nd.lpL] at hlp
  have hmin':∀ t∈r,∀ u,Lc B t u→slB u v=false:=fun t ht=>hmin t (List.mem_cons_of_mem _ ht)
  rw [Bk.firstAlt]
  by_cases hx:(B.wf G).firstN s=mkF v
  ·rw [hx]
   split
   ·exact alt_keep hG hv r hlp.2 hmin'
   ·rename_i hc
    have h1:o.long≠-1:=fun e=>hc (lt_none v e)
    have h2:¬ (v.length:Int) < o.long:=fun e=>hc (lt_long v e)
    have h3:=ho.1.short h1 (by omega)
    rw [h3,lt_mk,Bool.not_eq_true] at hc
    have h4:=ho.2 h1 (by omega)
    have h5:=slB_tri hc h4
    rw [← h5] at h3
    rw [h3]
    exact alt_keep hG hv r hlp.2 hmin'
  ·refine alt_find hG hv r hlp.2 hmin' ?_ _ ?_
   ·obtain ⟨t,ht,e⟩:=hex
    rcases List.mem_cons.1 ht with rfl | ht
    ·exact absurd e hx
    ·exact ⟨t,ht,e⟩
   ·split
    ·exact ⟨Bk.firstN_ok hG.ok s,fun h1 h2=>hmin s (List.mem_cons_self ..) _ (firstN_sound hG s hlp.1 h1 h2)⟩
    ·exact ho
theorem behind_none (v:List Int):Behind v ⟨-1,[]⟩:=⟨ok_none,fun h=>absurd rfl h⟩
theorem Min.alt {nm tx:ByteArray} {set:List (Int × Int)} {subs:List Nd} {v:List Int} (h:Min B (.mk 0 nm tx set subs) v):∀ s∈subs,∀ u,Lc B s u→slB u v=false:=fun _ hs u hu=>h.2 u ⟨.alt hs hu.1,hu.2⟩
def KeepF (B:Bk) (F G:List Fst):Prop:=∀ (r:Nat) (n:Nd) (v:List Int),B.bodies[r]? = some n→Min B n v→v.length≤256→F[r]? = some (mkF v)→G[r]? = some (mkF v)
mutual
theorem keep_min {F G:List Fst} (hF:SoundF B F) (hG:SoundF B G) (hFG:KeepF B F G) :
  ∀ n:Nd,n.lp→∀ v,Min B n v→v.length≤256→(B.wf F).firstN n=mkF v→(B.wf G).firstN n=mkF v
 | .mk k nm tx set subs,hlp,v,hm,hv,h=>by
  rw [Nd.lp] at hlp
  rw [Bk.firstN] at h ⊢
  by_cases k6:k=6
  ·rw [if_pos k6] at h ⊢
   exact h
  rw [if_neg k6] at h ⊢
  by_cases k5:k=5
  ·subst k5
   rw [if_pos rfl] at h ⊢
   cases hf:(B.wf F).firsts[(B.wf F).rule nm]? with
   | none =>
    rw [hf] at h
    have:=congrArg Fst.long h
    unfold mkF at this
    dsimp only [Option.getD_none] at this
    omega
   | some f =>
    rw [hf,Option.getD_some] at h
    subst h
    obtain ⟨⟨hlg,h2⟩,h3⟩:=hm
    cases hlg with
    | ref hb hd =>
     have:=hFG _ _ v hb ⟨⟨hd,h2⟩,fun u hu=>h3 u ⟨.ref hb hu.1,hu.2⟩⟩ hv hf
     have e:(B.wf G).firsts[(B.wf G).rule nm]? = some (mkF v):=this
     rw [e]
     rfl
    | other hk=>omega
  rw [if_neg k5] at h ⊢
  by_cases k1:k=1
  ·subst k1
   rw [if_pos rfl] at h ⊢
   have hml:MinL B subs v:=by
    obtain ⟨⟨hlg,h2⟩,h3⟩:=hm
    cases hlg with
    | seq hs=>exact ⟨⟨hs,h2⟩,fun u hu=>h3 u ⟨.seq hu.1,hu.2⟩⟩
    | other hk=>omega
   exact keep_minL hF hG hFG subs hlp.2 [] v hml (by simpa using hv) h
  rw [if_neg k1] at h ⊢
  by_cases k0:k=0
  ·subst k0
   rw [if_pos rfl] at h ⊢
   refine alt_find hG hv subs hlp.2 hm.alt ?_ _ (behind_none v)
   rcases firstAlt_one (B:=B) (F:=F) subs ⟨-1,[]⟩ with e | ⟨s,hs,e⟩
   ·rw [e] at h
    have:=congrArg Fst.long h
    unfold mkF at this
    dsimp only at this
    omega
   ·rw [e] at h
    have hok:((B.wf F).firstN s).Ok:=Bk.firstN_ok hF.ok s
    have hlg:=firstN_all hF subs hlp.2 s hs (by rw [h];unfold mkF;dsimp only;omega) (by rw [h];unfold mkF;dsimp only;omega)
    rw [h] at hlg
    exact ⟨s,hs,keep_all hF hG hFG subs hlp.2 s hs v ⟨hlg,fun u hu=>hm.alt s hs u hu⟩ hv h⟩
  rw [if_neg k0] at h ⊢
  by_cases k4:k=4
  ·subst k4
   rw [if_pos rfl] at h ⊢
   match subs,hlp,hm,h with
   | [],hlp,_,_=>exact absurd rfl (hlp.1 (by omega))
   | s::r,hlp,hm,h =>
    rw [Bk.firstHd] at h ⊢
    have hlg:=firstN_all hF (s::r) hlp.2 s (List.mem_cons_self ..) (by rw [h];unfold mkF;dsimp only;omega) (by rw [h];unfold mkF;dsimp only;omega)
    rw [h] at hlg
    exact keep_all hF hG hFG (s::r) hlp.2 s (List.mem_cons_self ..) v ⟨hlg,fun u hu=>hm.2 u ⟨.plus (.one hu.1),hu.2⟩⟩ hv h
  rw [if_neg k4] at h ⊢
  exact h
theorem keep_all {F G:List Fst} (hF:SoundF B F) (hG:SoundF B G) (hFG:KeepF B F G) :
  ∀ l:List Nd,Nd.lpL l→∀ s∈l,∀ v,Min B s v→v.length≤256→(B.wf F).firstN s=mkF v→(B.wf G).firstN s=mkF v
 | n::r,hlp,s,hs,v,hm,hv,h=>by
  rw [Nd.lpL] at hlp
  rcases List.mem_cons.1 hs with e | hs
  ·rw [e] at hm h ⊢
   exact keep_min hF hG hFG n hlp.1 v hm hv h
  ·exact keep_all hF hG hFG r hlp.2 s hs v hm hv h
theorem keep_minL {F G:List Fst} (hF:SoundF B F) (hG:SoundF B G) (hFG:KeepF B F G) :
  ∀ l:List Nd,Nd.lpL l→∀ p u,MinL B l u→p.length+u.length≤256→(B.wf F).firstSeq l (mkF p)=mkF (p++u)→(B.wf G).firstSeq l (mkF p)=mkF (p++u)
 | [],_,p,u,_,_,h=>by rw [Bk.firstSeq] at h ⊢;exact h
 | s::r,hlp,p,u,hm,hl,h=>by
  rw [Nd.lpL] at hlp
  rw [Bk.firstSeq] at h ⊢
  have hn:((B.wf F).firstN s).Ok:=Bk.firstN_ok hF.ok s
  have hp:(mkF p).Ok:=.inr ⟨by unfold mkF;dsimp only;omega,by unfold mkF;dsimp only;omega,fun _=>rfl,fun h=>by unfold mkF at h;dsimp only at h;omega⟩
  have hlong:((B.wf F).firstSeq r (joinF (mkF p) ((B.wf F).firstN s))).long≠-1:=by rw [h];unfold mkF;dsimp only;omega
  have hshort:((B.wf F).firstSeq r (joinF (mkF p) ((B.wf F).firstN s))).long≤256:=by rw [h];unfold mkF;dsimp only;rw [List.length_append];omega
  obtain ⟨h3,h4⟩:=firstSeq_long hF.ok r _ (joinF_ok hp hn) hlong
  obtain ⟨-,-,j3,j4,j5,j6⟩:=join_short hp hn h4 (by omega)
  have hs:=firstN_sound hF s hlp.1 j3 j4
  obtain ⟨u',hu',e⟩:=firstSeq_sound hF r hlp.2 _ (joinF_ok hp hn) hlong hshort
  rw [h,j5] at e
  have e':u=((B.wf F).firstN s).w++u':=by
   have:p++u=p++((B.wf F).firstN s).w++u':=e
   rw [List.append_assoc] at this
   exact List.append_cancel_left this
  obtain ⟨a,ha⟩:∃ a,((B.wf F).firstN s).w=a:=⟨_,rfl⟩
  have hna:=hn.short j3 j4
  rw [ha] at hna hs e' j5 j6
  subst e'
  obtain ⟨m1,m2⟩:=hm.parts hs.1 hu'.1
  rw [List.length_append] at hl
  have hga:=keep_min hF hG hFG s hlp.1 a m1 (by omega) hna
  rw [hna,join_mk p a (by omega)] at h
  rw [hga,join_mk p a (by omega)]
  rw [← List.append_assoc] at h ⊢
  exact keep_minL hF hG hFG r hlp.2 (p++a) u' m2 (by rw [List.length_append];omega) h
end
end
end Go.Proofs.YtppjmdanckdobaaGreatDoor
