/- Rest, plain: what has a rest is a beginning; shorter rests; what is left of the first list. -/
import Derived.Test.YtppjmdanckdobaaGreatDoorQR37
import Derived.Test.YtppjmdanckdobaaGreatDoorQR28
import Derived.Test.YtppjmdanckdobaaGreatDoorQR10
import Derived.Test.YtppjmdanckdobaaGreatDoorQR2
import Derived.Test.YtppjmdanckdobaaGreatDoorQR17
import Derived.Test.YtppjmdanckdobaaGreatDoorQR20
namespace Go.Proofs.YtppjmdanckdobaaGreatDoor
open Go.RowKit
section
variable {B:Bk} {w s:List Int}
mutual
theorem der_pre:∀ {n:Nd} {i j:Nat},Der B (w++s) n i j→j≤w.length→Der B w n i j
 | _,_,_,.tok ⟨x,h1,h2⟩,hj=>.tok ⟨x,by rw [List.getElem?_append_left (by omega)] at h1;exact h1,h2⟩
 | _,_,_,.ref h hd,hj=>.ref h (der_pre hd hj)
 | _,_,_,.seq h,hj=>.seq (derL_pre h hj)
 | _,_,_,.alt hx h,hj=>.alt hx (der_pre h hj)
 | _,_,_,.opt0,_=>.opt0
 | _,_,_,.opt h,hj=>.opt (der_pre h hj)
 | _,_,_,.star0,_=>.star0
 | _,_,_,.star h,hj=>.star (derP_pre h hj)
 | _,_,_,.plus h,hj=>.plus (derP_pre h hj)
 | _,_,_,.other hk,_=>.other hk
theorem derL_pre:∀ {l:List Nd} {i j:Nat},DerL B (w++s) l i j→j≤w.length→DerL B w l i j
 | _,_,_,.nil,_=>.nil
 | _,_,_,.cons h hr,hj=>.cons (der_pre h (Nat.le_trans hr.le.1 hj)) (derL_pre hr hj)
theorem derP_pre:∀ {n:Nd} {i j:Nat},DerP B (w++s) n i j→j≤w.length→DerP B w n i j
 | _,_,_,.one h,hj=>.one (der_pre h hj)
 | _,_,_,.more h hr,hj=>.more (derP_pre h (Nat.le_trans hr.le.1 hj)) (der_pre hr hj)
end
mutual
theorem der_nx (hB:B.Lng) (hw:(w++s).length≤64):∀ {n:Nd} {i j:Nat},Der B (w++s) n i j→i≤w.length→w.length < j→∃ t,Nx B w n i t
 | .mk _ nm _ _ _,i,_,.tok _,hi,hj=>⟨B.tok nm,.tok (by omega)⟩
 | _,_,_,.ref h hd,hi,hj=>by
  obtain ⟨t,k⟩:=der_nx hB hw hd hi hj
  exact ⟨t,.ref (dv_of_der hB hw (.ref h hd) (by rw [List.length_append];omega)) h k⟩
 | _,_,_,.seq h,hi,hj=>by
  obtain ⟨t,k⟩:=derL_nx hB hw h hi hj
  exact ⟨t,.seq (dv_of_der hB hw (.seq h) (by rw [List.length_append];omega)) k⟩
 | _,_,_,.alt hx h,hi,hj=>by
  obtain ⟨t,k⟩:=der_nx hB hw h hi hj
  exact ⟨t,.alt hx k⟩
 | _,_,_,.opt0,hi,hj=>by omega
 | _,_,_,.opt h,hi,hj=>by
  obtain ⟨t,k⟩:=der_nx hB hw h hi hj
  exact ⟨t,.loop (.inl rfl) (dv_of_der hB hw (.opt h) (by rw [List.length_append];omega)) k⟩
 | _,_,_,.star0,hi,hj=>by omega
 | _,_,_,.star h,hi,hj=>by
  rcases derP_nx hB hw h hi hj with ⟨t,k⟩ | ⟨t,a,h1,k⟩
  ·exact ⟨t,.loop (.inr (.inl rfl)) (dv_of_der hB hw (.star h) (by rw [List.length_append];omega)) k⟩
  ·exact ⟨t,.again (.inl rfl) h1 k⟩
 | _,_,_,.plus h,hi,hj=>by
  rcases derP_nx hB hw h hi hj with ⟨t,k⟩ | ⟨t,a,h1,k⟩
  ·exact ⟨t,.loop (.inr (.inr rfl)) (dv_of_der hB hw (.plus h) (by rw [List.length_append];omega)) k⟩
  ·exact ⟨t,.again (.inr rfl) h1 k⟩
 | _,_,_,.other hk,hi,hj=>by omega
theorem derL_nx (hB:B.Lng) (hw:(w++s).length≤64):∀ {l:List Nd} {i j:Nat},DerL B (w++s) l i j→i≤w.length→w.length < j→∃ t,NxL B w l i t
 | _,_,_,.nil,hi,hj=>by omega
 | _,_,_,.cons (j:=m) h hr,hi,hj=>by
  by_cases hm:m≤w.length
  ·obtain ⟨t,k⟩:=derL_nx hB hw hr hm hj
   exact ⟨t,.next (der_pre h hm) k⟩
  ·obtain ⟨t,k⟩:=der_nx hB hw h hi (by omega)
   exact ⟨t,.here k⟩
theorem derP_nx (hB:B.Lng) (hw:(w++s).length≤64):∀ {n:Nd} {i j:Nat},DerP B (w++s) n i j→i≤w.length→w.length < j→(∃ t,Nx B w n i t)∨∃ t a,DerP B w n i a∧Nx B w n a t
 | _,_,_,.one h,hi,hj=>.inl (der_nx hB hw h hi hj)
 | _,_,_,.more (j:=m) h hr,hi,hj=>by
  by_cases hm:m≤w.length
  ·obtain ⟨t,k⟩:=der_nx hB hw hr hm hj
   exact .inr ⟨t,m,derP_pre h hm,k⟩
  ·exact derP_nx hB hw h hi (by omega)
end
end
theorem d_next {B:Bk} (hB:B.Lng) {r:Nat} {w v:List Int} (hl:(w++v).length≤64) (h:B.D r (w++v)):0≤B.longN r∧∃ x,NextS B r w x:=by
 obtain ⟨n,h1,h2⟩:=h
 refine ⟨hB _ hl _ _ _ _ h1 (Nat.zero_le _) h2,?_⟩
 cases v with
 | nil =>
  rw [List.append_nil] at h2
  exact ⟨-1,.inl ⟨rfl,n,h1,h2⟩⟩
 | cons t v =>
  obtain ⟨t',k⟩:=der_nx hB hl h2 (Nat.zero_le _) (by simp)
  exact ⟨t',.inr ⟨n,t',h1,k,rfl⟩⟩
theorem NextL.some {B:Bk} {r:Nat} {w L:List Int} (h:NextL B r w L) (hx:∃ x,NextS B r w x):0 < L.length:=by
 obtain ⟨x,hx⟩:=hx
 exact List.length_pos_of_mem ((h.mem x).2 hx)
theorem RestV.d {B:Bk} {r:Nat} {w v:List Int} {more:Int} (h:RestV B r w more v):B.D r (w++v):=h.fil.derived h.der
theorem RestV.ask {B:Bk} {r:Nat} {w:List Int} {more m:Int} (hk:askR B (r:Int) w more=true) (h0:0≤m) (h8:m≤8):askR B (r:Int) w m=true:=by
 unfold askR at hk ⊢
 simp only [Bool.and_eq_true,decide_eq_true_eq] at hk ⊢
 exact ⟨hk.1,h0,h8,hk.2.2.2⟩
theorem RestV.shorter {B:Bk} {r:Nat} {w v u:List Int} {more m:Int} (h:RestV B r w more v) (hm:m.toNat < v.length) (k:RestV B r w m u):False:=by
 have h1:=k.le
 unfold mostN at h1
 exact h.no u.length (by omega) k.der
theorem RestV.again {B:Bk} {r:Nat} {w v:List Int} {more m:Int} (h:RestV B r w more v) (hm:m.toNat=v.length):¬ ∀ i,i≤mostN w m→¬ B.D r (w++rep i):=fun k=>by
 have h1:=h.le
 unfold mostN at h1 k
 exact k v.length (by omega) h.der
theorem least_min {g:Gr} (hs:soundP g) {r:Nat} (hr:r < (bookOf g).bodies.length) {w:List Int} (hw:(bookOf g).leastL r=some w):-2∉w∧(bookOf g).D r w∧∀ u,-2∉u→(bookOf g).D r u→slB u w=false:=by
 obtain ⟨B0,hB0⟩:∃ B0,book0 g (g.of [1,3]) (g.of [0])=B0:=⟨_,rfl⟩
 have hbook:bookOf g=B0.iter ((g.of [0]).length+1):=by unfold bookOf;rw [hB0]
 have hlen0:B0.bodies.length=(g.of [0]).length:=by rw [← hB0];exact bodsTo_len g _ _
 have hC:Chain B0 fun k=>(B0.iter k).firsts:=by
  refine chain_of ?_ ?_ ?_
  ·rw [← hB0];exact bods_lp hs
  ·intro f hf
   rw [← hB0] at hf
   exact (List.mem_replicate.1 (show f∈List.replicate (g.of [0]).length ⟨-1,[]⟩ from hf)).2
  ·rw [hlen0,← hB0];exact List.length_replicate
 have hbod:(bookOf g).bodies=B0.bodies:=by rw [hbook];exact (B0.iter_rest _).2.2.2
 have hwf:bookOf g=B0.wf (bookOf g).firsts:=by rw [hbook];exact iter_wf B0 _
 obtain ⟨n,hbn⟩:∃ n,B0.bodies[r]? = some n:=⟨_,List.getElem?_eq_getElem (by rw [← hbod];exact hr)⟩
 have hD:∀ u,(bookOf g).D r u↔Lg B0 n u:=fun u=>by
  rw [d_rg]
  unfold Bk.Rg
  rw [hbod,hbn,hwf]
  constructor
  ·rintro ⟨m,hm,hl⟩
   cases Option.some.inj hm
   exact lg_wf_iff.1 hl
  ·intro hl
   exact ⟨n,rfl,lg_wf_iff.2 hl⟩
 have hsF:=hC.sound ((g.of [0]).length+1)
 have hsF':SoundF B0 (bookOf g).firsts:=by rw [hbook];exact hsF
 have hf:∃ f:Fst,(bookOf g).firsts[r]? = some f∧f.long≠-1∧f.long≤256∧w=f.w:=by
  unfold Bk.leastL at hw
  split at hw
  ·rw [show ((r:Int)).toNat=r from rfl] at hw
   cases hfr:(bookOf g).firsts[r]? with
   | none=>rw [hfr] at hw;cases hw
   | some f =>
    rw [hfr] at hw
    dsimp only at hw
    split at hw
    ·cases hw
    ·rename_i hc
     cases hw
     exact ⟨f,rfl,fun e=>hc (.inl e),by omega,rfl⟩
  ·cases hw
 obtain ⟨f,hfr,h1,h2,rfl⟩:=hf
 obtain ⟨hok,hsd⟩:=hsF'.2 r f hfr
 have h3:=hsd n hbn h1 h2
 have h4:=hok.short h1 h2
 have h5:(f.w.length:Int)=f.long:=by have:=congrArg Fst.long h4;unfold mkF at this;dsimp only at this;omega
 refine ⟨h3.2,(hD _).2 h3.1,fun u hu hd=>?_⟩
 obtain ⟨v,hv,hvl⟩:=exists_min h3.1
 have hall:=hC.all hbn hv (by omega) 1
 have hfv:(bookOf g).firsts[r]? = some (mkF v):=by rw [hbook,← hlen0];exact hall
 have e:f=mkF v:=by rw [hfr] at hfv;exact Option.some.inj hfv
 have e2:f.w=v:=by rw [e];rfl
 rw [e2]
 exact hv.2 u ⟨(hD _).1 hd,hu⟩
theorem rest_left {g:Gr} (hs:soundP g) (hf:g.Fine) {r:Nat} (hr:r < (bookOf g).bodies.length) {p u v:List Int} (hw:(bookOf g).leastL r=some (p++u)) (h:RestV (bookOf g) r p 8 v):v.length≤u.length∧(v.length=u.length→v=u):=by
 obtain ⟨h1,h2,h3⟩:=least_min hs hr hw
 have hn:=hf.names
 have hf':=hf
 obtain ⟨es,M,N,he,hM,hN,ht⟩:=hf'
 have htk:=book_toks ht hn
 have hkr:=kindsTo_rise g (g.of [1,3]) (g.of [1,3]).length
 rw [← bookOf_kinds] at hkr
 have hle:v.length≤u.length:=by
  rcases Nat.lt_or_ge u.length v.length with hl | hl
  ·exact absurd (d_wild h2 (Wld.app (Wld.refl p) (wld_rep u))) (h.no _ hl)
  ·exact hl
 refine ⟨hle,fun e=>?_⟩
 have hku:∀ x∈u,x∈(bookOf g).kinds:=fun x hx=>by
  rcases rg_toks htk (d_rg.1 h2) x (List.mem_append_right _ hx) with rfl | hk
  ·exact absurd (List.mem_append_right _ hx) h1
  ·exact hk
 have a1:=h.fil.least e.symm hku h2
 have hnv:-2∉p++v:=fun hc=>(List.mem_append.1 hc).elim (fun hc=>h1 (List.mem_append_left _ hc)) fun hc=>by
  have:=(hkr.1 _ (h.fil.kinds _ hc)).1
  omega
 have a2:=h3 (p++v) hnv h.d
 unfold slB at a2
 rw [if_pos (by rw [List.length_append,List.length_append,e])] at a2
 refine lexB_tri e ?_ a1
 cases hc:lexB v u
 ·rfl
 ·rw [lexB_pref p hc] at a2
  cases a2
theorem rest_there {B:Bk} {r:Nat} {p u:List Int} (h:B.D r (p++u)) (h8:u.length≤8) (hl:p.length+u.length≤48):¬ ∀ m,m≤mostN p 8→¬ B.D r (p++rep m):=fun k=>by
 refine k u.length ?_ (d_wild h (Wld.app (Wld.refl p) (wld_rep u)))
 unfold mostN
 omega
theorem reach_one {O:Nat→Nat→Prop} {n m:Nat} {M N:List (List Bool)} (h:IsReach O n M) (k:IsReach O m N):at2 M=at2 N:=by
 funext a b
 rw [Bool.eq_iff_iff,h.tc,k.tc]
theorem fine_not {g:Gr} (h:g.Fine) (k:∃ es M N,g.IsEmpty es∧IsReach (g.Once es) g.rules.length M∧IsReach g.rd0 g.rules.length N∧g.told es (at2 M) (at2 N)≠[]):False:=by
 obtain ⟨es,M,N,h1,h2,h3,h4⟩:=h
 obtain ⟨es',M',N',k1,k2,k3,k4⟩:=k
 obtain rfl:=h1.unique k1
 rw [← reach_one h2 k2,← reach_one h3 k3] at k4
 exact k4 h4
end Go.Proofs.YtppjmdanckdobaaGreatDoor

/- Two appends in a region that draws its order: the second one may write behind the first one's row. -/
namespace Go.Proofs.YtppjmdanckdobaaGreatDoor
open Go.RowKit
def Spr (L n:Nat) (N:List Value) (w w':World):Prop:=Below L w w'∧∀ k,k < w.heap.size→w'.heap[k]? = w.heap[k]? ∨
 ∃ (cur cur':Array Value) (e:TypeId) (fr:Nat × Nat),w.heap[k]? = some (.cells cur e fr)∧w'.heap[k]? = some (.cells cur' e fr)∧cur'.size=cur.size∧n+N.length≤cur.size∧cur'.toList.take (n+N.length)=cur.toList.take n++N
section
variable {L n:Nat} {N:List Value} {w w':World}
theorem Spr.of_grew (hL:L≤w.heap.size) (h:Grew w w'):Spr L n N w w':=⟨Below.mono h hL,fun k hk=>.inl (h.block k hk)⟩
end
theorem intVs_app (l m:List Int):intVs (l++m)=intVs l++intVs m:=by unfold intVs;rw [List.map_append]
theorem intVs_ln (l:List Int):(intVs l).length=l.length:=by unfold intVs;rw [List.length_map]
theorem int_append {L n:Nat} {l m:List Int} (hn:l.length=n) (hlm:l.length+m.length≤1000000) {w:World} {v:Value} (hv:looseRow w L 3 1 v n (intVs l)) {a:Option Addr} {c mm:Nat} (hmm:m.length=mm) (hI:IntsAt w w.heap.size a m) (hL:L≤w.heap.size) :
  ∃ r w',(Builtin.append_ #[22,22] 22 #[v,.slice a mm c]).run Tryz.prog w=.ok r w'∧Spr L n (intVs m) w w'∧looseRow w' L 3 1 r (n+mm) (intVs (l++m))∧(v=.slice none 0 0→Grew w w'):=by
 obtain ⟨i0,hi,hz0,hz1,hz2⟩:=info_parts info_int
 subst hmm
 have hxl:=intVs_ln l
 have hml:=intVs_ln m
 have hlen:(intVs (l++m)).length=(n+m.length) * 1:=by rw [intVs_ln,List.length_append,hn,Nat.mul_one]
 cases m with
 | nil =>
  exact ⟨v,w,run_append_nothing w 22 22 L 3 i0 1 Tryz.underlying22 hi hz1 v n (intVs l) hv a c,⟨Below.refl _ _,fun k hk=>.inl rfl⟩,by rw [List.append_nil];exact hv,fun _=>Grew.refl w⟩
 | cons x r =>
  obtain ⟨b,off,rfl,-,-⟩:=hI 0 (by simp)
  obtain ⟨ad,had⟩:∃ ad:Addr,(⟨b,off,none⟩:Addr)=ad:=⟨_,rfl⟩
  rw [had] at hI ⊢
  have hcc:∀ j u,(intVs (x::r))[j]? = some u→w.cell? (ad.add j)=some u:=fun j u hj=>((cellsIn_int hI) j u hj).2
  obtain ⟨m,hm⟩:∃ m,x::r=m:=⟨_,rfl⟩
  have hm0:0 < m.length:=by rw [← hm];simp
  rw [hm] at hcc hlm hml hlen ⊢
  clear hm had hI
  have hml':(intVs m).length=m.length * i0.size:=by rw [hz1,Nat.mul_one];exact hml
  have grown:∀ (old:Nat),old < n+m.length→Grew w (w.drew.alloc (.cells ((intVs l).toArray++(intVs m).toArray++Builtin.zeroCells (Value.int .i64 0).cells (grownCap w (n+m.length) old 3 - (n+m.length))) 3)) ∧
    looseRow (w.drew.alloc (.cells ((intVs l).toArray++(intVs m).toArray++Builtin.zeroCells (Value.int .i64 0).cells (grownCap w (n+m.length) old 3 - (n+m.length))) 3)) L 3 1 (.slice (some ⟨w.heap.size,0,none⟩) (n+m.length) (grownCap w (n+m.length) old 3)) (n+m.length) (intVs (l++m)):=by
   intro old ho
   have hge:=grownCap_ge w (n+m.length) old 3
   have hcm:grownCap w (n+m.length) old 3≤maxLen:=grownCap_le_maxLen w (n+m.length) old 3 (by unfold maxLen;omega)
   refine ⟨⟨rfl,rfl,rfl,by simp,fun k hk=>(Below.refl _ w.drew).alloc (Nat.le_refl _) _ |>.block k hk⟩,hlen,.inr ⟨w.heap.size,_,_,rfl,hL,heap_alloc_new w.drew _,hge,hcm,?_,?_⟩⟩
   ·apply Nat.le_of_eq
    simp only [Array.size_append,List.size_toArray,size_zeroCells,hxl,hml,hn,show (Value.int .i64 0).cells.size=1 from rfl,Nat.mul_one]
    omega
   ·simp only [Array.toList_append,List.append_assoc]
    rw [← List.append_assoc,← intVs_app,← hlen]
    exact List.take_left
  rcases hv.2 with ⟨rfl,rfl⟩ | ⟨g,cap,cur,rfl,h1,h2,h3,h4,h5,h6⟩
  ·obtain rfl:l=[]:=List.eq_nil_of_length_eq_zero hn
   have hr:=run_append_nil (P:=Tryz.prog) w 22 22 3 i0 (.int .i64 0) Tryz.underlying22 hi hz0 ad m.length c (intVs m) hml' hcc hm0 (by omega) (by rw [hz2];omega)
   have hgr:=grown 0 (by omega)
   simp only [Nat.zero_add,List.nil_append] at hgr ⊢
   refine ⟨_,_,hr,Spr.of_grew hL ?_,by simpa [intVs] using hgr.2,fun _=>?_⟩<;>simpa [intVs] using hgr.1
  ·rw [Nat.mul_one] at h6
   by_cases hroom:n+m.length≤cap
   ·have hfit:n * i0.size+(intVs m).length≤cur.size:=by rw [hz1,hml];omega
    have hr:=run_append_room (P:=Tryz.prog) w 22 22 3 i0 Tryz.underlying22 hi g n cap cur h2 ad m.length c (intVs m) hml' hcc (intVs_one m) hroom hfit
    have hlt:=(Array.getElem?_eq_some_iff.1 h2).1
    rw [hz1,Nat.mul_one] at hr
    have hcl:(cur.toList.take n++intVs m++cur.toList.drop (n+(intVs m).length)).toArray.size=cur.size:=by
     simp only [List.size_toArray,List.length_append,List.length_take,List.length_drop,Array.length_toList]
     omega
    have htk:(cur.toList.take n++intVs m++cur.toList.drop (n+(intVs m).length)).take (n+(intVs m).length)=cur.toList.take n++intVs m:=by
     have hl:(cur.toList.take n++intVs m).length=n+(intVs m).length:=by
      rw [List.length_append,List.length_take,Array.length_toList];omega
     rw [← hl]
     exact List.take_left
    have hh:=setRow_heap w g cur (cur.toList.take n++intVs m++cur.toList.drop (n+(intVs m).length)).toArray 3 _ h2
    refine ⟨_,_,hr,⟨⟨rfl,rfl,rfl,by simp,fun k hk=>setRow_other w g k _ (by omega)⟩,fun k hk=>?_⟩,⟨hlen,.inr ⟨g,cap,_,rfl,h1,hh,hroom,h4,by omega,?_⟩⟩,?_⟩
    ·by_cases hkg:k=g
     ·subst hkg
      exact .inr ⟨_,_,_,_,h2,hh,hcl,by omega,htk⟩
     ·exact .inl (setRow_other w g k _ hkg)
    ·rw [Nat.mul_one,intVs_app,← h6]
     have htk':=htk
     rw [show n+(intVs m).length=n+m.length by rw [hml]] at htk'
     simpa only [hml] using htk'
    ·intro e
     cases e
   ·have holds:∀ j u,(intVs l)[j]? = some u→w.cell? ((⟨g,0,none⟩:Addr).add j)=some u:=fun j u hj=>by
     have:=looseRow_cells hv (g:=g) rfl j u hj
     rw [show (⟨g,0,none⟩:Addr).add j=⟨g,j,none⟩ by unfold Addr.add;split<;>simp_all]
     exact this
    have hr:=run_append_grow (P:=Tryz.prog) w 22 22 3 i0 (.int .i64 0) Tryz.underlying22 hi hz0 ⟨g,0,none⟩ n cap (intVs l) (by rw [hz1,Nat.mul_one,hxl,hn]) holds ad m.length c (intVs m) hml' hcc (by omega) (by omega) (growslice_fits (by omega) (by rw [hz2];omega))
    exact ⟨_,_,hr,Spr.of_grew hL (grown cap (by omega)).1,(grown cap (by omega)).2,fun e=>by cases e⟩
theorem wpList_append_want {P:Program} {ops:Array Oper} {rest:List Oper} {o:Oper} {a:Act} {w w':World} {Q:Exit→Act→World→Prop} (s x:Operand) (t tn:TypeId)
  (ho:o.op=.call { callee:=.builtin .append,args:=#[s,x],argTypes:=#[t,tn] }) (hgd:Region.wanted o (yielded ops a.tmps)=true) (vs vx v:Value) (hs:a.eval s=vs) (hx:a.eval x=vx)
  (hr:(Builtin.append_ #[t,tn] o.type #[vs,vx]).run P w=.ok v w') (h:wpList P ops Q rest (a.put o.dst v) w'):wpList P ops Q (o::rest) a w:=by
 unfold wpList
 rw [if_pos hgd]
 left
 unfold Oper.wp execOp
 simp only [ho,resolve,invoke,builtin,Sem.run_bind,Sem.run_pure,Result.andThen_ok,List.map_toArray,List.map_cons,List.map_nil,hs,hx,hr]
 exact h
end Go.Proofs.YtppjmdanckdobaaGreatDoor

/- Plain law: who goes on to whom,of rules that are no parser's,as it is marked node by node. -/
namespace Go.Proofs.YtppjmdanckdobaaGreatDoor
def Gr.rdHit (g:Gr) (r:Rl) (n:Nd):Bool:=n.isName&&(!r.parser&&(decide (0≤g.find n.name)&&!(g.sortAt (g.find n.name) == 0)))
def Gr.rdMark (g:Gr) (r:Rl) (l:List Bool) (n:Nd):List Bool:=if g.rdHit r n then l.set (g.find n.name).toNat true else l
def Gr.rdMarks (g:Gr) (r:Rl) (ns:List Nd):List Bool:=ns.foldl (g.rdMark r) (List.replicate g.rules.length false)
theorem rdMarks_snoc (g:Gr) (r:Rl) (ns:List Nd) (n:Nd):g.rdMarks r (ns++[n])=g.rdMark r (g.rdMarks r ns) n:=by
 unfold Gr.rdMarks
 rw [List.foldl_append]
 rfl
theorem rdMark_length (g:Gr) (r:Rl) (l:List Bool) (n:Nd):(g.rdMark r l n).length=l.length:=by
 unfold Gr.rdMark
 split<;>simp
theorem rdMarks_length (g:Gr) (r:Rl) (ns:List Nd):(g.rdMarks r ns).length=g.rules.length:=by
 unfold Gr.rdMarks
 have:∀ (ns:List Nd) (l:List Bool),(ns.foldl (g.rdMark r) l).length=l.length:=by
  intro ns
  induction ns with
  | nil=>intro l;rfl
  | cons n ns ih=>intro l;rw [List.foldl_cons,ih,rdMark_length]
 rw [this]
 simp
theorem rdMarks_iff (g:Gr) (r:Rl) (k:Nat) (hk:k < g.rules.length):∀ (ns:List Nd) (l:List Bool),l.length=g.rules.length →
  ((ns.foldl (g.rdMark r) l).getD k false=true↔l.getD k false=true∨∃ m∈ns,g.rdHit r m=true∧g.find m.name=(k:Int)):=by
 intro ns
 induction ns with
 | nil=>intro l _;simp
 | cons n ns ih =>
  intro l hl
  rw [List.foldl_cons,ih _ (by rw [rdMark_length,hl])]
  have h1:(g.rdMark r l n).getD k false=true↔l.getD k false=true∨(g.rdHit r n=true∧g.find n.name=(k:Int)):=by
   unfold Gr.rdMark
   split
   ·next hh =>
    rw [getD_set]
    have hpos:0≤g.find n.name:=by
     unfold Gr.rdHit at hh
     simp only [Bool.and_eq_true,decide_eq_true_eq] at hh
     exact hh.2.2.1
    split
    ·next he =>
     refine ⟨fun _=>.inr ⟨hh,by omega⟩,fun _=>rfl⟩
    ·next he =>
     refine ⟨.inl,fun h=>h.elim id fun h=>absurd ⟨by omega,by omega⟩ he⟩
   ·next hh=>exact ⟨.inl,fun h=>h.elim id fun h=>absurd h.1 hh⟩
  rw [h1]
  constructor
  ·rintro ((h | h) | ⟨m,hm,h⟩)
   ·exact .inl h
   ·exact .inr ⟨n,List.mem_cons_self ..,h⟩
   ·exact .inr ⟨m,List.mem_cons_of_mem _ hm,h⟩
  ·rintro (h | ⟨m,hm,h⟩)
   ·exact .inl (.inl h)
   ·rcases List.mem_cons.1 hm with rfl | hm
    ·exact .inl (.inr h)
    ·exact .inr ⟨m,hm,h⟩
def Gr.rdM (g:Gr):List (List Bool):=g.rules.map fun r=>g.rdMarks r r.body.all
theorem rdM_square (g:Gr):Square g.rules.length g.rdM:=by
 refine ⟨by simp [Gr.rdM],fun i h=>?_⟩
 simp only [Gr.rdM,List.getElem_map]
 exact rdMarks_length ..
theorem rdM_at (g:Gr) (i k:Nat) (hi:i < g.rules.length):at2 g.rdM i k=(g.rdMarks g.rules[i] g.rules[i].body.all).getD k false:=by
 unfold at2 Gr.rdM
 rw [List.getD_eq_getElem?_getD (l:=List.map _ _),List.getElem?_map,List.getElem?_eq_getElem hi]
 rfl
theorem rdM_iff (g:Gr) (i k:Nat):at2 g.rdM i k=true↔g.rd0 i k:=by
 constructor
 ·intro h
  obtain ⟨hi,hk⟩:=at2_lt (rdM_square g) h
  rw [rdM_at g i k hi] at h
  unfold Gr.rdMarks at h
  rw [rdMarks_iff g _ k hk _ _ (by simp)] at h
  rcases h with h | ⟨m,hm,h1,h2⟩
  ·rw [List.getD_eq_getElem?_getD,List.getElem?_replicate] at h
   split at h<;>simp at h
  ·unfold Gr.rdHit at h1
   rw [h2,sortAt_nat g k hk] at h1
   simp only [Bool.and_eq_true,Bool.not_eq_true'] at h1
   exact ⟨hi,hk,h1.2.1,h1.2.2.2,m,hm,h1.1,h2⟩
 ·rintro ⟨hi,hk,h1,h2,m,hm,h3,h4⟩
  rw [rdM_at g i k hi]
  unfold Gr.rdMarks
  rw [rdMarks_iff g _ k hk _ _ (by simp)]
  refine .inr ⟨m,hm,?_,h4⟩
  unfold Gr.rdHit
  rw [h3,h1,h4,sortAt_nat g k hk]
  have:(g.rules[k].sort == 0)=false:=h2
  rw [this]
  simp
end Go.Proofs.YtppjmdanckdobaaGreatDoor

/- The rows of a square of bools in memory: the slices of the rows in block rb,the rows in blocks of their own. -/
namespace Go.Proofs.YtppjmdanckdobaaGreatDoor
open Go.RowKit
structure MatR (W:World) (B rb n j:Nat) (f:Nat→Nat) (row:Nat→List Bool):Prop where
 r:Owns W rb (rowsL f n j) 151
 rows:∀ i,i < j→Owns W (f i) ((row i).map .bool) 4
 len:∀ i,i < j→(row i).length=n
 inj:∀ i k,i < j→k < j→i≠k→f i≠f k
 lo:∀ i,i < j→B≤f i
 rb_lt:rb < B
 jn:j≤n
theorem MatR.keep {W W':World} {B rb n j:Nat} {f:Nat→Nat} {row:Nat→List Bool} (h:MatR W B rb n j f row) (hg:Grew W W'):MatR W' B rb n j f row :=
 ⟨h.r.keep hg,fun i hi=>(h.rows i hi).keep hg,h.len,h.inj,h.lo,h.rb_lt,h.jn⟩
theorem MatR.of {W W':World} {B rb n j:Nat} {f:Nat→Nat} {row:Nat→List Bool} (h:MatR W B rb n j f row) (hk:∀ b cs T,(T=151∨T=4)→Owns W b cs T→Owns W' b cs T):MatR W' B rb n j f row :=
 ⟨hk _ _ _ (.inl rfl) h.r,fun i hi=>hk _ _ _ (.inr rfl) (h.rows i hi),h.len,h.inj,h.lo,h.rb_lt,h.jn⟩
theorem MatR.next {W W':World} {B rb n j t:Nat} {f:Nat→Nat} {row:Nat→List Bool} {l:List Bool} (h:MatR W B rb n j f row) (hg:Upd t (W.setCell ⟨rb,j,none⟩ (.slice (some ⟨t,0,none⟩) n n)) W') (ht:Owns W' t (l.map .bool) 4) (hl:l.length=n)
  (hB:B≤t) (hnew:∀ i,i < j→f i≠t) (hj:j < n):MatR W' B rb n (j+1) (fun k=>if k=j then t else f k) (fun k=>if k=j then l else row k):=by
 have hb:rb < B:=h.rb_lt
 refine ⟨?_,fun i hi=>?_,fun i hi=>?_,fun i k hi hk hne=>?_,fun i hi=>?_,hb,by omega⟩
 ·have:=(h.r.set j (.slice (some ⟨t,0,none⟩) n n)).upd hg (by omega)
  rwa [rowsL_next] at this
 ·by_cases e:i=j
  ·subst e;simpa using ht
  ·have hi':i < j:=by omega
   have h1:=h.lo i hi'
   have:=((h.rows i hi').other (a:=⟨rb,j,none⟩) (by show rb≠f i;omega) (.slice (some ⟨t,0,none⟩) n n)).upd hg (hnew i hi')
   simpa [e] using this
 ·by_cases e:i=j
  ·subst e;simpa using hl
  ·simpa [e] using h.len i (by omega)
 ·by_cases e:i=j
  ·subst e
   have:¬ k=i:=fun x=>hne x.symm
   simp only [if_true,this,if_false]
   exact fun x=>hnew k (by omega) x.symm
  ·by_cases e2:k=j
   ·subst e2
    simp only [e,if_false,if_true]
    exact hnew i (by omega)
   ·simp only [e,e2,if_false]
    exact h.inj i k (by omega) (by omega) hne
 ·by_cases e:i=j
  ·subst e;simpa using hB
  ·simpa [e] using h.lo i (by omega)
theorem MatR.put {W:World} {B rb n:Nat} {f:Nat→Nat} {M:List (List Bool)} (h:MatR W B rb n n f (fun i=>M.getD i [])) (hs:Square n M) {i k:Nat} (hi:i < n) (b:Bool) :
  MatR (W.setCell ⟨f i,k,none⟩ (.bool b)) B rb n n f (fun j=>(set2 M i k b).getD j []):=by
 have h1:=h.lo i hi
 have hb:rb < B:=h.rb_lt
 have hget:∀ j,(set2 M i k b).getD j []=if j=i then (M.getD i []).set k b else M.getD j []:=by
  intro j
  unfold set2
  by_cases e:j=i
  ·subst e;simp [List.getD_eq_getElem?_getD,hs.1,hi]
  ·simp only [List.getD_eq_getElem?_getD,List.getElem?_set_ne (fun x=>e x.symm),e,if_false]
 refine ⟨h.r.other (by show f i≠rb;omega) _,fun j hj=>?_,fun j hj=>?_,h.inj,h.lo,hb,h.jn⟩
 ·rw [hget]
  by_cases e:j=i
  ·subst e
   simp only [if_true]
   have:=(h.rows j hj).set k (.bool b)
   rwa [← List.map_set] at this
  ·simp only [e,if_false]
   exact (h.rows j hj).other (by show f i≠f j;exact h.inj i j hi hj (fun x=>e x.symm)) _
 ·rw [hget]
  split
  ·rename_i e;subst e;simpa using h.len j hj
  ·exact h.len j hj
theorem MatR.cell {W:World} {B rb n:Nat} {f:Nat→Nat} {M:List (List Bool)} (h:MatR W B rb n n f (fun i=>M.getD i [])) {i k:Nat} (hi:i < n) (hk:k < n):W.cell? ⟨f i,k,none⟩=some (.bool (at2 M i k)):=by
 have h1:=h.rows i hi
 have h2:=h.len i hi
 refine h1.cell_at ?_
 unfold at2
 rw [List.getElem?_map,List.getElem?_eq_getElem (by omega),List.getD_eq_getElem?_getD (l:=M.getD i []),List.getElem?_eq_getElem (by omega)]
 rfl
theorem MatR.row {W:World} {B rb n j:Nat} {f:Nat→Nat} {row:Nat→List Bool} (h:MatR W B rb n j f row) {i:Nat} (hi:i < j):W.cell? ⟨rb,i,none⟩=some (.slice (some ⟨f i,0,none⟩) n n):=by
 have:=h.jn
 rw [h.r.cell,rowsL_at _ _ _ _ (by omega),if_pos hi]
theorem MatR.congr {W:World} {B rb n j:Nat} {f:Nat→Nat} {row row':Nat→List Bool} (h:MatR W B rb n j f row) (he:∀ i,i < j→row i=row' i):MatR W B rb n j f row' :=
 ⟨h.r,fun i hi=>by rw [← he i hi];exact h.rows i hi,fun i hi=>by rw [← he i hi];exact h.len i hi,h.inj,h.lo,h.rb_lt,h.jn⟩
theorem Mat.matR {W:World} {B ob rb n j:Nat} {f:Nat→Nat} {row:Nat→List Bool} (h:Mat W B ob rb n j f row):MatR W B rb n j f row:=⟨h.r,h.rows,h.len,h.inj,h.lo,h.rb_lt,h.jn⟩
end Go.Proofs.YtppjmdanckdobaaGreatDoor
