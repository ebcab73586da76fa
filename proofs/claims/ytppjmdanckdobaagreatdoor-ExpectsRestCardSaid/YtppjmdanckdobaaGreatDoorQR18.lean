/- nodes.all: a node and all that lie below it, each with how deep it lies: the contract of the iterator. -/
import Derived.Test.YtppjmdanckdobaaGreatDoorRows
import Derived.Test.YtppjmdanckdobaaGreatDoorShelf
import Derived.Shelf.Unicode.DecodeAny
import Derived.Lib.TrimUEq
import Derived.Lib.Hide
import Derived.Outline
import Derived.WalkKit
import Derived.ProofKit
import Derived.Shelf.Strings.SlTrimAscii
import Derived.Test.YtppjmdanckdobaaGreatDoorQR17
import Derived.Test.YtppjmdanckdobaaGreatDoorQR3
import Derived.Test.YtppjmdanckdobaaGreatDoorQR5
import Derived.Test.YtppjmdanckdobaaGreatDoorQR14
namespace Go.Proofs.YtppjmdanckdobaaGreatDoor
open Go.RowKit Go.Shelf
open Lib (hid)
attribute [local go_sem] Oper.semAt_some
structure DV (W0:World) (lim:Nat) where
 d:Int
 x:NV W0 lim
def DV.enc {W0:World} {lim:Nat} (y:DV W0 lim):Array Value:=#[.int .i64 y.d,.agg #[y.x.v0,y.x.v1,y.x.v2,y.x.v3,y.x.v4]]
def DV.p {W0:World} {lim:Nat} (y:DV W0 lim):Int × Nd:=(y.d,y.x.n)
def DV.n {W0:World} {lim:Nat} (y:DV W0 lim):Nd:=y.x.n
mutual
def Nd.alld (d:Int):Nd→List (Int × Nd)
 | .mk k nm tx set subs=>(d,.mk k nm tx set subs)::Nd.alldL (wrap64 (d+1)) subs
def Nd.alldL (d:Int):List Nd→List (Int × Nd)
 | []=>[]
 | x::r=>Nd.alld d x++Nd.alldL d r
end
theorem alldL_append (d:Int):∀ a b:List Nd,Nd.alldL d (a++b)=Nd.alldL d a++Nd.alldL d b
 | [],b=>by rw [Nd.alldL];rfl
 | x::r,b=>by rw [List.cons_append,Nd.alldL,Nd.alldL,alldL_append d r b,List.append_assoc]
theorem alldL_take (d:Int) (l:List Nd) (j:Nat) (h:j < l.length):Nd.alldL d (l.take (j+1))=Nd.alldL d (l.take j)++l[j].alld d:=by
 rw [List.take_succ_eq_append_getElem h,alldL_append,Nd.alldL,Nd.alldL,List.append_nil]
theorem alldL_take_le (d:Int) (l:List Nd) (j:Nat) (h:j < l.length):Nd.alldL d (l.take j)++l[j].alld d <+: Nd.alldL d l:=by
 refine ⟨Nd.alldL d (l.drop (j+1)),?_⟩
 rw [← alldL_take d l j h,← alldL_append,List.take_append_drop]
structure KpA (lim B0:Nat) (W W':World):Prop where
 low:Below lim W W'
 box:∀ (b:Nat) (cs:Array Value) (T:Nat) (f:Nat × Nat),B0≤b→W.heap[b]? = some (.cells cs T f)→W'.heap[b]? = some (.cells cs T f)
theorem KpA.refl (lim B0:Nat) (W:World):KpA lim B0 W W:=⟨Below.refl _ _,fun _ _ _ _ _ h=>h⟩
theorem KpA.trans {lim B0:Nat} {A B C:World} (h:KpA lim B0 A B) (k:KpA lim B0 B C):KpA lim B0 A C:=⟨h.low.trans k.low,fun b cs T f hB hb=>k.box b cs T f hB (h.box b cs T f hB hb)⟩
theorem KpA.grew {lim B0:Nat} {A B:World} (h:Grew A B) (hl:lim≤A.heap.size):KpA lim B0 A B :=
 ⟨h.mono hl,fun b cs T f _ hb=>by rw [h.block b (Array.getElem?_eq_some_iff.1 hb).1];exact hb⟩
theorem KpA.owns {lim B0:Nat} {A B:World} (h:KpA lim B0 A B) {b T:Nat} {cs:List Value} (hB:B0≤b) (ho:Owns A b cs T):Owns B b cs T:=h.box b _ _ _ hB ho
theorem enters_all3:Enters 108:=fun _ _=>by kernel_rfl
theorem enters_all2:Enters 107:=fun _ _=>by kernel_rfl
def AllCameA {W0:World} {lim:Nat} (B0:Nat) (J:List (DV W0 lim)→World→Prop) (pre:List (DV W0 lim)) (L:List (Int × Nd)) (W W':World):Prop:=∃ q:List (DV W0 lim),q.map DV.p=L∧J (pre++q) W'∧KpA lim B0 W W'
def PartCameA {W0:World} {lim:Nat} (Jx:List (DV W0 lim)→World→Prop) (pre:List (DV W0 lim)) (L:List (Int × Nd)) (W':World):Prop:=∃ q:List (DV W0 lim),q.map DV.p <+: L∧Jx (pre++q) W'
set_option maxHeartbeats 1000000 in
set_option maxRecDepth 20000 in
theorem all3_in (F:Fence) (hd:F.depth=none) (hfn:∀ k,F.fn k) (hro:F.round=none) (yb wb db:Nat) (d:Int) (v0 v1 v2 v3 v4:Value) (A B:World→Prop) (n:Nat) (W:World)
  (hw:W.cell? ⟨wb,0,none⟩=some (.func (.func 107) #[] #[.pointer (some ⟨yb,0,none⟩),.pointer (some ⟨wb,0,none⟩)])) (hdb:W.cell? ⟨db,0,none⟩=some (.int .i64 d))
  (H:∀ m W1,Grew W W1→CallsIn F m Tryz.prog 107 (#[.int .i64 (wrap64 (d+1)),.agg #[v0,v1,v2,v3,v4]]++#[.pointer (some ⟨yb,0,none⟩),.pointer (some ⟨wb,0,none⟩)]) W1 (YesNo A B)) :
  CallsIn F n Tryz.prog 108 (#[.agg #[v0,v1,v2,v3,v4]]++#[.pointer (some ⟨wb,0,none⟩),.pointer (some ⟨db,0,none⟩)]) W (YesNo B A):=by
 have hdd:∀ k:Nat,(F.depth.isSome=true→1≤k):=fun k h=>by rw [hd] at h;cases h
 have hgr:=grew_alloc W (.cells #[v0,v1,v2,v3,v4] 80)
 have hl:=lt_of_cell hw
 have hl2:=lt_of_cell hdb
 have hS:=hid (fun m=>H m _ hgr)
 have hEx:=enters_all2
 unfold Enters at hEx
 clear H hgr
 simp only [List.append_toArray,List.cons_append,List.nil_append] at hS ⊢
 refine callsIn_of_wp Tryz.func108 rfl (hfn _) ?_ hro
 simp only [Tryz.ntmps108,List.size_toArray,List.length_cons,List.length_nil,Nat.reduceAdd,Nat.reduceSub,Array.replicate_succ,Array.replicate_zero,List.push_toArray,List.append_toArray,List.nil_append,List.cons_append]
 gi_wp2_with ((try refine ⟨hdd _,?_⟩);refine (hS.out _).mono ?_;rintro e w' (⟨rfl,h2⟩ | ⟨rfl,h2⟩))
 ·go_ret
  exact .inr ⟨rfl,h2⟩
 ·go_ret
  exact .inl ⟨rfl,h2⟩
set_option maxHeartbeats 4000000 in
set_option maxRecDepth 20000 in
theorem walkA_ok (F:Fence) (hd:F.depth=none) (hfn:∀ k,F.fn k) (hro:F.round=none) (l lim B0 N yb wb:Nat) (W0:World) (hlim:lim≤W0.heap.size) (hyb:B0≤yb) (hwb:B0≤wb) (J Jx:List (DV W0 lim)→World→Prop) (hJ:∀ s A B,J s A→Grew A B→J s B)
  (hY:∀ m pre (x:DV W0 lim) W,J pre W→Below lim W0 W→pre.length < N→YieldAt F m Tryz.prog l x.enc W (YesNo (fun W'=>J (pre++[x]) W'∧KpA lim B0 W W') (Jx (pre++[x])))) :
  ∀ n:Nd,∀ (m:Nat) (d:Int) (v0 v1 v2 v3 v4:Value) (_:NodeAt W0 lim (some v0) (some v1) (some v2) (some v3) (some v4) n) (pre:List (DV W0 lim)) (W:World),J pre W→Below lim W0 W→pre.length+(n.alld d).length≤N →
   Owns W yb [.func (.yield l) #[] #[]] 183→Owns W wb [.func (.func 107) #[] #[.pointer (some ⟨yb,0,none⟩),.pointer (some ⟨wb,0,none⟩)]] 183 →
   CallsIn F m Tryz.prog 107 #[.int .i64 d,.agg #[v0,v1,v2,v3,v4],.pointer (some ⟨yb,0,none⟩),.pointer (some ⟨wb,0,none⟩)] W (YesNo (AllCameA B0 J pre (n.alld d) W) (PartCameA Jx pre (n.alld d))):=by
 have hdd:∀ k:Nat,(F.depth.isSome=true→1≤k):=fun k h=>by rw [hd] at h;cases h
 refine Nd.ind ?_
 intro k nm tx set subs ih m d v0 v1 v2 v3 v4 hN pre W hj hb hlen hoy how
 obtain ⟨x,hx⟩:∃ x:DV W0 lim,x=⟨d,⟨_,_,_,_,_,_,hN⟩⟩:=⟨_,rfl⟩
 have hxe:x.enc=#[.int .i64 d,.agg #[v0,v1,v2,v3,v4]]:=by rw [hx];rfl
 have hxn:x.p=(d,.mk k nm tx set subs):=by rw [hx];rfl
 clear hx
 rw [NodeAt] at hN
 obtain ⟨hk,h1,h2,h3,h4,h5,⟨sa,sc,h6,h6',h7⟩,na,nc,h8,h8',h9⟩:=hN
 obtain rfl:=Option.some.inj h3
 obtain rfl:=Option.some.inj h4
 obtain rfl:=Option.some.inj h5
 obtain rfl:=Option.some.inj h6
 obtain rfl:=Option.some.inj h8
 clear h3 h4 h5 h6 h7 h8
 rw [Nd.alld,List.length_cons] at hlen
 have hg1:=grew_alloc W (.cells #[.int .i64 d] 3)
 have hg2:=grew_alloc (W.alloc (.cells #[.int .i64 d] 3)) (.cells #[.int .u8 k,.string nm,.string tx,.slice sa set.length sc,.slice na subs.length nc] 80)
 have ho1:=(Owns.alloc W [.int .i64 d] 3).keep hg2
 have ho2:=Owns.alloc (W.alloc (.cells #[.int .i64 d] 3)) [.int .u8 k,.string nm,.string tx,.slice sa set.length sc,.slice na subs.length nc] 80
 have e1:(W.alloc (.cells #[.int .i64 d] 3)).heap.size=W.heap.size+1:=by simp
 rw [e1] at ho2
 clear e1
 have hg:=hg1.trans hg2
 have hsz:=hb.size
 have hBW:B0≤W.heap.size:=by have:=hoy.lt;omega
 have hbA:=hb.trans (hg.mono (show lim≤W.heap.size by omega))
 have hYA:=hY (m - 1) pre x _ (hJ _ _ _ hj hg) hbA (by omega)
 obtain ⟨fn,tmps,assign,body,hy,hR⟩:=hYA
 rw [hxe] at hy
 have HKG:=hid (KpA.grew (B0:=B0) hg (show lim≤W.heap.size by omega))
 have hy1:=hoy.keep hg
 have hw1:=how.keep hg
 have hyc:=hoy.cell_at (i:=0) rfl
 have hyl:=hoy.lt
 have hR':=hR.mono (R':=fun e W2=>(e=.returned (.bool true)∧Hid (J (pre++[x]) W2)∧Hid (KpA lim B0 W W2)∧Hid (Below lim W0 W2)∧W2.cell? ⟨W.heap.size+1,4,none⟩=some (.slice na subs.length nc)∧Hid (Owns W2 yb [.func (.yield l) #[] #[]] 183) ∧
   Hid (Owns W2 wb [.func (.func 107) #[] #[.pointer (some ⟨yb,0,none⟩),.pointer (some ⟨wb,0,none⟩)]] 183)∧Hid (Owns W2 W.heap.size [.int .i64 d] 3))∨(e=.returned (.bool false)∧Jx (pre++[x]) W2)) (by
  rintro e W2 (⟨rfl,hj2,hk2⟩ | ⟨rfl,hx2⟩)
  ·exact .inl ⟨rfl,hj2,(KpA.grew hg (show lim≤W.heap.size by omega)).trans hk2,hbA.trans hk2.low,(hk2.owns (by omega) ho2).cell_at rfl,hk2.owns hyb hy1,hk2.owns hwb hw1,hk2.owns (by omega) ho1⟩
  ·exact .inr ⟨rfl,hx2⟩)
 have HR:=hid hR'
 have HIH:=hid ih
 have HJ:=hid hJ
 have H9:=hid h9
 have HSZ:Hid (B0≤W.heap.size):=hBW
 clear hY hg1 hg2 ho1 ho2 hg hR hR' hbA ih hJ hb h9 hxe hj hsz hy1 hw1 hoy how hBW
 unfold reachN at h1 h2 h6' h8'
 refine callsIn_of_wp Tryz.func107 rfl (hfn _) ?_ hro
 simp only [Tryz.ntmps107,List.size_toArray,List.length_cons,List.length_nil,Nat.reduceAdd,Nat.reduceSub,Array.replicate_succ,Array.replicate_zero,List.push_toArray,List.append_toArray,List.nil_append,List.cons_append]
 gi_wp2_with ((try refine ⟨hdd _,?_⟩);refine HR.out.mono ?_;rintro e W2 (⟨rfl,hj2,hk2,hb2,hc2,hy2,hw2,hd2⟩ | ⟨rfl,hx2⟩))
 ·have hC:∀ m,CallsIn F m Tryz.prog 96 #[.slice na subs.length nc,.func (.func 108) #[] #[.pointer (some ⟨wb,0,none⟩),.pointer (some ⟨W.heap.size,0,none⟩)]] W2
    (CntPost subs (fun j W'=>AllCameA B0 J (pre++[x]) (Nd.alldL (wrap64 (d+1)) (subs.take j)) W2 W') (fun _ W'=>PartCameA Jx (pre++[x]) (Nd.alldL (wrap64 (d+1)) subs) W')):=by
   intro m
   refine contNodesI_ok F hd hfn hro m subs 108 _ enters_all3 W0 lim na nc (by unfold reachN;omega) H9.out _ _ (fun j W' ⟨q,_,_,h⟩=>hb2.out.trans h.low) ?_ W2 ⟨[],by simp [Nd.alldL],by simpa using hj2.out,KpA.refl _ _ _⟩
   rintro j hj m W' u0 u1 u2 u3 u4 ⟨q,hq1,hq2,hq3⟩ hnode
   have oy:=hq3.owns hyb hy2.out
   have ow:=hq3.owns hwb hw2.out
   have od:=hq3.owns HSZ hd2.out
   have hql:=congrArg List.length hq1
   have hal:=(alldL_take_le (wrap64 (d+1)) subs j hj).length_le
   simp only [List.length_map,List.length_append] at hql hal
   refine (all3_in F hd hfn hro yb wb W.heap.size d u0 u1 u2 u3 u4 (AllCameA B0 J (pre++[x]++q) (subs[j].alld (wrap64 (d+1))) W') (PartCameA Jx (pre++[x]++q) (subs[j].alld (wrap64 (d+1)))) m W' (ow.cell_at rfl) (od.cell_at rfl) (fun m W1 hg=>?_)).mono ?_
   ·have hb':=hb2.out.trans hq3.low
    refine (HIH.out j hj m (wrap64 (d+1)) u0 u1 u2 u3 u4 hnode (pre++[x]++q) W1 (HJ.out _ _ _ hq2 hg) (hb'.trans (hg.mono (by have:=hb'.size;omega))) (by simp only [List.length_append,List.length_singleton];omega) (oy.keep hg) (ow.keep hg)).mono ?_
    rintro e W3 (⟨rfl,q',r1,r2,r3⟩ | h)
    ·exact .inl ⟨rfl,q',r1,r2,(KpA.grew hg (by have:=hb'.size;omega)).trans r3⟩
    ·exact .inr h
   ·rintro e W3 (⟨rfl,q',r1,r2⟩ | ⟨rfl,q',r1,r2,r3⟩)
    ·refine .inr ⟨rfl,q++q',?_,by simpa using r2⟩
     rw [List.map_append,hq1]
     exact (List.prefix_append_right_inj _).2 r1 |>.trans (alldL_take_le (wrap64 (d+1)) subs j hj)
    ·refine .inl ⟨rfl,q++q',?_,by simpa using r2,hq3.trans r3⟩
     rw [List.map_append,hq1,r1,alldL_take (wrap64 (d+1)) subs j hj]
  have HC:=hid hC
  clear hC HIH HJ H9 hy HR
  gi_wp2_with ((try refine ⟨hdd _,?_⟩);gi_at_call 96;refine (HC.out _).mono ?_;rintro e W3 (⟨rfl,q,hq1,hq2,hq3⟩ | ⟨j,hj,rfl,q,hq1,hq2⟩))
  ·go_ret
   refine .inl ⟨rfl,x::q,?_,by simpa using hq2,hk2.out.trans hq3⟩
   rw [List.map_cons,hxn,Nd.alld,hq1,List.take_length]
  ·go_ret
   refine .inr ⟨rfl,x::q,?_,by simpa using hq2⟩
   rw [List.map_cons,hxn,Nd.alld]
   obtain ⟨t,ht⟩:=hq1
   exact ⟨t,by simp [ht]⟩
 ·go_ret
  refine .inr ⟨rfl,[x],?_,hx2⟩
  rw [List.map_singleton,hxn,Nd.alld]
  exact ⟨_,rfl⟩
theorem grew_abidesA {β:Type} {B:Nat} {J:β→World→Prop} (h:AbidesFrom B J):∀ s A C,J s A→Grew A C→J s C:=fun s A C hs hg =>
 h s A C none hs ⟨hg.os,hg.tape,hg.output,hg.size,fun k hk _=>hg.block k hk⟩ (fun r e=>by cases e)
set_option maxHeartbeats 4000000 in
set_option maxRecDepth 20000 in
theorem all_stopsA (F:Fence) (hd:F.depth=none) (hfn:∀ k,F.fn k) (hro:F.round=none) (m lim Bn:Nat) (W0 w:World) (hlim:lim≤W0.heap.size) (hlw:lim≤w.heap.size) (hw:Below lim W0 w) (n:Nd) (v0 v1 v2 v3 v4:Value)
  (hN:NodeAt W0 lim (some v0) (some v1) (some v2) (some v3) (some v4) n) (hB:Owns w Bn [v0,v1,v2,v3,v4] 80) :
  SeqStopsK F m Tryz.prog 106 #[.pointer (some ⟨Bn,0,none⟩)] (DV.enc (W0:=W0) (lim:=lim)) (KpA lim w.heap.size) (fun q=>q.map DV.p=n.alld 1) (fun q=>q.map DV.p <+: n.alld 1) (n.alld 1).length w:=by
 have hdd:∀ k:Nat,(F.depth.isSome=true→1≤k):=fun k h=>by rw [hd] at h;cases h
 intro l J Jx W hW hJ _ hY h0
 have hbl:Below lim W0 W:=hw.trans (hW.mono hlw)
 have hwW:=hW.size
 have hBo:Owns W Bn [v0,v1,v2,v3,v4] 80:=hB.keep hW
 have hY':∀ m' pre (x:DV W0 lim) W,J pre W→Below lim W0 W→pre.length < (n.alld 1).length→YieldAt F m' Tryz.prog l x.enc W (YesNo (fun W'=>J (pre++[x]) W'∧KpA lim w.heap.size W W') (Jx (pre++[x]))):=fun m' pre x W hj _ hl=>by
  obtain ⟨fn,tmps,assign,body,hy,hR⟩:=hY pre x W hj hl
  exact ⟨fn,tmps,assign,body,hy,hR.1,fun c cs _=>hR.2 c cs (fun d h=>by rw [hd] at h;cases h)⟩
 have hg1:=grew_alloc W (.cells #[.func (.yield l) #[] #[]] 183)
 have hg2:=grew_alloc (W.alloc (.cells #[.func (.yield l) #[] #[]] 183)) (.cells #[.func (.func 107) #[] #[.pointer (some ⟨W.heap.size,0,none⟩),.pointer (some ⟨W.heap.size+1,0,none⟩)]] 183)
 have o1:=(Owns.alloc W [.func (.yield l) #[] #[]] 183).keep hg2
 have o2:=Owns.alloc (W.alloc (.cells #[.func (.yield l) #[] #[]] 183)) [.func (.func 107) #[] #[.pointer (some ⟨W.heap.size,0,none⟩),.pointer (some ⟨W.heap.size+1,0,none⟩)]] 183
 have e1:(W.alloc (.cells #[.func (.yield l) #[] #[]] 183)).heap.size=W.heap.size+1:=by simp
 rw [e1] at o2
 have hg:=hg1.trans hg2
 have hS:=hid (fun m'=>walkA_ok F hd hfn hro l lim w.heap.size (n.alld 1).length W.heap.size (W.heap.size+1) W0 hlim (by omega) (by omega) J Jx (grew_abidesA hJ) hY' n m' 1 v0 v1 v2 v3 v4 hN [] _ (grew_abidesA hJ _ _ _ h0 hg) (hbl.trans (hg.mono (by omega))) (by simp) o1 o2)
 obtain ⟨k0,k1,k2,k3,k4,k5,k6,k7,k8,rfl,rfl,rfl,rfl,rfl⟩:=hN.forms
 have c0:=hBo.cell_at (i:=0) rfl
 have c1:=hBo.cell_at (i:=1) rfl
 have c2:=hBo.cell_at (i:=2) rfl
 have c3:=hBo.cell_at (i:=3) rfl
 have c4:=hBo.cell_at (i:=4) rfl
 have hbn:=hBo.lt
 clear hY hY' hJ hN hB hBo hW hw o1 o2 hg1 hg2 hg e1 hbl
 simp only [List.append_toArray,List.cons_append,List.nil_append]
 refine callsIn_of_wp Tryz.func106 rfl (hfn _) ?_ hro
 simp only [Tryz.ntmps106,List.size_toArray,List.length_cons,List.length_nil,Nat.reduceAdd,Nat.reduceSub,Array.replicate_succ,Array.replicate_zero,List.push_toArray,List.append_toArray,List.nil_append,List.cons_append]
 gi_wp2_with ((try refine ⟨hdd _,?_⟩);refine (hS.out _).mono ?_;rintro e w' (⟨rfl,q,h1,h2,h3⟩ | ⟨rfl,q,h1,h2⟩))
 ·go_end0
  exact ⟨⟨_,rfl⟩,.inl ⟨q,h1,by simpa using h2⟩⟩
 ·go_end0
  exact ⟨⟨_,rfl⟩,.inr ⟨q,h1,by simpa using h2⟩⟩
theorem allA_in (F:Fence) (hfn:∀ k,F.fn k) (hro:F.round=none) (m:Nat) (v0 v1 v2 v3 v4:Value) (w:World) :
  CallsIn F m Tryz.prog 81 #[.agg #[v0,v1,v2,v3,v4]] w fun e w'=>e=.returned (.func (.func 106) #[] #[.pointer (some ⟨w.heap.size,0,none⟩)])∧w'=w.alloc (.cells #[v0,v1,v2,v3,v4] 80):=by
 refine callsIn_of_wp Tryz.func81 rfl (hfn _) ?_ hro
 simp only [Tryz.ntmps81,List.size_toArray,List.length_cons,List.length_nil,Nat.reduceAdd,Nat.reduceSub,Array.replicate_succ,Array.replicate_zero,List.push_toArray,List.append_toArray,List.nil_append,List.cons_append]
 gi_wp2
 go_ret
 exact ⟨rfl,rfl⟩
end Go.Proofs.YtppjmdanckdobaaGreatDoor

/- runes.Decode,Encode and Bad: what they answer. -/
namespace Go.Proofs.YtppjmdanckdobaaGreatDoor
open Go.RowKit
open Lib (hid)
theorem decodeGo_at (s:ByteArray) (pos:Nat) (h:pos < s.size):Lib.decodeGo (s.extract pos s.size)=Utf8.decode s pos:=by
 have hx:(s.extract pos s.size).data.toList=s.data.toList.drop pos:=by
  rw [Lib.extract_data,List.take_of_length_le (by rw [List.length_drop,← Lib.size_eq];omega)]
 have hsz:(s.extract pos s.size).size≠0:=by rw [Lib.size_eq,hx,List.length_drop,← Lib.size_eq];omega
 unfold Lib.decodeGo
 rw [if_neg hsz,← Lib.decodeL_drop s pos,← hx]
 rfl
def runeAt (s:ByteArray) (at_:Int):Nat × Nat × Bool :=
 if at_ < 0∨(s.size:Int)≤at_ then (0,0,false)
 else if Utf8.decode s at_.toNat=(65533,1) then (0,1,false)
 else ((Utf8.decode s at_.toNat).1,(Utf8.decode s at_.toNat).2,true)
def DecodeIs (s:ByteArray) (at_:Int) (W:World) (e:Ending) (W':World):Prop :=
 e=.returned (.tuple #[.int .i32 (runeAt s at_).1,.int .i64 (runeAt s at_).2.1,.bool (runeAt s at_).2.2])∧Below W.heap.size W W'
set_option maxHeartbeats 1000000 in
set_option maxRecDepth 20000 in
theorem decode_ok (s:ByteArray) (at_:Int) (W:World) (_hs:s.size≤140737488355328) (h0:-9223372036854775808≤at_) (h1:at_≤9223372036854775807) (hT:Lib.Utf8Tabs 1 2 W) :
  Calls Tryz.prog 155 #[.string s,.int .i64 at_] W fun e W'=>DecodeIs s at_ W e W':=by
 by_cases hin:0≤at_∧at_ < s.size
 ·obtain ⟨k,rfl⟩:=Int.eq_ofNat_of_zero_le hin.1
  have hk:k < s.size:=by omega
  have hD:=Tryz.utf8_DecodeRuneInString (s.extract k s.size) W hT
  rw [decodeGo_at s k hk] at hD
  have hr:runeAt s k=if Utf8.decode s k=(65533,1) then (0,1,false) else ((Utf8.decode s k).1,(Utf8.decode s k).2,true):=by
   unfold runeAt
   rw [if_neg (by omega)]
   rfl
  unfold DecodeIs
  rw [hr]
  clear hr
  generalize Utf8.decode s k=p at *
  obtain ⟨r,z⟩:=p
  have HD:=hid hD
  clear hD hT
  by_cases hr1:r=65533
  ·subst hr1
   by_cases hz1:z=1
   ·subst hz1
    rw [if_pos rfl]
    go_enter Tryz.func155,Tryz.ntmps155
    go_wp2_with (go_at_call 161;refine HD.out.mono ?_;rintro e w ⟨rfl,hb⟩)
    go_ret3
    exact ⟨rfl,hb⟩
   ·rw [if_neg (by simp [hz1])]
    go_enter Tryz.func155,Tryz.ntmps155
    go_wp2_with (go_at_call 161;refine HD.out.mono ?_;rintro e w ⟨rfl,hb⟩)
    go_ret3
    exact ⟨rfl,hb⟩
  ·rw [if_neg (by simp [hr1])]
   go_enter Tryz.func155,Tryz.ntmps155
   go_wp2_with (go_at_call 161;refine HD.out.mono ?_;rintro e w ⟨rfl,hb⟩)
   go_ret3
   exact ⟨rfl,hb⟩
 ·have hr:runeAt s at_=(0,0,false):=by
   unfold runeAt
   rw [if_pos (by omega)]
  unfold DecodeIs
  rw [hr]
  clear hr hT
  by_cases hneg:at_ < 0
  ·go_enter Tryz.func155,Tryz.ntmps155
   go_wp2_with fail
   go_ret3
   exact ⟨rfl,Below.refl _ _⟩
  ·go_enter Tryz.func155,Tryz.ntmps155
   go_wp2_with fail
   go_ret3
   exact ⟨rfl,Below.refl _ _⟩
theorem width_pos (s:ByteArray) (pos:Nat):1≤(Utf8.decode s pos).2:=by
 rw [Lib.decode_at]
 unfold Lib.decodeN
 repeat' split
 all_goals simp
theorem runeAt_pos (s:ByteArray) (pos:Nat) (h:pos < s.size):1≤(runeAt s pos).2.1:=by
 unfold runeAt
 rw [if_neg (by omega)]
 split
 ·exact Nat.le_refl _
 ·exact width_pos s _
def badFrom (s:ByteArray):Nat→Nat→Int
 | 0,_=>-1
 | f+1,at_=>if at_ < s.size then (if (runeAt s at_).2.2 then badFrom s f (at_+(runeAt s at_).2.1) else at_) else -1
theorem badFrom_more (s:ByteArray):∀ (f g at_:Nat),s.size≤at_+f→s.size≤at_+g→badFrom s f at_=badFrom s g at_
 | 0,0,_,_,_=>rfl
 | 0,g+1,at_,h,_=>by rw [badFrom,badFrom,if_neg (by omega)]
 | f+1,0,at_,_,h=>by rw [badFrom,badFrom,if_neg (by omega)]
 | f+1,g+1,at_,h1,h2=>by
  rw [badFrom,badFrom]
  by_cases h:at_ < s.size
  ·have:=runeAt_pos s at_ h
   rw [if_pos h,if_pos h,badFrom_more s f g _ (by omega) (by omega)]
  ·rw [if_neg h,if_neg h]
def bad (s:ByteArray):Int:=badFrom s s.size 0
theorem width_le (s:ByteArray) (pos:Nat):(Utf8.decode s pos).2≤4:=by
 rw [Lib.decode_at]
 unfold Lib.decodeN
 repeat' split
 all_goals simp
theorem runeAt_le (s:ByteArray) (at_:Int):(runeAt s at_).2.1≤4:=by
 unfold runeAt
 split
 ·exact Nat.zero_le _
 ·split
  ·show 1≤4
   omega
  ·exact width_le s _
set_option maxHeartbeats 1000000 in
set_option maxRecDepth 20000 in
theorem bad_ok (s:ByteArray) (W:World) (hs:s.size≤140737488355328) (hT:Lib.Utf8Tabs 1 2 W) :
  Calls Tryz.prog 139 #[.string s] W fun e W'=>e=.returned (.int .i64 (bad s))∧Below W.heap.size W W':=by
 have HT:=hid hT
 clear hT
 go_enter Tryz.func139,Tryz.ntmps139
 go_wp2_with fail
 go_loopw [3] (fun c wr=>∃ j:Nat,c=.int .i64 j∧j≤s.size+4∧Hid (badFrom s (s.size - j) j=bad s)∧Hid (Below W.heap.size W wr)) (fun c _=>s.size+4 - (intOf c).toNat)
 case atStart=>exact ⟨0,rfl,by omega,rfl,Below.refl _ _⟩
 case round =>
  obtain ⟨j,rfl,hj,hb,hbw⟩:=hrel
  by_cases hlt:j < s.size
  ·have hD:=decode_ok s (j:Int) wr hs (by omega) (by omega) (Go.Proofs.Utf8Tabs_below HT.out hbw.out)
   unfold DecodeIs at hD
   have hp:=runeAt_pos s j hlt
   have hl:=runeAt_le s (j:Int)
   have hbj:=hb.out
   rw [show s.size - j=(s.size - j - 1)+1 by omega,badFrom,if_pos hlt] at hbj
   generalize runeAt s (j:Int)=p at *
   obtain ⟨r,z,ok⟩:=p
   have HBJ:=hid hbj
   have HD:=hid hD
   simp only at hp hl
   clear hD hb hbj
   cases ok
   ·go_wp2_with (go_at_call 155;refine HD.out.mono ?_;rintro e w ⟨rfl,hb2⟩)
    go_ret
    refine ⟨?_,hbw.out.trans (hb2.mono (by have:=hbw.out.size;omega))⟩
    have:=HBJ.out
    simp at this
    rw [this]
    rfl
   ·go_wp2_with (go_at_call 155;refine HD.out.mono ?_;rintro e w ⟨rfl,hb2⟩)
    refine ⟨⟨j+z,by go_num,by omega,?_,hbw.out.trans (hb2.mono (by have:=hbw.out.size;omega))⟩,by simp [intOf];omega⟩
    have:=HBJ.out
    simp at this
    unfold Hid
    rw [← this]
    exact badFrom_more s _ _ _ (by omega) (by omega)
  ·go_wp2_with fail
   go_ret
   refine ⟨?_,hbw.out⟩
   have:=hb.out
   rw [show s.size - j=0 by omega,badFrom] at this
   rw [← this]
   rfl
end Go.Proofs.YtppjmdanckdobaaGreatDoor

/- Names and texts of nodes. -/
namespace Go.Proofs.YtppjmdanckdobaaGreatDoor
open Go.RowKit
open Lib (hid)
def restL:List UInt8 := "abcdefghijklmnopqrstuvwxyzABCDEFGHIJKLMNOPQRSTUVWXYZ0123456789_".toUTF8.data.toList
def nameB (s first:List UInt8):Bool:=decide (s≠[])&&decide (s.length≤64)&&decide (0≤Lib.indexByte first (s.getD 0 0))&&decide (Lib.trimS s restL=[])
theorem trim_ok (s cs:ByteArray) (W:World) (hs:s.size≤140737488355328) (hc:cs.size < 4294967281) (ha:∀ x∈cs.data.toList,x.toNat < 128) :
  Calls Tryz.prog 138 #[.string s,.string cs] W fun e W'=>e=.returned (.string ⟨(Lib.trimS s.data.toList cs.data.toList).toArray⟩)∧Below W.heap.size W W' :=
 Any.strings_Trim_ascii Tryz.lays160 (fun w=>by kernel_rfl) (by kernel_rfl) s cs W (by omega) hc fun j b hj=>ha b (List.mem_of_getElem? hj)
theorem toList_nil (s:ByteArray):s.toList.isEmpty=decide (s.data.toList=[]):=by
 rw [Lib.toList_data]
 cases s.data.toList<;>simp
set_option maxHeartbeats 4000000 in
set_option maxRecDepth 20000 in
theorem nname_ok (s first:ByteArray) (W:World) (hs:s.size≤140737488355328):Calls Tryz.prog 111 #[.string s,.string first] W fun e W'=>e=.returned (.bool (nameB s.data.toList first.data.toList))∧Below W.heap.size W W':=by
 have hem:=toList_nil s
 unfold nameB
 by_cases h0:s.data.toList=[]
 ·rw [decide_eq_true h0] at hem
  rw [decide_eq_false (by simpa using h0),Bool.false_and,Bool.false_and,Bool.false_and]
  clear h0
  go_enter Tryz.func111,Tryz.ntmps111
  go_wp2_with fail
  go_ret
  exact ⟨rfl,Below.refl _ _⟩
 ·rw [decide_eq_false h0] at hem
  have hpos:0 < s.size:=by rw [Lib.size_eq];exact List.length_pos_iff.2 h0
  rw [decide_eq_true h0,Bool.true_and]
  rw [← Lib.size_eq]
  by_cases h64:s.size≤64
  ·rw [decide_eq_true h64,Bool.true_and]
   obtain ⟨c,hc⟩:∃ c,s[0]=c:=⟨_,rfl⟩
   have hcd:s.data.toList.getD 0 0=c:=by
    rw [← hc,List.getD_eq_getElem?_getD,List.getElem?_eq_getElem (by rw [← Lib.size_eq];exact hpos)]
    rfl
   rw [hcd]
   have hI:=Tryz.strings_IndexByte first (c.toNat:Int) W
   rw [show ((c.toNat:Int)).toNat.toUInt8=c by simp] at hI
   obtain ⟨z,hz⟩:∃ z,Lib.indexByte first.data.toList c=z:=⟨_,rfl⟩
   rw [hz] at hI ⊢
   have HI:=hid hI
   clear hI hz hcd h0
   by_cases hz0:0≤z
   ·rw [decide_eq_true hz0,Bool.true_and]
    have hT:=trim_ok s { data:=#[97,98,99,100,101,102,103,104,105,106,107,108,109,110,111,112,113,114,115,116,117,118,119,120,121,122,65,66,67,68,69,70,71,72,73,74,75,76,77,78,79,80,81,82,83,84,85,86,87,88,89,90,48,49,50,51,52,53,54,55,56,57,95] } W hs (by decide +kernel) (by decide +kernel)
    obtain ⟨T,hTT⟩:∃ T,Lib.trimS s.data.toList restL=T:=⟨_,rfl⟩
    have hT2:Calls Tryz.prog 138 #[.string s,.string { data:=#[97,98,99,100,101,102,103,104,105,106,107,108,109,110,111,112,113,114,115,116,117,118,119,120,121,122,65,66,67,68,69,70,71,72,73,74,75,76,77,78,79,80,81,82,83,84,85,86,87,88,89,90,48,49,50,51,52,53,54,55,56,57,95] }] W fun e W'=>e=.returned (.string ⟨T.toArray⟩)∧Below W.heap.size W W':=by rw [← hTT];exact hT
    rw [hTT]
    have HT:=hid hT2
    have hte:=toList_nil ⟨T.toArray⟩
    rw [show (⟨T.toArray⟩:ByteArray).data.toList=T from rfl] at hte
    obtain ⟨U,hU⟩:∃ U:ByteArray,(⟨T.toArray⟩:ByteArray)=U:=⟨_,rfl⟩
    rw [hU] at HT hte
    clear hT hT2 hTT hU
    go_enter Tryz.func111,Tryz.ntmps111
    go_wp2_with fail
    refine HI.out.mono ?_
    rintro e w ⟨rfl,rfl⟩
    go_wp2_with fail
    refine HT.out.mono ?_
    rintro e w ⟨rfl,hb⟩
    have HB:=hid hb
    clear hb
    go_wp2_with fail
    go_ret
    exact ⟨rfl,HB.out⟩
   ·rw [decide_eq_false hz0,Bool.false_and]
    go_enter Tryz.func111,Tryz.ntmps111
    go_wp2_with fail
    refine HI.out.mono ?_
    rintro e w ⟨rfl,rfl⟩
    go_wp2_with fail
    go_ret
    exact ⟨rfl,Below.refl _ _⟩
  ·rw [decide_eq_false h64,Bool.false_and,Bool.false_and]
   have h64i:¬ ((s.size:Int)≤64):=by omega
   go_enter Tryz.func111,Tryz.ntmps111
   go_wp2_with fail
   go_ret
   exact ⟨rfl,Below.refl _ _⟩
end Go.Proofs.YtppjmdanckdobaaGreatDoor

/- Texts,ranges and bareness of nodes. -/
namespace Go.Proofs.YtppjmdanckdobaaGreatDoor
open Go.RowKit
open Lib (hid)
def textB (s:ByteArray):Bool:=decide (s.data.toList≠[])&&decide (bad s < 0)
set_option maxHeartbeats 4000000 in
set_option maxRecDepth 20000 in
theorem ntext_ok (s:ByteArray) (W:World) (hs:s.size≤140737488355328) (hT:Lib.Utf8Tabs 1 2 W):Calls Tryz.prog 112 #[.string s] W fun e W'=>e=.returned (.bool (textB s))∧Below W.heap.size W W':=by
 have hem:=toList_nil s
 unfold textB
 by_cases h0:s.data.toList=[]
 ·rw [decide_eq_true h0] at hem
  rw [decide_eq_false (by simpa using h0),Bool.false_and]
  clear h0
  go_enter Tryz.func112,Tryz.ntmps112
  go_wp2_with fail
  go_ret
  exact ⟨rfl,Below.refl _ _⟩
 ·rw [decide_eq_false h0] at hem
  rw [decide_eq_true h0,Bool.true_and]
  have hB:=bad_ok s W hs hT
  generalize bad s=z at *
  have HB:=hid hB
  clear hB h0
  go_enter Tryz.func112,Tryz.ntmps112
  go_wp2_with fail
  refine HB.out.mono ?_
  rintro e w ⟨rfl,hb⟩
  have HBB:=hid hb
  clear hb
  go_wp2_with fail
  go_ret
  exact ⟨rfl,HBB.out⟩
def badR (r:Int × Int):Bool:=decide (r.2 < r.1) || !Lib.validRune r.1 || !Lib.validRune r.2
set_option maxHeartbeats 4000000 in
set_option maxRecDepth 20000 in
theorem nbad_ok (r:Int × Int) (W:World):Calls Tryz.prog 114 #[.agg #[.int .i32 r.1,.int .i32 r.2]] W fun e W'=>e=.returned (.bool (badR r))∧Below W.heap.size W W':=by
 have h1:=fun w=>Tryz.utf8_ValidRune r.1 w
 have h2:=fun w=>Tryz.utf8_ValidRune r.2 w
 unfold badR
 obtain ⟨a,b⟩:=r
 simp only at h1 h2 ⊢
 cases hv1:Lib.validRune a<;>cases hv2:Lib.validRune b
 all_goals
  rw [hv1] at h1
  rw [hv2] at h2
  have H1:=hid h1
  have H2:=hid h2
  clear h1 h2 hv1 hv2
  by_cases hlt:b < a
  ·rw [decide_eq_true hlt]
   go_enter Tryz.func114,Tryz.ntmps114
   go_wp2_with fail
   go_ret
   exact ⟨rfl,grew_alloc _ _⟩
  ·rw [decide_eq_false hlt]
   go_enter Tryz.func114,Tryz.ntmps114
   go_wp2_with fail
   refine (H1.out _).mono ?_
   rintro e w ⟨rfl,rfl⟩
   go_wp2_with fail
   first
    | (go_ret;exact ⟨rfl,grew_alloc _ _⟩)
    | (refine (H2.out _).mono ?_;rintro e w ⟨rfl,rfl⟩;go_wp2_with fail;go_ret;exact ⟨rfl,grew_alloc _ _⟩)
theorem RangesAt.get {W:World} {lim:Nat} {a:Option Addr}:∀ {l:List (Int × Int)} {i k:Nat} (_:RangesAt W lim a i l) (hk:k < l.length),
  ∃ b off,a=some ⟨b,off,none⟩∧b < lim∧W.cell? ⟨b,off+(i+k) * 2,none⟩=some (.int .i32 l[k].1)∧W.cell? ⟨b,off+(i+k) * 2+1,none⟩=some (.int .i32 l[k].2)
 | [],_,_,_,hk=>absurd hk (by simp)
 | x::r,i,0,h,_=>h.1
 | x::r,i,k+1,h,hk=>by
  obtain ⟨b,off,h1,h2,h3,h4⟩:=RangesAt.get (k:=k) h.2 (by simpa using hk)
  have e:i+1+k=i+(k+1):=by omega
  rw [e] at h3 h4
  exact ⟨b,off,h1,h2,by simpa using h3,by simpa using h4⟩
theorem enters_nbad:Enters 114:=fun _ _=>by kernel_rfl
set_option maxHeartbeats 1000000 in
set_option maxRecDepth 20000 in
theorem indexRanges_ok (l:List (Int × Int)) (W:World) (a:Option Addr) (cap:Nat) (hl:l.length≤reachN) (hR:RangesAt W W.heap.size a 0 l) :
  Calls Tryz.prog 140 #[.slice a l.length cap,.func (.func 114) #[] #[]] W fun e W'=>e=.returned (.int .i64 (ixOf l badR))∧Below W.heap.size W W':=by
 unfold reachN at hl
 have hF:=enters_nbad
 go_enter Tryz.func140,Tryz.ntmps140
 go_wp2
 go_loopw [8] (fun i wr=>∃ (j:Nat),i=.int .i64 j∧j≤l.length∧Hid (NoneTo l badR j)∧Below W.heap.size W wr) (fun i _=>l.length - (intOf i).toNat)
 case atStart =>
  exact ⟨0,rfl,by omega,fun i hi h=>absurd h (by omega),Below.refl _ _⟩
 case round =>
  obtain ⟨j,rfl,hj,hf,hbw⟩:=hrel
  by_cases hlt:j < l.length
  ·obtain ⟨b,off,rfl,hb,e0,e1⟩:=(hR.keep hbw).get hlt
   simp only [Nat.zero_add] at e0 e1
   have hbl:b < wr.heap.size:=by have:=hbw.size;omega
   have HS:=hid (nbad_ok l[j] wr)
   clear hR
   have hFx:=hF
   unfold Enters at hFx
   clear hF
   obtain ⟨t,ht⟩:∃ t,t=badR l[j]:=⟨_,rfl⟩
   rw [← ht] at HS
   have HQ:=hid ht
   clear ht
   cases t
   ·go_wp2_with (refine HS.out.mono ?_;rintro e w2 ⟨rfl,hb2⟩)
    exact ⟨⟨j+1,by go_num,by omega,noneTo_next hf.out hlt HQ.out.symm,hbw.trans (hb2.mono hbw.size)⟩,by simp [intOf];omega⟩
   ·go_wp2_with (refine HS.out.mono ?_;rintro e w2 ⟨rfl,hb2⟩)
    go_ret
    exact ⟨ret_int (ixOf_at hlt hf.out HQ.out.symm).symm,hbw.trans (hb2.mono hbw.size)⟩
  ·go_wp2_with fail
   go_ret
   exact ⟨ret_int (ixOf_none fun i hi=>hf.out i hi (by omega)).symm,hbw⟩
theorem contRanges_ok (l:List (Int × Int)) (W:World) (a:Option Addr) (cap:Nat) (hl:l.length≤reachN) (hR:RangesAt W W.heap.size a 0 l) :
  Calls Tryz.prog 113 #[.slice a l.length cap,.func (.func 114) #[] #[]] W fun e W'=>e=.returned (.bool (l.any badR))∧Below W.heap.size W W':=by
 have hS:=hid (indexRanges_ok l W a cap hl hR)
 clear hR
 go_enter Tryz.func113,Tryz.ntmps113
 go_wp2_with (go_at_call 140;refine hS.out.mono ?_;rintro e w' ⟨rfl,hb2⟩)
 go_ret
 exact ⟨ret_bool (ixOf_any l badR),hb2⟩
def predB (n:Nd):Bool:=n.kind == 7
theorem enters_pred:Enters 110:=fun _ _=>by kernel_rfl
set_option maxRecDepth 20000 in
theorem predicts_ok (n:Nd) (W:World) (lim:Nat) (v0 v1 v2 v3 v4:Value) (hN:NodeAt W lim (some v0) (some v1) (some v2) (some v3) (some v4) n):Calls Tryz.prog 110 #[.agg #[v0,v1,v2,v3,v4]] W fun e W'=>e=.returned (.bool (predB n))∧Below W.heap.size W W':=by
 obtain ⟨k,nm,tx,set,subs⟩:=n
 rw [NodeAt] at hN
 obtain ⟨hk,h1,h2,h3,h4,h5,⟨sa,sc,h6,h6',h7⟩,na,nc,h8,h8',h9⟩:=hN
 obtain rfl:=Option.some.inj h3
 obtain rfl:=Option.some.inj h4
 obtain rfl:=Option.some.inj h5
 obtain rfl:=Option.some.inj h6
 obtain rfl:=Option.some.inj h8
 clear h3 h4 h5 h6 h7 h8 h9
 unfold predB
 show Calls _ _ _ _ fun e W'=>e=.returned (.bool (k == 7))∧Below W.heap.size W W'
 go_enter Tryz.func110,Tryz.ntmps110
 go_wp2_with fail
 go_ret
 exact ⟨rfl,grew_alloc _ _⟩
def bareK (k:Int) (x y z:Bool):Bool:=if k=5∨k=6 then y&&z else if k=8 then x&&z else if k=9 then x&&y else x&&y&&z
def bareB (n:Nd):Bool:=bareK n.kind (decide (n.name.data.toList=[])) (decide (n.text.data.toList=[])) (decide (n.set=[]))
end Go.Proofs.YtppjmdanckdobaaGreatDoor
