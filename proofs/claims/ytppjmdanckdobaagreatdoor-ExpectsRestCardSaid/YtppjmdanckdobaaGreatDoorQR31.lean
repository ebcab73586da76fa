/- Nodes, plain: what is met along them. -/
import Derived.Test.YtppjmdanckdobaaGreatDoorQR30
import Derived.Test.YtppjmdanckdobaaGreatDoorQR9
namespace Go.Proofs.YtppjmdanckdobaaGreatDoor
open Go.RowKit
open Lib (hid)
section
variable {B:Bk} {w:List Int}
theorem NxL.left:∀ {l r:List Nd} {i t:Nat},NxL B w l i t→NxL B w (l++r) i t
 | _,_,_,_,.here h=>.here h
 | _,_,_,_,.next hd h=>.next hd h.left
theorem NxL.snoc {x:Nd} {r:List Nd}:∀ {l:List Nd} {i k t:Nat},DerL B w l i k→Nx B w x k t→NxL B w (l++x::r) i t
 | _,_,_,_,.nil,h=>.here h
 | _,_,_,_,.cons hd hr,h=>.next hd (NxL.snoc hr h)
theorem NxL.unsnoc {x:Nd}:∀ {l:List Nd} {i t:Nat},NxL B w (l++[x]) i t→NxL B w l i t∨∃ k,DerL B w l i k∧Nx B w x k t
 | [],i,t,h=>by
  cases h with
  | here h=>exact .inr ⟨i,.nil,h⟩
  | next hd h=>cases h
 | y::l,i,t,h=>by
  cases h with
  | here h=>exact .inl (.here h)
  | next hd h =>
   rcases h.unsnoc with h1 | ⟨k,h1,h2⟩
   ·exact .inl (.next hd h1)
   ·exact .inr ⟨k,.cons hd h1,h2⟩
mutual
theorem nx_dv (hB:B.Lng) (hw:w.length≤64):∀ {n:Nd} {i t:Nat},Nx B w n i t→i≤w.length→B.dv n=true
 | _,_,_,.tok _,_=>by rw [Bk.dv];rfl
 | _,_,_,.ref hg _ _,_=>hg
 | _,_,_,.seq hg _,_=>hg
 | _,_,_,.alt hx h,hi=>by
  rw [Bk.dv,if_neg (by omega),if_neg (by omega),if_pos (.inl rfl),dvAny_eq,List.any_eq_true]
  exact ⟨_,hx,nx_dv hB hw h hi⟩
 | _,_,_,.loop _ hg _,_=>hg
 | .mk k _ _ _ _,_,_,.again hk hd _,hi=>by
  rcases hk with rfl | rfl
  ·rw [Bk.dv,if_neg (by omega),if_neg (by omega),if_neg (by omega)]
  ·rw [Bk.dv,if_neg (by omega),if_neg (by omega),if_pos (.inr rfl),dvAny_eq,List.any_eq_true]
   exact ⟨_,List.mem_cons_self ..,dvP_of_der hB hw hd hi⟩
end
end
def XE.se (E:XE):SE:=⟨E.lim,E.kw,E.kb,E.bk,E.V,.bool false,E.B,E.wl⟩
def NodeX (E:XE) (n:Nd):Prop:=∀ (m:Nat) (S:Int→Prop) (W:World) (v0 v1 v2 v3 v4:Value),m < 2 ^ 49→(∀ i,m.testBit i=true→i≤E.wl.length)→E.At S W→NodeAt W E.lim (some v0) (some v1) (some v2) (some v3) (some v4) n →
 (∀ i r a,m.testBit i=true→Vis E.B E.wl n i r a→AskX E r a) →
 Calls Tryz.prog 39 #[E.ptr,.agg #[v0,v1,v2,v3,v4],setV m] W (XRes E (From m (Der E.B E.wl n)) S (NxF E.B E.wl m n) W)
def NxP (B:Bk) (wl:List Int) (m:Nat) (n:Nd) (t:Int):Prop:=∃ (i t':Nat),m.testBit i=true∧(Nx B wl n i t'∨∃ k,DerP B wl n i k∧Nx B wl n k t')∧t=(t':Int)
def AgX (E:XE) (n:Nd):Prop:=∀ (m:Nat) (S:Int→Prop) (W:World) (v0 v1 v2 v3 v4:Value),m < 2 ^ 49→(∀ i,m.testBit i=true→i≤E.wl.length)→E.At S W→NodeAt W E.lim (some v0) (some v1) (some v2) (some v3) (some v4) n →
 (∀ i r a,m.testBit i=true→(Vis E.B E.wl n i r a∨∃ j,DerP E.B E.wl n i j∧Vis E.B E.wl n j r a)→AskX E r a) →
 Calls Tryz.prog 64 #[E.ptr,.agg #[v0,v1,v2,v3,v4],setV m] W (XRes E (From m (DerP E.B E.wl n)) S (NxP E.B E.wl m n) W)
theorem wpList_run {P:Program} {ops:Array Oper} {rest:List Oper} {o:Oper} {a:Act} {w:World} {Q:Exit→Act→World→Prop} (hgd:o.guard=none) (c:Value) (hr:(execOp a.eval o).run P w=.ok (.value c) w) (h:wpList P ops Q rest (a.put o.dst c) w):wpList P ops Q (o::rest) a w :=
 wpList_plain hgd fun _ hK=>by
  unfold Oper.wp
  rw [hr]
  exact hK _ _ h
theorem exec_eql_set {ev:Operand→Value} {o:Oper} {w:World} {p q:Nat} {x y:Operand} {t:TypeId} (hp:p < 2 ^ 49) (hq:q < 2 ^ 49) (ho:o.op=.binOp .eql 66 x y t) (hx:ev x=setV p) (hy:ev y=setV q):(execOp ev o).run Tryz.prog w=.ok (.value (.bool (decide (p=q)))) w:=by
 have h:=set_eq hp hq w
 unfold setV at h hx hy
 unfold execOp
 simp only [ho,hx,hy]
 go_simp
theorem exec_neq_set {ev:Operand→Value} {o:Oper} {w:World} {p q:Nat} {x y:Operand} {t:TypeId} (hp:p < 2 ^ 49) (hq:q < 2 ^ 49) (ho:o.op=.binOp .neq 66 x y t) (hx:ev x=setV p) (hy:ev y=setV q):(execOp ev o).run Tryz.prog w=.ok (.value (.bool (!decide (p=q)))) w:=by
 have h:=set_eq hp hq w
 unfold setV at h hx hy
 unfold execOp
 simp only [ho,hx,hy]
 go_simp
theorem zset_cells:(setL 0).toArray=#[.bool false,.bool false,.bool false,.bool false,.bool false,.bool false,.bool false,.bool false,.bool false,.bool false,.bool false,.bool false,.bool false,.bool false,.bool false,.bool false,.bool false,.bool false,.bool false,.bool false,.bool false,.bool false,.bool false,.bool false,.bool false,.bool false,.bool false,.bool false,.bool false,.bool false,.bool false,.bool false,.bool false,.bool false,.bool false,.bool false,.bool false,.bool false,.bool false,.bool false,.bool false,.bool false,.bool false,.bool false,.bool false,.bool false,.bool false,.bool false,.bool false]:=by rw [setL_zero];rfl
end Go.Proofs.YtppjmdanckdobaaGreatDoor

/- node of expects: a token. Printed by genxnode.py. -/
namespace Go.Proofs.YtppjmdanckdobaaGreatDoor
open Go.RowKit
open Lib (hid)
set_option maxHeartbeats 8000000 in
set_option maxRecDepth 40000 in
theorem xn_tok (E:XE) (hB:E.B.Lng) (nm tx:ByteArray) (set:List (Int × Int)) (subs:List Nd) (m:Nat) (hm0:m≠0) (hdt:E.B.dv (.mk 6 nm tx set subs)=true) (S:Int→Prop) (W:World) (v0 v1 v2 v3 v4:Value) (hm:m < 2 ^ 49) (hml:∀ i,m.testBit i=true→i≤E.wl.length) (hA:E.At S W) (hN:NodeAt W E.lim (some v0) (some v1) (some v2) (some v3) (some v4) (.mk 6 nm tx set subs))
  (hV:∀ i r a,m.testBit i=true→Vis E.B E.wl (.mk 6 nm tx set subs) i r a→AskX E r a) :
  Calls Tryz.prog 39 #[E.ptr,.agg #[v0,v1,v2,v3,v4],setV m] W (XRes E (From m (Der E.B E.wl (.mk 6 nm tx set subs))) S (NxF E.B E.wl m (.mk 6 nm tx set subs)) W):=by
 have HND:=hid hN
 rw [NodeAt] at hN
 obtain ⟨hk,h1,h2,h3,h4,h5,⟨sa,sc,h6,h6',h7⟩,na,nc,h8,h8',h9⟩:=hN
 obtain rfl:=Option.some.inj h3
 obtain rfl:=Option.some.inj h4
 obtain rfl:=Option.some.inj h5
 obtain rfl:=Option.some.inj h6
 obtain rfl:=Option.some.inj h8
 clear h3 h4 h5 h6 h8 h7
 unfold reachN at h1 h2 h6' h8'
 obtain ⟨b,hb⟩:∃ b,W.heap.size=b:=⟨_,rfl⟩
 obtain ⟨w1,hw1⟩:∃ w1,W.alloc (.cells #[.int .u8 6,.string nm,.string tx,.slice sa set.length sc,.slice na subs.length nc] 80)=w1:=⟨_,rfl⟩
 have g1:Grew W w1:=hw1▸grew_alloc W _
 have o1:Owns w1 b [.int .u8 6,.string nm,.string tx,.slice sa set.length sc,.slice na subs.length nc] 80:=by rw [← hw1,← hb];exact Owns.alloc W _ _
 have z1:w1.heap.size=b+1:=by rw [← hw1,← hb];exact World.size_alloc _ _
 obtain ⟨w2,hw2⟩:∃ w2,w1.alloc (.cells (setL m).toArray 66)=w2:=⟨_,rfl⟩
 have g2:Grew w1 w2:=hw2▸grew_alloc w1 _
 have o2:Owns w2 (b+1) (setL m) 66:=by rw [← hw2,← z1];exact Owns.alloc w1 _ _
 have z2:w2.heap.size=b+1+1:=by rw [← hw2,← z1];exact World.size_alloc _ _
 obtain ⟨w3,hw3⟩:∃ w3,w2.alloc (.cells #[.bool false,.bool false,.bool false,.bool false,.bool false,.bool false,.bool false,.bool false,.bool false,.bool false,.bool false,.bool false,.bool false,.bool false,.bool false,.bool false,.bool false,.bool false,.bool false,.bool false,.bool false,.bool false,.bool false,.bool false,.bool false,.bool false,.bool false,.bool false,.bool false,.bool false,.bool false,.bool false,.bool false,.bool false,.bool false,.bool false,.bool false,.bool false,.bool false,.bool false,.bool false,.bool false,.bool false,.bool false,.bool false,.bool false,.bool false,.bool false,.bool false] 66)=w3:=⟨_,rfl⟩
 have g3:Grew w2 w3:=hw3▸grew_alloc w2 _
 have o3:Owns w3 (b+1+1) (setL 0) 66:=by rw [← hw3,← z2];exact zset_owns w2
 have hA3:=hA.grew ((g1.trans g2).trans g3)
 have O1:=hid ((o1.keep g2).keep g3)
 have O2:=hid (o2.keep g3)
 have O3:=hid o3
 have HA:=hid hA
 have A3:=hid hA3
 have G3:=hid ((g1.trans g2).trans g3)
 have HB:=hid hb
 have HLT:=hid hA.lts
 have HML:=hid hml
 have HMM:=hid hm
 have HV:=hid hV
 have H90:=hid h9
 have H9:Hid (NodesAt w3 E.lim na 0 subs):=hid (h9.keep (((g1.trans g2).trans g3).mono hA.tab.low))
 have HLNG:=hid hB
 have hne:∀ f,b≤f→f≠E.kb∧f≠E.nb∧f≠E.kw∧¬ (f=E.kb∨f=E.nb):=fun f h=>by have:=hA.lts;omega
 have HNE:=hid hne
 have HDV:Hid (∀ w,Grew w3 w→Calls Tryz.prog 61 #[.pointer (some ⟨E.tb,0,none⟩),.agg #[.int .u8 6,.string nm,.string tx,.slice sa set.length sc,.slice na subs.length nc]] w fun e W'=>e=.returned (.bool (E.B.dv (.mk 6 nm tx set subs)))∧Grew w W'):=hid fun w hw=>xderives_ok E _ w _ _ _ _ _ (A3.out.grew hw).tab ((HND.out.keep ((G3.out.trans hw).mono HA.out.tab.low)).mono (Nat.le_trans HA.out.tab.low (G3.out.trans hw).size))
 obtain ⟨Q,hQ⟩:∃ Q,XRes E (From m (Der E.B E.wl (.mk 6 nm tx set subs))) S (NxF E.B E.wl m (.mk 6 nm tx set subs)) W=Q:=⟨_,rfl⟩
 rw [hQ]
 have HQ:=hid hQ
 have n0:=O1.out.cell_at (i:=0) rfl
 have n1:=O1.out.cell_at (i:=1) rfl
 have n2:=O1.out.cell_at (i:=2) rfl
 have n3:=O1.out.cell_at (i:=3) rfl
 have n4:=O1.out.cell_at (i:=4) rfl
 have nl:=O1.out.lt
 have k0:=A3.out.box.cell_at (i:=0) rfl
 have kl:=A3.out.box.lt
 clear hA hA3 hV o1 o2 o3 g1 g2 g3 hQ h9 hml hB hne
 subst hb
 have HM0:=hid hm0
 have HDT:=hid hdt
 clear hm0 hdt
 have htk:∀ w,Grew w3 w→(Instr.lookup 26 (.map (some E.tm)) (.string nm) false).run Tryz.prog w=.ok (.int .i64 (E.B.tok nm:Int)) w:=fun w hw=>run_name (by rw [hw.block _ (Nat.lt_of_lt_of_le A3.out.tab.nlo.2 A3.out.tab.low)];exact A3.out.tab.toks) nm
 have HTK:=hid htk
 clear htk
 unfold XE.ptr setV
 go_enter Tryz.func39,Tryz.ntmps39
 go_upto_region 1 with fail
 clear hw1 hw2 hw3 z1 z2
 refine wp_region_hav_lit follows (by kernel_rfl) ?_
 refine HavG.val (fun _=>rfl) (setV m) (fun x w hw _=>exec_load_set (O2.out.keep hw) rfl rfl) ?_
 simp only [Act.put,sia,scz,scs]
 refine HavG.val (fun _=>rfl) (setV 0) (fun x w hw _=>?_) ?_
 ·clear hw
  unfold setV
  rw [zset_cells]
  go_simp
 simp only [Act.put,sia,scz,scs]
 refine HavG.val (fun _=>rfl) (.bool false) (fun x w hw _=>by rw [exec_eql_set HMM.out (by decide) rfl rfl rfl,decide_eq_false HM0.out]) ?_
 simp only [Act.put,sia,scz,scs]
 iterate 8 ((first | refine HavG.skip (fun _=>rfl) ?_ | (refine HavG.val (fun _=>rfl) ?_ (fun x w hw _=>?_) ?_;rotate_left;(focus (have hc:=hw.cells;clear hw;go_simp;first | done | rfl))));simp only [Act.put,sia,scz,scs])
 refine HavG.det (fun _=>rfl) (.bool true) (fun x w hw hd=>?_) ?_
 ·clear hd
  have HW:=hid hw
  clear hw
  go_simp
  refine (HDV.out _ HW.out).mono ?_
  rintro e w' ⟨rfl,hg⟩
  exact ⟨by rw [HDT.out],hg⟩
 simp only [Act.put,sia,scz,scs]
 iterate 1 ((first | refine HavG.skip (fun _=>rfl) ?_ | (refine HavG.val (fun _=>rfl) ?_ (fun x w hw _=>?_) ?_;rotate_left;(focus (have hc:=hw.cells;clear hw;go_simp;first | done | rfl))));simp only [Act.put,sia,scz,scs])
 refine HavG.tail (by kernel_rfl) (by kernel_rfl) (fun x w hw _=>?_)
 have GW:=hid hw
 have AW:=hid (A3.out.grew hw)
 have O1W:=hid (O1.out.keep hw)
 have O2W:=hid (O2.out.keep hw)
 have O3W:=hid (O3.out.keep hw)
 have H9W:Hid (NodesAt w E.lim na 0 subs):=hid (H9.out.keep (hw.mono A3.out.tab.low))
 have RW:Hid (E.R W w):=hid (XE.R.grew (G3.out.trans hw))
 clear hw n0 n1 n2 n3 n4 nl k0 kl
 obtain ⟨w4,rfl⟩:∃ z,z=w:=⟨_,rfl⟩
 have n0:=O1W.out.cell_at (i:=0) rfl
 have n1:=O1W.out.cell_at (i:=1) rfl
 have n4:=O1W.out.cell_at (i:=4) rfl
 have nl:=O1W.out.lt
 have k0:=AW.out.box.cell_at (i:=0) rfl
 have kl:=AW.out.box.lt
 have t2:=AW.out.tab.box.cell_at (i:=2) rfl
 have tl:=AW.out.tab.box.lt
 go_upto_region 5 with fail
 refine wp_region_hav_lit follows (by kernel_rfl) ?_
 iterate 11 ((first | refine HavG.skip (fun _=>rfl) ?_ | (refine HavG.val (fun _=>rfl) ?_ (fun x w hw _=>?_) ?_;rotate_left;(focus (have hc:=hw.cells;clear hw;go_simp;first | done | rfl))));simp only [Act.put,sia,scz,scs])
 refine HavG.val (fun _=>rfl) (.int .i64 (E.B.tok nm:Int)) (fun x w hw _=>?_) ?_
 ·have hl:=HTK.out w (GW.out.trans hw)
  clear hw
  go_simp
  first | done | rw [hl]
 simp only [Act.put,sia,scz,scs]
 refine HavG.val (fun _=>rfl) (setV m) (fun x w hw _=>exec_load_set (O2W.out.keep hw) rfl rfl) ?_
 simp only [Act.put,sia,scz,scs]
 refine HavG.tail (by kernel_rfl) (by kernel_rfl) (fun x w hw _=>?_)
 have HW:=hid hw
 have HC:=hid (xtoken_ok E (E.B.tok nm) m S w (AW.out.grew hw))
 unfold XE.ptr at HC
 clear hw
 go_wp2_with fail
 refine HC.out.mono ?_
 rintro e w5 ⟨q,rfl,q1,q2,q3,q4⟩
 have O5:=hid (q4.owns (O3W.out.keep HW.out) (HNE.out _ (by omega)).2.2.2)
 have A5:=hid q3
 have R5:=hid ((RW.out.trans (XE.R.grew HW.out)).trans q4)
 clear q3 q4 HC
 go_wp2_with (refine wpList_store_set O5.out rfl _ _ rfl rfl rfl ?_;intro w6 o6 b6;have O6:=hid o6;have H6:=hid (XE.At.fresh HA.out A5.out b6 (by omega));have HR6:=hid (XE.R.fresh HA.out R5.out b6 (by omega));clear o6 b6)
 refine bodyPost_ret (ret_set rfl _ O6.out rfl) rfl ?_
 rw [← HQ.out]
 refine ⟨q,rfl,q1,q2.iff fun j=>?_,H6.out.iff fun t=>or_congr Iff.rfl ?_,HR6.out⟩
 ·constructor
  ·rintro ⟨k,h1,h2,h3,rfl⟩
   exact ⟨k,h2,.tok h3⟩
  ·rintro ⟨i,h1,h2⟩
   cases h2 with
   | tok h2=>exact ⟨i,by have:=HML.out i h1;omega,h1,h2,rfl⟩
   | other h2=>omega
 ·constructor
  ·rintro ⟨h1,rfl⟩
   exact ⟨_,_,h1,.tok rfl,rfl⟩
  ·rintro ⟨i,t',h1,h2,rfl⟩
   cases h2 with
   | tok h2 =>
    subst h2
    exact ⟨h1,rfl⟩
   | loop h2=>omega
   | again h2=>omega
end Go.Proofs.YtppjmdanckdobaaGreatDoor

/- node of expects: from nowhere,or of what derives nothing. Printed by genxnode.py. -/
namespace Go.Proofs.YtppjmdanckdobaaGreatDoor
open Go.RowKit
open Lib (hid)
set_option maxHeartbeats 8000000 in
set_option maxRecDepth 40000 in
theorem xn_zero (E:XE) (hB:E.B.Lng) (k:Int) (nm tx:ByteArray) (set:List (Int × Int)) (subs:List Nd) (m:Nat) (hm0:m=0) (S:Int→Prop) (W:World) (v0 v1 v2 v3 v4:Value) (hm:m < 2 ^ 49) (hml:∀ i,m.testBit i=true→i≤E.wl.length) (hA:E.At S W) (hN:NodeAt W E.lim (some v0) (some v1) (some v2) (some v3) (some v4) (.mk k nm tx set subs))
  (hV:∀ i r a,m.testBit i=true→Vis E.B E.wl (.mk k nm tx set subs) i r a→AskX E r a) :
  Calls Tryz.prog 39 #[E.ptr,.agg #[v0,v1,v2,v3,v4],setV m] W (XRes E (From m (Der E.B E.wl (.mk k nm tx set subs))) S (NxF E.B E.wl m (.mk k nm tx set subs)) W):=by
 have HND:=hid hN
 rw [NodeAt] at hN
 obtain ⟨hk,h1,h2,h3,h4,h5,⟨sa,sc,h6,h6',h7⟩,na,nc,h8,h8',h9⟩:=hN
 obtain rfl:=Option.some.inj h3
 obtain rfl:=Option.some.inj h4
 obtain rfl:=Option.some.inj h5
 obtain rfl:=Option.some.inj h6
 obtain rfl:=Option.some.inj h8
 clear h3 h4 h5 h6 h8 h7
 unfold reachN at h1 h2 h6' h8'
 obtain ⟨b,hb⟩:∃ b,W.heap.size=b:=⟨_,rfl⟩
 obtain ⟨w1,hw1⟩:∃ w1,W.alloc (.cells #[.int .u8 k,.string nm,.string tx,.slice sa set.length sc,.slice na subs.length nc] 80)=w1:=⟨_,rfl⟩
 have g1:Grew W w1:=hw1▸grew_alloc W _
 have o1:Owns w1 b [.int .u8 k,.string nm,.string tx,.slice sa set.length sc,.slice na subs.length nc] 80:=by rw [← hw1,← hb];exact Owns.alloc W _ _
 have z1:w1.heap.size=b+1:=by rw [← hw1,← hb];exact World.size_alloc _ _
 obtain ⟨w2,hw2⟩:∃ w2,w1.alloc (.cells (setL m).toArray 66)=w2:=⟨_,rfl⟩
 have g2:Grew w1 w2:=hw2▸grew_alloc w1 _
 have o2:Owns w2 (b+1) (setL m) 66:=by rw [← hw2,← z1];exact Owns.alloc w1 _ _
 have z2:w2.heap.size=b+1+1:=by rw [← hw2,← z1];exact World.size_alloc _ _
 obtain ⟨w3,hw3⟩:∃ w3,w2.alloc (.cells #[.bool false,.bool false,.bool false,.bool false,.bool false,.bool false,.bool false,.bool false,.bool false,.bool false,.bool false,.bool false,.bool false,.bool false,.bool false,.bool false,.bool false,.bool false,.bool false,.bool false,.bool false,.bool false,.bool false,.bool false,.bool false,.bool false,.bool false,.bool false,.bool false,.bool false,.bool false,.bool false,.bool false,.bool false,.bool false,.bool false,.bool false,.bool false,.bool false,.bool false,.bool false,.bool false,.bool false,.bool false,.bool false,.bool false,.bool false,.bool false,.bool false] 66)=w3:=⟨_,rfl⟩
 have g3:Grew w2 w3:=hw3▸grew_alloc w2 _
 have o3:Owns w3 (b+1+1) (setL 0) 66:=by rw [← hw3,← z2];exact zset_owns w2
 have hA3:=hA.grew ((g1.trans g2).trans g3)
 have O1:=hid ((o1.keep g2).keep g3)
 have O2:=hid (o2.keep g3)
 have O3:=hid o3
 have HA:=hid hA
 have A3:=hid hA3
 have G3:=hid ((g1.trans g2).trans g3)
 have HB:=hid hb
 have HLT:=hid hA.lts
 have HML:=hid hml
 have HMM:=hid hm
 have HV:=hid hV
 have H90:=hid h9
 have H9:Hid (NodesAt w3 E.lim na 0 subs):=hid (h9.keep (((g1.trans g2).trans g3).mono hA.tab.low))
 have HLNG:=hid hB
 have hne:∀ f,b≤f→f≠E.kb∧f≠E.nb∧f≠E.kw∧¬ (f=E.kb∨f=E.nb):=fun f h=>by have:=hA.lts;omega
 have HNE:=hid hne
 have HDV:Hid (∀ w,Grew w3 w→Calls Tryz.prog 61 #[.pointer (some ⟨E.tb,0,none⟩),.agg #[.int .u8 k,.string nm,.string tx,.slice sa set.length sc,.slice na subs.length nc]] w fun e W'=>e=.returned (.bool (E.B.dv (.mk k nm tx set subs)))∧Grew w W'):=hid fun w hw=>xderives_ok E _ w _ _ _ _ _ (A3.out.grew hw).tab ((HND.out.keep ((G3.out.trans hw).mono HA.out.tab.low)).mono (Nat.le_trans HA.out.tab.low (G3.out.trans hw).size))
 obtain ⟨Q,hQ⟩:∃ Q,XRes E (From m (Der E.B E.wl (.mk k nm tx set subs))) S (NxF E.B E.wl m (.mk k nm tx set subs)) W=Q:=⟨_,rfl⟩
 rw [hQ]
 have HQ:=hid hQ
 have n0:=O1.out.cell_at (i:=0) rfl
 have n1:=O1.out.cell_at (i:=1) rfl
 have n2:=O1.out.cell_at (i:=2) rfl
 have n3:=O1.out.cell_at (i:=3) rfl
 have n4:=O1.out.cell_at (i:=4) rfl
 have nl:=O1.out.lt
 have k0:=A3.out.box.cell_at (i:=0) rfl
 have kl:=A3.out.box.lt
 clear hA hA3 hV o1 o2 o3 g1 g2 g3 hQ h9 hml hB hne
 subst hb
 have HM0:=hid hm0
 clear hm0
 unfold XE.ptr setV
 go_enter Tryz.func39,Tryz.ntmps39
 go_upto_region 1 with fail
 clear hw1 hw2 hw3 z1 z2
 refine wp_region_hav_lit follows (by kernel_rfl) ?_
 refine HavG.val (fun _=>rfl) (setV m) (fun x w hw _=>exec_load_set (O2.out.keep hw) rfl rfl) ?_
 simp only [Act.put,sia,scz,scs]
 refine HavG.val (fun _=>rfl) (setV 0) (fun x w hw _=>?_) ?_
 ·clear hw
  unfold setV
  rw [zset_cells]
  go_simp
 simp only [Act.put,sia,scz,scs]
 refine HavG.val (fun _=>rfl) (.bool true) (fun x w hw _=>by rw [exec_eql_set HMM.out (by decide) rfl rfl rfl,decide_eq_true HM0.out]) ?_
 simp only [Act.put,sia,scz,scs]
 iterate 10 ((first | refine HavG.skip (fun _=>rfl) ?_ | (refine HavG.val (fun _=>rfl) ?_ (fun x w hw _=>?_) ?_;rotate_left;(focus (have hc:=hw.cells;clear hw;go_simp;first | done | rfl))));simp only [Act.put,sia,scz,scs])
 refine HavG.tail (by kernel_rfl) (by kernel_rfl) (fun x w hw _=>?_)
 have AW:=hid (A3.out.grew hw)
 have O2W:=hid (O2.out.keep hw)
 have O3W:=hid (O3.out.keep hw)
 have RW:Hid (E.R W w):=hid (XE.R.grew (G3.out.trans hw))
 clear hw n0 n1 n2 n3 n4 nl k0 kl
 go_wp2_with (first | (refine wpList_load_set O3W.out rfl _ rfl rfl ?_) | (refine wpList_store_set O3W.out rfl _ _ rfl rfl rfl ?_;intro w6 o6 b6;have O6:=hid o6;have H6:=hid (XE.At.fresh HA.out AW.out b6 (by omega));have HR6:=hid (XE.R.fresh HA.out RW.out b6 (by omega));clear o6 b6))
 refine bodyPost_ret (ret_set rfl _ O6.out rfl) rfl ?_
 rw [← HQ.out]
 obtain rfl:=HM0.out
 exact ⟨0,rfl,by decide,Bits.zero.iff fun j=>⟨False.elim,fun ⟨i,h,_⟩=>by simp at h⟩,H6.out.iff fun t=>⟨.inl,fun h=>h.elim id fun ⟨i,t',h,_⟩=>by simp at h⟩,HR6.out⟩
set_option maxHeartbeats 8000000 in
set_option maxRecDepth 40000 in
theorem xn_void (E:XE) (hB:E.B.Lng) (k:Int) (nm tx:ByteArray) (set:List (Int × Int)) (subs:List Nd) (m:Nat) (hm0:m≠0) (hdt:E.B.dv (.mk k nm tx set subs)=false) (S:Int→Prop) (W:World) (v0 v1 v2 v3 v4:Value) (hm:m < 2 ^ 49) (hml:∀ i,m.testBit i=true→i≤E.wl.length) (hA:E.At S W) (hN:NodeAt W E.lim (some v0) (some v1) (some v2) (some v3) (some v4) (.mk k nm tx set subs))
  (hV:∀ i r a,m.testBit i=true→Vis E.B E.wl (.mk k nm tx set subs) i r a→AskX E r a) :
  Calls Tryz.prog 39 #[E.ptr,.agg #[v0,v1,v2,v3,v4],setV m] W (XRes E (From m (Der E.B E.wl (.mk k nm tx set subs))) S (NxF E.B E.wl m (.mk k nm tx set subs)) W):=by
 have HND:=hid hN
 rw [NodeAt] at hN
 obtain ⟨hk,h1,h2,h3,h4,h5,⟨sa,sc,h6,h6',h7⟩,na,nc,h8,h8',h9⟩:=hN
 obtain rfl:=Option.some.inj h3
 obtain rfl:=Option.some.inj h4
 obtain rfl:=Option.some.inj h5
 obtain rfl:=Option.some.inj h6
 obtain rfl:=Option.some.inj h8
 clear h3 h4 h5 h6 h8 h7
 unfold reachN at h1 h2 h6' h8'
 obtain ⟨b,hb⟩:∃ b,W.heap.size=b:=⟨_,rfl⟩
 obtain ⟨w1,hw1⟩:∃ w1,W.alloc (.cells #[.int .u8 k,.string nm,.string tx,.slice sa set.length sc,.slice na subs.length nc] 80)=w1:=⟨_,rfl⟩
 have g1:Grew W w1:=hw1▸grew_alloc W _
 have o1:Owns w1 b [.int .u8 k,.string nm,.string tx,.slice sa set.length sc,.slice na subs.length nc] 80:=by rw [← hw1,← hb];exact Owns.alloc W _ _
 have z1:w1.heap.size=b+1:=by rw [← hw1,← hb];exact World.size_alloc _ _
 obtain ⟨w2,hw2⟩:∃ w2,w1.alloc (.cells (setL m).toArray 66)=w2:=⟨_,rfl⟩
 have g2:Grew w1 w2:=hw2▸grew_alloc w1 _
 have o2:Owns w2 (b+1) (setL m) 66:=by rw [← hw2,← z1];exact Owns.alloc w1 _ _
 have z2:w2.heap.size=b+1+1:=by rw [← hw2,← z1];exact World.size_alloc _ _
 obtain ⟨w3,hw3⟩:∃ w3,w2.alloc (.cells #[.bool false,.bool false,.bool false,.bool false,.bool false,.bool false,.bool false,.bool false,.bool false,.bool false,.bool false,.bool false,.bool false,.bool false,.bool false,.bool false,.bool false,.bool false,.bool false,.bool false,.bool false,.bool false,.bool false,.bool false,.bool false,.bool false,.bool false,.bool false,.bool false,.bool false,.bool false,.bool false,.bool false,.bool false,.bool false,.bool false,.bool false,.bool false,.bool false,.bool false,.bool false,.bool false,.bool false,.bool false,.bool false,.bool false,.bool false,.bool false,.bool false] 66)=w3:=⟨_,rfl⟩
 have g3:Grew w2 w3:=hw3▸grew_alloc w2 _
 have o3:Owns w3 (b+1+1) (setL 0) 66:=by rw [← hw3,← z2];exact zset_owns w2
 have hA3:=hA.grew ((g1.trans g2).trans g3)
 have O1:=hid ((o1.keep g2).keep g3)
 have O2:=hid (o2.keep g3)
 have O3:=hid o3
 have HA:=hid hA
 have A3:=hid hA3
 have G3:=hid ((g1.trans g2).trans g3)
 have HB:=hid hb
 have HLT:=hid hA.lts
 have HML:=hid hml
 have HMM:=hid hm
 have HV:=hid hV
 have H90:=hid h9
 have H9:Hid (NodesAt w3 E.lim na 0 subs):=hid (h9.keep (((g1.trans g2).trans g3).mono hA.tab.low))
 have HLNG:=hid hB
 have hne:∀ f,b≤f→f≠E.kb∧f≠E.nb∧f≠E.kw∧¬ (f=E.kb∨f=E.nb):=fun f h=>by have:=hA.lts;omega
 have HNE:=hid hne
 have HDV:Hid (∀ w,Grew w3 w→Calls Tryz.prog 61 #[.pointer (some ⟨E.tb,0,none⟩),.agg #[.int .u8 k,.string nm,.string tx,.slice sa set.length sc,.slice na subs.length nc]] w fun e W'=>e=.returned (.bool (E.B.dv (.mk k nm tx set subs)))∧Grew w W'):=hid fun w hw=>xderives_ok E _ w _ _ _ _ _ (A3.out.grew hw).tab ((HND.out.keep ((G3.out.trans hw).mono HA.out.tab.low)).mono (Nat.le_trans HA.out.tab.low (G3.out.trans hw).size))
 obtain ⟨Q,hQ⟩:∃ Q,XRes E (From m (Der E.B E.wl (.mk k nm tx set subs))) S (NxF E.B E.wl m (.mk k nm tx set subs)) W=Q:=⟨_,rfl⟩
 rw [hQ]
 have HQ:=hid hQ
 have n0:=O1.out.cell_at (i:=0) rfl
 have n1:=O1.out.cell_at (i:=1) rfl
 have n2:=O1.out.cell_at (i:=2) rfl
 have n3:=O1.out.cell_at (i:=3) rfl
 have n4:=O1.out.cell_at (i:=4) rfl
 have nl:=O1.out.lt
 have k0:=A3.out.box.cell_at (i:=0) rfl
 have kl:=A3.out.box.lt
 clear hA hA3 hV o1 o2 o3 g1 g2 g3 hQ h9 hml hB hne
 subst hb
 have HM0:=hid hm0
 have HDT:=hid hdt
 clear hm0 hdt
 unfold XE.ptr setV
 go_enter Tryz.func39,Tryz.ntmps39
 go_upto_region 1 with fail
 clear hw1 hw2 hw3 z1 z2
 refine wp_region_hav_lit follows (by kernel_rfl) ?_
 refine HavG.val (fun _=>rfl) (setV m) (fun x w hw _=>exec_load_set (O2.out.keep hw) rfl rfl) ?_
 simp only [Act.put,sia,scz,scs]
 refine HavG.val (fun _=>rfl) (setV 0) (fun x w hw _=>?_) ?_
 ·clear hw
  unfold setV
  rw [zset_cells]
  go_simp
 simp only [Act.put,sia,scz,scs]
 refine HavG.val (fun _=>rfl) (.bool false) (fun x w hw _=>by rw [exec_eql_set HMM.out (by decide) rfl rfl rfl,decide_eq_false HM0.out]) ?_
 simp only [Act.put,sia,scz,scs]
 iterate 8 ((first | refine HavG.skip (fun _=>rfl) ?_ | (refine HavG.val (fun _=>rfl) ?_ (fun x w hw _=>?_) ?_;rotate_left;(focus (have hc:=hw.cells;clear hw;go_simp;first | done | rfl))));simp only [Act.put,sia,scz,scs])
 refine HavG.det (fun _=>rfl) (.bool false) (fun x w hw hd=>?_) ?_
 ·clear hd
  have HW:=hid hw
  clear hw
  go_simp
  refine (HDV.out _ HW.out).mono ?_
  rintro e w' ⟨rfl,hg⟩
  exact ⟨by rw [HDT.out],hg⟩
 simp only [Act.put,sia,scz,scs]
 iterate 1 ((first | refine HavG.skip (fun _=>rfl) ?_ | (refine HavG.val (fun _=>rfl) ?_ (fun x w hw _=>?_) ?_;rotate_left;(focus (have hc:=hw.cells;clear hw;go_simp;first | done | rfl))));simp only [Act.put,sia,scz,scs])
 refine HavG.tail (by kernel_rfl) (by kernel_rfl) (fun x w hw _=>?_)
 have AW:=hid (A3.out.grew hw)
 have O2W:=hid (O2.out.keep hw)
 have O3W:=hid (O3.out.keep hw)
 have RW:Hid (E.R W w):=hid (XE.R.grew (G3.out.trans hw))
 clear hw n0 n1 n2 n3 n4 nl k0 kl
 go_wp2_with (first | (refine wpList_load_set O3W.out rfl _ rfl rfl ?_) | (refine wpList_store_set O3W.out rfl _ _ rfl rfl rfl ?_;intro w6 o6 b6;have O6:=hid o6;have H6:=hid (XE.At.fresh HA.out AW.out b6 (by omega));have HR6:=hid (XE.R.fresh HA.out RW.out b6 (by omega));clear o6 b6))
 refine bodyPost_ret (ret_set rfl _ O6.out rfl) rfl ?_
 rw [← HQ.out]
 have hno:E.B.dv (.mk k nm tx set subs)=true→False:=fun h=>by rw [HDT.out] at h;cases h
 have hfew:=H6.out.few
 exact ⟨0,rfl,by decide,Bits.zero.iff fun j=>⟨False.elim,fun ⟨i,h,hd⟩=>hno (dv_of_der HLNG.out (by omega) hd (HML.out i h))⟩,H6.out.iff fun t=>⟨.inl,fun h=>h.elim id fun ⟨i,t',h,hd,_⟩=>(hno (nx_dv HLNG.out (by omega) hd (HML.out i h))).elim⟩,HR6.out⟩
end Go.Proofs.YtppjmdanckdobaaGreatDoor

/- node of expects: whatever else. Printed by genxnode.py. -/
namespace Go.Proofs.YtppjmdanckdobaaGreatDoor
open Go.RowKit
open Lib (hid)
set_option maxHeartbeats 8000000 in
set_option maxRecDepth 40000 in
theorem xn_other (E:XE) (hB:E.B.Lng) (k:Int) (nm tx:ByteArray) (set:List (Int × Int)) (subs:List Nd) (m:Nat) (hko:k < 0∨6 < k) (hm0:m≠0) (hdt:E.B.dv (.mk k nm tx set subs)=true) (S:Int→Prop) (W:World) (v0 v1 v2 v3 v4:Value) (hm:m < 2 ^ 49) (hml:∀ i,m.testBit i=true→i≤E.wl.length) (hA:E.At S W) (hN:NodeAt W E.lim (some v0) (some v1) (some v2) (some v3) (some v4) (.mk k nm tx set subs))
  (hV:∀ i r a,m.testBit i=true→Vis E.B E.wl (.mk k nm tx set subs) i r a→AskX E r a) :
  Calls Tryz.prog 39 #[E.ptr,.agg #[v0,v1,v2,v3,v4],setV m] W (XRes E (From m (Der E.B E.wl (.mk k nm tx set subs))) S (NxF E.B E.wl m (.mk k nm tx set subs)) W):=by
 have HND:=hid hN
 rw [NodeAt] at hN
 obtain ⟨hk,h1,h2,h3,h4,h5,⟨sa,sc,h6,h6',h7⟩,na,nc,h8,h8',h9⟩:=hN
 obtain rfl:=Option.some.inj h3
 obtain rfl:=Option.some.inj h4
 obtain rfl:=Option.some.inj h5
 obtain rfl:=Option.some.inj h6
 obtain rfl:=Option.some.inj h8
 clear h3 h4 h5 h6 h8 h7
 unfold reachN at h1 h2 h6' h8'
 obtain ⟨b,hb⟩:∃ b,W.heap.size=b:=⟨_,rfl⟩
 obtain ⟨w1,hw1⟩:∃ w1,W.alloc (.cells #[.int .u8 k,.string nm,.string tx,.slice sa set.length sc,.slice na subs.length nc] 80)=w1:=⟨_,rfl⟩
 have g1:Grew W w1:=hw1▸grew_alloc W _
 have o1:Owns w1 b [.int .u8 k,.string nm,.string tx,.slice sa set.length sc,.slice na subs.length nc] 80:=by rw [← hw1,← hb];exact Owns.alloc W _ _
 have z1:w1.heap.size=b+1:=by rw [← hw1,← hb];exact World.size_alloc _ _
 obtain ⟨w2,hw2⟩:∃ w2,w1.alloc (.cells (setL m).toArray 66)=w2:=⟨_,rfl⟩
 have g2:Grew w1 w2:=hw2▸grew_alloc w1 _
 have o2:Owns w2 (b+1) (setL m) 66:=by rw [← hw2,← z1];exact Owns.alloc w1 _ _
 have z2:w2.heap.size=b+1+1:=by rw [← hw2,← z1];exact World.size_alloc _ _
 obtain ⟨w3,hw3⟩:∃ w3,w2.alloc (.cells #[.bool false,.bool false,.bool false,.bool false,.bool false,.bool false,.bool false,.bool false,.bool false,.bool false,.bool false,.bool false,.bool false,.bool false,.bool false,.bool false,.bool false,.bool false,.bool false,.bool false,.bool false,.bool false,.bool false,.bool false,.bool false,.bool false,.bool false,.bool false,.bool false,.bool false,.bool false,.bool false,.bool false,.bool false,.bool false,.bool false,.bool false,.bool false,.bool false,.bool false,.bool false,.bool false,.bool false,.bool false,.bool false,.bool false,.bool false,.bool false,.bool false] 66)=w3:=⟨_,rfl⟩
 have g3:Grew w2 w3:=hw3▸grew_alloc w2 _
 have o3:Owns w3 (b+1+1) (setL 0) 66:=by rw [← hw3,← z2];exact zset_owns w2
 have hA3:=hA.grew ((g1.trans g2).trans g3)
 have O1:=hid ((o1.keep g2).keep g3)
 have O2:=hid (o2.keep g3)
 have O3:=hid o3
 have HA:=hid hA
 have A3:=hid hA3
 have G3:=hid ((g1.trans g2).trans g3)
 have HB:=hid hb
 have HLT:=hid hA.lts
 have HML:=hid hml
 have HMM:=hid hm
 have HV:=hid hV
 have H90:=hid h9
 have H9:Hid (NodesAt w3 E.lim na 0 subs):=hid (h9.keep (((g1.trans g2).trans g3).mono hA.tab.low))
 have HLNG:=hid hB
 have hne:∀ f,b≤f→f≠E.kb∧f≠E.nb∧f≠E.kw∧¬ (f=E.kb∨f=E.nb):=fun f h=>by have:=hA.lts;omega
 have HNE:=hid hne
 have HDV:Hid (∀ w,Grew w3 w→Calls Tryz.prog 61 #[.pointer (some ⟨E.tb,0,none⟩),.agg #[.int .u8 k,.string nm,.string tx,.slice sa set.length sc,.slice na subs.length nc]] w fun e W'=>e=.returned (.bool (E.B.dv (.mk k nm tx set subs)))∧Grew w W'):=hid fun w hw=>xderives_ok E _ w _ _ _ _ _ (A3.out.grew hw).tab ((HND.out.keep ((G3.out.trans hw).mono HA.out.tab.low)).mono (Nat.le_trans HA.out.tab.low (G3.out.trans hw).size))
 obtain ⟨Q,hQ⟩:∃ Q,XRes E (From m (Der E.B E.wl (.mk k nm tx set subs))) S (NxF E.B E.wl m (.mk k nm tx set subs)) W=Q:=⟨_,rfl⟩
 rw [hQ]
 have HQ:=hid hQ
 have n0:=O1.out.cell_at (i:=0) rfl
 have n1:=O1.out.cell_at (i:=1) rfl
 have n2:=O1.out.cell_at (i:=2) rfl
 have n3:=O1.out.cell_at (i:=3) rfl
 have n4:=O1.out.cell_at (i:=4) rfl
 have nl:=O1.out.lt
 have k0:=A3.out.box.cell_at (i:=0) rfl
 have kl:=A3.out.box.lt
 clear hA hA3 hV o1 o2 o3 g1 g2 g3 hQ h9 hml hB hne
 subst hb
 have HM0:=hid hm0
 have HDT:=hid hdt
 have HKO:=hid hko
 have e6:(k == 6)=false:=beq_eq_false_iff_ne.2 (by omega)
 have e5:(k == 5)=false:=beq_eq_false_iff_ne.2 (by omega)
 have e1:(k == 1)=false:=beq_eq_false_iff_ne.2 (by omega)
 have e0:(k == 0)=false:=beq_eq_false_iff_ne.2 (by omega)
 have e2:(k == 2)=false:=beq_eq_false_iff_ne.2 (by omega)
 have e3:(k == 3)=false:=beq_eq_false_iff_ne.2 (by omega)
 have e4:(k == 4)=false:=beq_eq_false_iff_ne.2 (by omega)
 clear hm0 hdt hko
 unfold XE.ptr setV
 go_enter Tryz.func39,Tryz.ntmps39
 go_upto_region 1 with fail
 clear hw1 hw2 hw3 z1 z2
 refine wp_region_hav_lit follows (by kernel_rfl) ?_
 refine HavG.val (fun _=>rfl) (setV m) (fun x w hw _=>exec_load_set (O2.out.keep hw) rfl rfl) ?_
 simp only [Act.put,sia,scz,scs]
 refine HavG.val (fun _=>rfl) (setV 0) (fun x w hw _=>?_) ?_
 ·clear hw
  unfold setV
  rw [zset_cells]
  go_simp
 simp only [Act.put,sia,scz,scs]
 refine HavG.val (fun _=>rfl) (.bool false) (fun x w hw _=>by rw [exec_eql_set HMM.out (by decide) rfl rfl rfl,decide_eq_false HM0.out]) ?_
 simp only [Act.put,sia,scz,scs]
 iterate 8 ((first | refine HavG.skip (fun _=>rfl) ?_ | (refine HavG.val (fun _=>rfl) ?_ (fun x w hw _=>?_) ?_;rotate_left;(focus (have hc:=hw.cells;clear hw;go_simp;first | done | rfl))));simp only [Act.put,sia,scz,scs])
 refine HavG.det (fun _=>rfl) (.bool true) (fun x w hw hd=>?_) ?_
 ·clear hd
  have HW:=hid hw
  clear hw
  go_simp
  refine (HDV.out _ HW.out).mono ?_
  rintro e w' ⟨rfl,hg⟩
  exact ⟨by rw [HDT.out],hg⟩
 simp only [Act.put,sia,scz,scs]
 iterate 1 ((first | refine HavG.skip (fun _=>rfl) ?_ | (refine HavG.val (fun _=>rfl) ?_ (fun x w hw _=>?_) ?_;rotate_left;(focus (have hc:=hw.cells;clear hw;go_simp;first | done | rfl))));simp only [Act.put,sia,scz,scs])
 refine HavG.tail (by kernel_rfl) (by kernel_rfl) (fun x w hw _=>?_)
 have GW:=hid hw
 have AW:=hid (A3.out.grew hw)
 have O1W:=hid (O1.out.keep hw)
 have O2W:=hid (O2.out.keep hw)
 have O3W:=hid (O3.out.keep hw)
 have H9W:Hid (NodesAt w E.lim na 0 subs):=hid (H9.out.keep (hw.mono A3.out.tab.low))
 have RW:Hid (E.R W w):=hid (XE.R.grew (G3.out.trans hw))
 clear hw n0 n1 n2 n3 n4 nl k0 kl
 obtain ⟨w4,rfl⟩:∃ z,z=w:=⟨_,rfl⟩
 have n0:=O1W.out.cell_at (i:=0) rfl
 have n1:=O1W.out.cell_at (i:=1) rfl
 have n4:=O1W.out.cell_at (i:=4) rfl
 have nl:=O1W.out.lt
 go_wp2_with (first | (refine wpList_load_set O2W.out rfl _ rfl rfl ?_) | (refine wpList_store_set O3W.out rfl _ _ rfl rfl rfl ?_;intro w6 o6 b6;have O6:=hid o6;have H6:=hid (XE.At.fresh HA.out AW.out b6 (by omega));have HR6:=hid (XE.R.fresh HA.out RW.out b6 (by omega));clear o6 b6))
 refine bodyPost_ret (ret_set rfl _ O6.out rfl) rfl ?_
 rw [← HQ.out]
 have hko:=HKO.out
 refine ⟨m,rfl,HMM.out,(Bits.self (Nat.lt_of_lt_of_le HMM.out (by decide))).iff fun j=>?_,H6.out.iff fun t=>⟨.inl,fun h=>h.elim id fun ⟨i,t',h,hd,_⟩=>?_⟩,HR6.out⟩
 ·constructor
  ·exact fun h=>⟨j,h,.other hko⟩
  ·rintro ⟨i,h,hd⟩
   cases hd<;>first | exact h | omega
 ·cases hd<;>omega
end Go.Proofs.YtppjmdanckdobaaGreatDoor
