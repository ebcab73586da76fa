/- node of expects: one of some. Printed by genxnode.py. -/
import Derived.Test.YtppjmdanckdobaaGreatDoorQR31
namespace Go.Proofs.YtppjmdanckdobaaGreatDoor
open Go.RowKit
open Lib (hid)
set_option maxHeartbeats 8000000 in
set_option maxRecDepth 40000 in
theorem xn_alt (E:XE) (hB:E.B.Lng) (nm tx:ByteArray) (set:List (Int × Int)) (subs:List Nd) (hno:∀ s∈subs,NodeX E s) (m:Nat) (hm0:m≠0) (hdt:E.B.dv (.mk 0 nm tx set subs)=true) (S:Int→Prop) (W:World) (v0 v1 v2 v3 v4:Value) (hm:m < 2 ^ 49) (hml:∀ i,m.testBit i=true→i≤E.wl.length) (hA:E.At S W) (hN:NodeAt W E.lim (some v0) (some v1) (some v2) (some v3) (some v4) (.mk 0 nm tx set subs))
  (hV:∀ i r a,m.testBit i=true→Vis E.B E.wl (.mk 0 nm tx set subs) i r a→AskX E r a) :
  Calls Tryz.prog 39 #[E.ptr,.agg #[v0,v1,v2,v3,v4],setV m] W (XRes E (From m (Der E.B E.wl (.mk 0 nm tx set subs))) S (NxF E.B E.wl m (.mk 0 nm tx set subs)) W):=by
 have HND:=hid hN
 rw [NodeAt] at hN
 obtain ⟨hk,h1,h2,h3,h4,h5,⟨sa,sc,h6,h6',h7⟩,na,nc,h8,h8',h9⟩:=hN
 obtain rfl:=Option.some.inj h3
 obtain rfl:=Option.some.inj h4
 obtain rfl:=Option.some.inj h5
 obtain rfl:=Option.some.inj h6
 obtain rfl:=Option.some.inj h8
 clear h3 h4 h5 h6 h8 h7
 unfold reachN at h1 h2 h6' h8'
 obtain ⟨b,hb⟩:∃ b,W.heap.size=b:=⟨_,rfl⟩
 obtain ⟨w1,hw1⟩:∃ w1,W.alloc (.cells #[.int .u8 0,.string nm,.string tx,.slice sa set.length sc,.slice na subs.length nc] 80)=w1:=⟨_,rfl⟩
 have g1:Grew W w1:=hw1▸grew_alloc W _
 have o1:Owns w1 b [.int .u8 0,.string nm,.string tx,.slice sa set.length sc,.slice na subs.length nc] 80:=by rw [← hw1,← hb];exact Owns.alloc W _ _
 have z1:w1.heap.size=b+1:=by rw [← hw1,← hb];exact World.size_alloc _ _
 obtain ⟨w2,hw2⟩:∃ w2,w1.alloc (.cells (setL m).toArray 66)=w2:=⟨_,rfl⟩
 have g2:Grew w1 w2:=hw2▸grew_alloc w1 _
 have o2:Owns w2 (b+1) (setL m) 66:=by rw [← hw2,← z1];exact Owns.alloc w1 _ _
 have z2:w2.heap.size=b+1+1:=by rw [← hw2,← z1];exact World.size_alloc _ _
 obtain ⟨w3,hw3⟩:∃ w3,w2.alloc (.cells #[.bool false,.bool false,.bool false,.bool false,.bool false,.bool false,.bool false,.bool false,.bool false,.bool false,.bool false,.bool false,.bool false,.bool false,.bool false,.bool false,.bool false,.bool false,.bool false,.bool false,.bool false,.bool false,.bool false,.bool false,.bool false,.bool false,.bool false,.bool false,.bool false,.bool false,.bool false,.bool false,.bool false,.bool false,.bool false,.bool false,.bool false,.bool false,.bool false,.bool false,.bool false,.bool false,.bool false,.bool false,.bool false,.bool false,.bool false,.bool false,.bool false] 66)=w3:=⟨_,rfl⟩
 have g3:Grew w2 w3:=hw3▸grew_alloc w2 _
 have o3:Owns w3 (b+1+1) (setL 0) 66:=by rw [← hw3,← z2];exact zset_owns w2
 have hA3:=hA.grew ((g1.trans g2).trans g3)
 have O1:=hid ((o1.keep g2).keep g3)
 have O2:=hid (o2.keep g3)
 have O3:=hid o3
 have HA:=hid hA
 have A3:=hid hA3
 have G3:=hid ((g1.trans g2).trans g3)
 have HB:=hid hb
 have HLT:=hid hA.lts
 have HML:=hid hml
 have HMM:=hid hm
 have HV:=hid hV
 have H90:=hid h9
 have H9:Hid (NodesAt w3 E.lim na 0 subs):=hid (h9.keep (((g1.trans g2).trans g3).mono hA.tab.low))
 have HLNG:=hid hB
 have hne:∀ f,b≤f→f≠E.kb∧f≠E.nb∧f≠E.kw∧¬ (f=E.kb∨f=E.nb):=fun f h=>by have:=hA.lts;omega
 have HNE:=hid hne
 have HDV:Hid (∀ w,Grew w3 w→Calls Tryz.prog 61 #[.pointer (some ⟨E.tb,0,none⟩),.agg #[.int .u8 0,.string nm,.string tx,.slice sa set.length sc,.slice na subs.length nc]] w fun e W'=>e=.returned (.bool (E.B.dv (.mk 0 nm tx set subs)))∧Grew w W'):=hid fun w hw=>xderives_ok E _ w _ _ _ _ _ (A3.out.grew hw).tab ((HND.out.keep ((G3.out.trans hw).mono HA.out.tab.low)).mono (Nat.le_trans HA.out.tab.low (G3.out.trans hw).size))
 obtain ⟨Q,hQ⟩:∃ Q,XRes E (From m (Der E.B E.wl (.mk 0 nm tx set subs))) S (NxF E.B E.wl m (.mk 0 nm tx set subs)) W=Q:=⟨_,rfl⟩
 rw [hQ]
 have HQ:=hid hQ
 have n0:=O1.out.cell_at (i:=0) rfl
 have n1:=O1.out.cell_at (i:=1) rfl
 have n2:=O1.out.cell_at (i:=2) rfl
 have n3:=O1.out.cell_at (i:=3) rfl
 have n4:=O1.out.cell_at (i:=4) rfl
 have nl:=O1.out.lt
 have k0:=A3.out.box.cell_at (i:=0) rfl
 have kl:=A3.out.box.lt
 clear hA hA3 hV o1 o2 o3 g1 g2 g3 hQ h9 hml hB hne
 subst hb
 have HNO:=hid hno
 clear hno
 have HM0:=hid hm0
 have HDT:=hid hdt
 clear hm0 hdt
 unfold XE.ptr setV
 go_enter Tryz.func39,Tryz.ntmps39
 go_upto_region 1 with fail
 clear hw1 hw2 hw3 z1 z2
 refine wp_region_hav_lit follows (by kernel_rfl) ?_
 refine HavG.val (fun _=>rfl) (setV m) (fun x w hw _=>exec_load_set (O2.out.keep hw) rfl rfl) ?_
 simp only [Act.put,sia,scz,scs]
 refine HavG.val (fun _=>rfl) (setV 0) (fun x w hw _=>?_) ?_
 ·clear hw
  unfold setV
  rw [zset_cells]
  go_simp
 simp only [Act.put,sia,scz,scs]
 refine HavG.val (fun _=>rfl) (.bool false) (fun x w hw _=>by rw [exec_eql_set HMM.out (by decide) rfl rfl rfl,decide_eq_false HM0.out]) ?_
 simp only [Act.put,sia,scz,scs]
 iterate 8 ((first | refine HavG.skip (fun _=>rfl) ?_ | (refine HavG.val (fun _=>rfl) ?_ (fun x w hw _=>?_) ?_;rotate_left;(focus (have hc:=hw.cells;clear hw;go_simp;first | done | rfl))));simp only [Act.put,sia,scz,scs])
 refine HavG.det (fun _=>rfl) (.bool true) (fun x w hw hd=>?_) ?_
 ·clear hd
  have HW:=hid hw
  clear hw
  go_simp
  refine (HDV.out _ HW.out).mono ?_
  rintro e w' ⟨rfl,hg⟩
  exact ⟨by rw [HDT.out],hg⟩
 simp only [Act.put,sia,scz,scs]
 iterate 1 ((first | refine HavG.skip (fun _=>rfl) ?_ | (refine HavG.val (fun _=>rfl) ?_ (fun x w hw _=>?_) ?_;rotate_left;(focus (have hc:=hw.cells;clear hw;go_simp;first | done | rfl))));simp only [Act.put,sia,scz,scs])
 refine HavG.tail (by kernel_rfl) (by kernel_rfl) (fun x w hw _=>?_)
 have GW:=hid hw
 have AW:=hid (A3.out.grew hw)
 have O1W:=hid (O1.out.keep hw)
 have O2W:=hid (O2.out.keep hw)
 have O3W:=hid (O3.out.keep hw)
 have H9W:Hid (NodesAt w E.lim na 0 subs):=hid (H9.out.keep (hw.mono A3.out.tab.low))
 have RW:Hid (E.R W w):=hid (XE.R.grew (G3.out.trans hw))
 clear hw n0 n1 n2 n3 n4 nl k0 kl
 obtain ⟨w4,rfl⟩:∃ z,z=w:=⟨_,rfl⟩
 have n0:=O1W.out.cell_at (i:=0) rfl
 have n1:=O1W.out.cell_at (i:=1) rfl
 have n4:=O1W.out.cell_at (i:=4) rfl
 have nl:=O1W.out.lt
 go_wp2_with fail
 clear n0 n1 n4 nl
 go_loopw [92] (fun c wr=>∃ (j q:Nat),c=.int .i64 j∧j≤subs.length∧Hid (q < 2 ^ 49)∧Hid (Bits q fun k=>∃ x∈subs.take j,From m (Der E.B E.wl x) k)∧Hid (Owns wr W.heap.size [.int .u8 0,.string nm,.string tx,.slice sa set.length sc,.slice na subs.length nc] 80)∧Hid (Owns wr (W.heap.size+1) (setL m) 66)∧Hid (Owns wr (W.heap.size+1+1) (setL q) 66)∧Hid (E.At (fun t=>S t∨∃ x∈subs.take j,NxF E.B E.wl m x t) wr)∧Hid (E.R W wr)) (fun c _=>subs.length - (intOf c).toNat)
 case atStart=>exact ⟨0,0,rfl,by omega,hid (by decide),hid (Bits.zero.iff fun k=>⟨False.elim,fun ⟨x,h,_⟩=>by simp at h⟩),O1W,O2W,O3W,hid (AW.out.iff fun t=>⟨.inl,fun h=>h.elim id fun ⟨x,h,_⟩=>by simp at h⟩),RW⟩
 case round =>
  obtain ⟨j,q,rfl,hj,HQ49,HQB,HO1,HO2,HO3,HAR,HRW⟩:=hrel
  have n0:=HO1.out.cell_at (i:=0) rfl
  have n1:=HO1.out.cell_at (i:=1) rfl
  have n4:=HO1.out.cell_at (i:=4) rfl
  have nl:=HO1.out.lt
  by_cases hlt:j < subs.length
  ·obtain ⟨b,off,rfl,hbl,hnode⟩:=(H90.out.keep (HRW.out.below HA.out)).get hlt
   simp only [Nat.zero_add] at hnode
   obtain ⟨y0,y1,y2,y3,y4,c0,c1,c2,c3,c4,hnode⟩:=hnode.vals
   obtain ⟨p0,p1,p2,p3,p4,p5,p6,p7,p8,rfl,rfl,rfl,rfl,rfl⟩:=hnode.forms
   have hbl2:b < wr.heap.size:=by have:=HAR.out.tab.low;omega
   have HNODE:=hid hnode
   have HLTJ:=hid hlt
   have hj2:(j:Int) < (subs.length:Int):=by omega
   obtain ⟨t,ht⟩:∃ t,wr.heap.size=t:=⟨_,rfl⟩
   obtain ⟨w5,hw5⟩:∃ w5,wr.alloc (.cells #[.int .u8 p0,.string p1,.string p2,.slice p3 p4 p5,.slice p6 p7 p8] 80)=w5:=⟨_,rfl⟩
   have g5:Grew wr w5:=hw5▸grew_alloc wr _
   have o5:Owns w5 t [.int .u8 p0,.string p1,.string p2,.slice p3 p4 p5,.slice p6 p7 p8] 80:=by rw [← hw5,← ht];exact Owns.alloc wr _ _
   have HT5:=hid (show W.heap.size+1+1 < t by have:=HO3.out.lt;omega)
   have O15:=hid (HO1.out.keep g5)
   have O25:=hid (HO2.out.keep g5)
   have O35:=hid (HO3.out.keep g5)
   have OT5:=hid o5
   have A5:=hid (HAR.out.grew g5)
   have R5:=hid (HRW.out.trans (XE.R.grew g5))
   have HN5:=hid (hnode.keep (g5.mono HAR.out.tab.low))
   clear g5 o5 hnode
   obtain ⟨T0,hT0⟩:∃ T0:Int→Prop,(fun t=>S t∨∃ x∈subs.take j,NxF E.B E.wl m x t)=T0:=⟨_,rfl⟩
   have HT0:=hid hT0
   rw [hT0] at A5
   clear hT0
   go_upto_region 24 with fail
   clear hw5 ht n0 n1 n4 nl c0 c1 c2 c3 c4 hbl hbl2
   have HFAC:Hid (∀ w,E.R w5 w→t < w.heap.size∧w.cell? ⟨t,0,none⟩=some (.int .u8 p0)∧w.cell? ⟨t,1,none⟩=some (.string p1)∧w.cell? ⟨t,2,none⟩=some (.string p2)∧w.cell? ⟨t,3,none⟩=some (.slice p3 p4 p5)∧w.cell? ⟨t,4,none⟩=some (.slice p6 p7 p8)):=hid fun w hw=>by
    have h2:=hw.owns OT5.out (HNE.out _ (by have:=HT5.out;omega)).2.2.2
    exact ⟨h2.lt,h2.cell_at (i:=0) rfl,h2.cell_at (i:=1) rfl,h2.cell_at (i:=2) rfl,h2.cell_at (i:=3) rfl,h2.cell_at (i:=4) rfl⟩
   refine wp_region_hav_litX (G:=E.G T0 (fun t=>T0 t∨NxF E.B E.wl m subs[j] t)) (E.grel _ _) follows (by kernel_rfl) ?_
   refine HavX.val (E.grel _ _) (fun _=>rfl) (setV q) (fun x w hw _=>exec_load_set (hw.1.owns O35.out (HNE.out _ (by omega)).2.2.2) rfl rfl) ?_
   simp only [Act.put,sia,scz,scs]
   iterate 2 ((first | refine HavX.skip (fun _=>rfl) ?_ | (refine HavX.val (E.grel _ _) (fun _=>rfl) ?_ (fun x w hw _=>?_) ?_;rotate_left;(focus (obtain ⟨y0,y1,y2,y3,y4,y5⟩:=HFAC.out w hw.1;clear hw;go_simp;first | done | rfl))));simp only [Act.put,sia,scz,scs])
   refine HavX.val (E.grel _ _) (fun _=>rfl) (setV m) (fun x w hw _=>exec_load_set (hw.1.owns O25.out (HNE.out _ (by omega)).2.2.2) rfl rfl) ?_
   simp only [Act.put,sia,scz,scs]
   refine HavX.any (fun _=>rfl) (fun _=>NoteR E (fun t=>T0 t∨NxF E.B E.wl m subs[j] t) (From m (Der E.B E.wl subs[j]))) (fun _ _ _ _ _ h=>h) (fun _ _ _ _ hg h=>h.keep hg) (fun x9 w hw hd=>?_) ?_
   ·obtain ⟨T,hT,hTN⟩:=XE.G.call A5.out hw
    have HC:=hid (HNO.out _ (List.getElem_mem HLTJ.out) m T w _ _ _ _ _ HMM.out HML.out hT (HN5.out.keep (hw.1.below A5.out)) (fun i r a h1 h2=>HV.out i r a h1 (.alt (List.getElem_mem HLTJ.out) h2)))
    have HTN:=hid hTN
    unfold XE.ptr at HC
    clear hd hw hT hTN
    go_simp
    refine HC.out.mono ?_
    rintro e w' ⟨q,rfl,h1,h2,h3,h4⟩
    have h5:E.At (fun t=>T0 t∨NxF E.B E.wl m subs[j] t) w':=h3.iff HTN.out
    exact ⟨XE.G.done h4 h5,q,rfl,h1,h2,h5⟩
   simp only [Act.put,sia,scz,scs]
   refine HavX.any (fun _=>rfl) (fun _ v w=>∃ q2,v=setV (q ||| q2)∧q2 < 2 ^ 49∧Bits q2 (From m (Der E.B E.wl subs[j]))∧E.At (fun t=>T0 t∨NxF E.B E.wl m subs[j] t) w) (fun _ _ _ _ _ h=>h) (fun _ _ _ _ hg ⟨q,h1,h2,h3,h4⟩=>⟨q,h1,h2,h3,hg.2.2 h4⟩) (fun x9 w hw hd=>?_) ?_
   ·obtain ⟨q2,hx,hq1,hq2,hq3⟩:=hd _ (List.mem_append_right _ (List.mem_singleton.2 rfl)) (by kernel_rfl)
    dsimp only at hx
    have HQ1':=hid hq1
    have HQ2':=hid hq2
    have HQ3':=hid hq3
    have HWI:=hid (xwith_ok q q2 hq1 w)
    clear hd hw hq1 hq2 hq3
    simp only [hx]
    go_simp
    refine HWI.out.mono ?_
    rintro e w' ⟨rfl,hg⟩
    exact ⟨XE.G.grew hg,q2,rfl,HQ1'.out,HQ2'.out,HQ3'.out.grew hg⟩
   simp only [Act.put,sia,scz,scs]
   refine HavX.tail (by kernel_rfl) (by kernel_rfl) (fun x9 w hw hd=>?_)
   obtain ⟨q2,hx,hq1,hq2,hq3⟩:=hd _ (List.mem_append_right _ (List.mem_singleton.2 rfl))
   dsimp only at hx
   have HQ1':=hid hq1
   have HQ2':=hid hq2
   have AB:=hid hq3
   have O1B:=hid (hw.1.owns O15.out (HNE.out _ (by omega)).2.2.2)
   have O2B:=hid (hw.1.owns O25.out (HNE.out _ (by omega)).2.2.2)
   have O3B:=hid (hw.1.owns O35.out (HNE.out _ (by omega)).2.2.2)
   have RB:=hid (R5.out.trans hw.1)
   clear hd hw hq1 hq2 hq3
   simp only [hx]
   clear hx
   go_wp2_with (refine wpList_store_set O3B.out rfl _ _ rfl rfl rfl ?_;intro wc oc bc;have OC:=hid oc;have BC:=hid bc;clear oc bc;simp only [Act.put])
   have hsn:=take_snoc HLTJ.out
   refine ⟨⟨j+1,q ||| q2,by go_num,by omega,hid (Nat.or_lt_two_pow HQ49.out HQ1'.out),hid ((HQB.out.or HQ2'.out).iff fun k=>?_),hid (BC.out.owns O1B.out (by omega)),hid (BC.out.owns O2B.out (by omega)),OC,hid ((XE.At.fresh HA.out AB.out BC.out (by omega)).iff fun t=>?_),hid (XE.R.fresh HA.out RB.out BC.out (by omega))⟩,by simp [intOf];omega⟩
   ·rw [hsn]
    simp only [List.mem_append,List.mem_singleton]
    exact ⟨fun h=>h.elim (fun ⟨x,h1,h2⟩=>⟨x,.inl h1,h2⟩) fun h=>⟨_,.inr rfl,h⟩,fun ⟨x,h1,h2⟩=>h1.elim (fun h1=>.inl ⟨x,h1,h2⟩) fun h1=>.inr (h1▸h2)⟩
   ·rw [← HT0.out,hsn]
    simp only [List.mem_append,List.mem_singleton]
    exact ⟨fun h=>h.elim (fun h=>h.elim .inl fun ⟨x,h1,h2⟩=>.inr ⟨x,.inl h1,h2⟩) fun h=>.inr ⟨_,.inr rfl,h⟩,fun h=>h.elim (fun h=>.inl (.inl h)) fun ⟨x,h1,h2⟩=>h1.elim (fun h1=>.inl (.inr ⟨x,h1,h2⟩)) fun h1=>.inr (h1▸h2)⟩
  ·have hjl:j=subs.length:=by omega
   subst hjl
   rw [List.take_length] at HQB HAR
   go_wp2_with (first | (refine wpList_load_set HO3.out rfl _ rfl rfl ?_) | (refine wpList_store_set HO3.out rfl _ _ rfl rfl rfl ?_;intro w6 o6 b6;have O6:=hid o6;have H6:=hid (XE.At.fresh HA.out HAR.out b6 (by omega));have HR6:=hid (XE.R.fresh HA.out HRW.out b6 (by omega));clear o6 b6))
   refine bodyPost_ret (ret_set rfl _ O6.out rfl) rfl ?_
   rw [← HQ.out]
   refine ⟨q,rfl,HQ49.out,HQB.out.iff fun k=>?_,H6.out.iff fun t=>or_congr Iff.rfl ?_,HR6.out⟩
   ·constructor
    ·rintro ⟨x,hx,i,h1,h2⟩
     exact ⟨i,h1,.alt hx h2⟩
    ·rintro ⟨i,h1,h2⟩
     cases h2 with
     | alt hx h2=>exact ⟨_,hx,i,h1,h2⟩
     | other h2=>omega
   ·constructor
    ·rintro ⟨x,hx,i,t',h1,h2,h3⟩
     exact ⟨i,t',h1,.alt hx h2,h3⟩
    ·rintro ⟨i,t',h1,h2,h3⟩
     cases h2 with
     | alt hx h2=>exact ⟨_,hx,i,t',h1,h2,h3⟩
     | loop h2=>omega
     | again h2=>omega
end Go.Proofs.YtppjmdanckdobaaGreatDoor

/- node of expects: one behind the other. Printed by genxnode.py. -/
namespace Go.Proofs.YtppjmdanckdobaaGreatDoor
open Go.RowKit
open Lib (hid)
set_option maxHeartbeats 8000000 in
set_option maxRecDepth 40000 in
theorem xn_seq (E:XE) (hB:E.B.Lng) (nm tx:ByteArray) (set:List (Int × Int)) (subs:List Nd) (hno:∀ s∈subs,NodeX E s) (m:Nat) (hm0:m≠0) (hdt:E.B.dv (.mk 1 nm tx set subs)=true) (S:Int→Prop) (W:World) (v0 v1 v2 v3 v4:Value) (hm:m < 2 ^ 49) (hml:∀ i,m.testBit i=true→i≤E.wl.length) (hA:E.At S W) (hN:NodeAt W E.lim (some v0) (some v1) (some v2) (some v3) (some v4) (.mk 1 nm tx set subs))
  (hV:∀ i r a,m.testBit i=true→Vis E.B E.wl (.mk 1 nm tx set subs) i r a→AskX E r a) :
  Calls Tryz.prog 39 #[E.ptr,.agg #[v0,v1,v2,v3,v4],setV m] W (XRes E (From m (Der E.B E.wl (.mk 1 nm tx set subs))) S (NxF E.B E.wl m (.mk 1 nm tx set subs)) W):=by
 have HND:=hid hN
 rw [NodeAt] at hN
 obtain ⟨hk,h1,h2,h3,h4,h5,⟨sa,sc,h6,h6',h7⟩,na,nc,h8,h8',h9⟩:=hN
 obtain rfl:=Option.some.inj h3
 obtain rfl:=Option.some.inj h4
 obtain rfl:=Option.some.inj h5
 obtain rfl:=Option.some.inj h6
 obtain rfl:=Option.some.inj h8
 clear h3 h4 h5 h6 h8 h7
 unfold reachN at h1 h2 h6' h8'
 obtain ⟨b,hb⟩:∃ b,W.heap.size=b:=⟨_,rfl⟩
 obtain ⟨w1,hw1⟩:∃ w1,W.alloc (.cells #[.int .u8 1,.string nm,.string tx,.slice sa set.length sc,.slice na subs.length nc] 80)=w1:=⟨_,rfl⟩
 have g1:Grew W w1:=hw1▸grew_alloc W _
 have o1:Owns w1 b [.int .u8 1,.string nm,.string tx,.slice sa set.length sc,.slice na subs.length nc] 80:=by rw [← hw1,← hb];exact Owns.alloc W _ _
 have z1:w1.heap.size=b+1:=by rw [← hw1,← hb];exact World.size_alloc _ _
 obtain ⟨w2,hw2⟩:∃ w2,w1.alloc (.cells (setL m).toArray 66)=w2:=⟨_,rfl⟩
 have g2:Grew w1 w2:=hw2▸grew_alloc w1 _
 have o2:Owns w2 (b+1) (setL m) 66:=by rw [← hw2,← z1];exact Owns.alloc w1 _ _
 have z2:w2.heap.size=b+1+1:=by rw [← hw2,← z1];exact World.size_alloc _ _
 obtain ⟨w3,hw3⟩:∃ w3,w2.alloc (.cells #[.bool false,.bool false,.bool false,.bool false,.bool false,.bool false,.bool false,.bool false,.bool false,.bool false,.bool false,.bool false,.bool false,.bool false,.bool false,.bool false,.bool false,.bool false,.bool false,.bool false,.bool false,.bool false,.bool false,.bool false,.bool false,.bool false,.bool false,.bool false,.bool false,.bool false,.bool false,.bool false,.bool false,.bool false,.bool false,.bool false,.bool false,.bool false,.bool false,.bool false,.bool false,.bool false,.bool false,.bool false,.bool false,.bool false,.bool false,.bool false,.bool false] 66)=w3:=⟨_,rfl⟩
 have g3:Grew w2 w3:=hw3▸grew_alloc w2 _
 have o3:Owns w3 (b+1+1) (setL 0) 66:=by rw [← hw3,← z2];exact zset_owns w2
 have hA3:=hA.grew ((g1.trans g2).trans g3)
 have O1:=hid ((o1.keep g2).keep g3)
 have O2:=hid (o2.keep g3)
 have O3:=hid o3
 have HA:=hid hA
 have A3:=hid hA3
 have G3:=hid ((g1.trans g2).trans g3)
 have HB:=hid hb
 have HLT:=hid hA.lts
 have HML:=hid hml
 have HMM:=hid hm
 have HV:=hid hV
 have H90:=hid h9
 have H9:Hid (NodesAt w3 E.lim na 0 subs):=hid (h9.keep (((g1.trans g2).trans g3).mono hA.tab.low))
 have HLNG:=hid hB
 have hne:∀ f,b≤f→f≠E.kb∧f≠E.nb∧f≠E.kw∧¬ (f=E.kb∨f=E.nb):=fun f h=>by have:=hA.lts;omega
 have HNE:=hid hne
 have HDV:Hid (∀ w,Grew w3 w→Calls Tryz.prog 61 #[.pointer (some ⟨E.tb,0,none⟩),.agg #[.int .u8 1,.string nm,.string tx,.slice sa set.length sc,.slice na subs.length nc]] w fun e W'=>e=.returned (.bool (E.B.dv (.mk 1 nm tx set subs)))∧Grew w W'):=hid fun w hw=>xderives_ok E _ w _ _ _ _ _ (A3.out.grew hw).tab ((HND.out.keep ((G3.out.trans hw).mono HA.out.tab.low)).mono (Nat.le_trans HA.out.tab.low (G3.out.trans hw).size))
 obtain ⟨Q,hQ⟩:∃ Q,XRes E (From m (Der E.B E.wl (.mk 1 nm tx set subs))) S (NxF E.B E.wl m (.mk 1 nm tx set subs)) W=Q:=⟨_,rfl⟩
 rw [hQ]
 have HQ:=hid hQ
 have n0:=O1.out.cell_at (i:=0) rfl
 have n1:=O1.out.cell_at (i:=1) rfl
 have n2:=O1.out.cell_at (i:=2) rfl
 have n3:=O1.out.cell_at (i:=3) rfl
 have n4:=O1.out.cell_at (i:=4) rfl
 have nl:=O1.out.lt
 have k0:=A3.out.box.cell_at (i:=0) rfl
 have kl:=A3.out.box.lt
 clear hA hA3 hV o1 o2 o3 g1 g2 g3 hQ h9 hml hB hne
 subst hb
 have HNO:=hid hno
 clear hno
 have HM0:=hid hm0
 have HDT:=hid hdt
 clear hm0 hdt
 unfold XE.ptr setV
 go_enter Tryz.func39,Tryz.ntmps39
 go_upto_region 1 with fail
 clear hw1 hw2 hw3 z1 z2
 refine wp_region_hav_lit follows (by kernel_rfl) ?_
 refine HavG.val (fun _=>rfl) (setV m) (fun x w hw _=>exec_load_set (O2.out.keep hw) rfl rfl) ?_
 simp only [Act.put,sia,scz,scs]
 refine HavG.val (fun _=>rfl) (setV 0) (fun x w hw _=>?_) ?_
 ·clear hw
  unfold setV
  rw [zset_cells]
  go_simp
 simp only [Act.put,sia,scz,scs]
 refine HavG.val (fun _=>rfl) (.bool false) (fun x w hw _=>by rw [exec_eql_set HMM.out (by decide) rfl rfl rfl,decide_eq_false HM0.out]) ?_
 simp only [Act.put,sia,scz,scs]
 iterate 8 ((first | refine HavG.skip (fun _=>rfl) ?_ | (refine HavG.val (fun _=>rfl) ?_ (fun x w hw _=>?_) ?_;rotate_left;(focus (have hc:=hw.cells;clear hw;go_simp;first | done | rfl))));simp only [Act.put,sia,scz,scs])
 refine HavG.det (fun _=>rfl) (.bool true) (fun x w hw hd=>?_) ?_
 ·clear hd
  have HW:=hid hw
  clear hw
  go_simp
  refine (HDV.out _ HW.out).mono ?_
  rintro e w' ⟨rfl,hg⟩
  exact ⟨by rw [HDT.out],hg⟩
 simp only [Act.put,sia,scz,scs]
 iterate 1 ((first | refine HavG.skip (fun _=>rfl) ?_ | (refine HavG.val (fun _=>rfl) ?_ (fun x w hw _=>?_) ?_;rotate_left;(focus (have hc:=hw.cells;clear hw;go_simp;first | done | rfl))));simp only [Act.put,sia,scz,scs])
 refine HavG.tail (by kernel_rfl) (by kernel_rfl) (fun x w hw _=>?_)
 have GW:=hid hw
 have AW:=hid (A3.out.grew hw)
 have O1W:=hid (O1.out.keep hw)
 have O2W:=hid (O2.out.keep hw)
 have O3W:=hid (O3.out.keep hw)
 have H9W:Hid (NodesAt w E.lim na 0 subs):=hid (H9.out.keep (hw.mono A3.out.tab.low))
 have RW:Hid (E.R W w):=hid (XE.R.grew (G3.out.trans hw))
 clear hw n0 n1 n2 n3 n4 nl k0 kl
 obtain ⟨w4,rfl⟩:∃ z,z=w:=⟨_,rfl⟩
 have n0:=O1W.out.cell_at (i:=0) rfl
 have n1:=O1W.out.cell_at (i:=1) rfl
 have n4:=O1W.out.cell_at (i:=4) rfl
 have nl:=O1W.out.lt
 go_wp2_with fail
 clear n0 n1 n4 nl
 go_loopw [78] (fun c wr=>∃ (j q:Nat),c=.int .i64 j∧j≤subs.length∧Hid (q < 2 ^ 49)∧Hid (Bits q fun k=>∃ i,m.testBit i=true∧DerL E.B E.wl (subs.take j) i k)∧Hid (Owns wr W.heap.size [.int .u8 1,.string nm,.string tx,.slice sa set.length sc,.slice na subs.length nc] 80)∧Hid (Owns wr (W.heap.size+1) (setL q) 66)∧Hid (Owns wr (W.heap.size+1+1) (setL 0) 66)∧Hid (E.At (fun t=>S t∨∃ (i t':Nat),m.testBit i=true∧NxL E.B E.wl (subs.take j) i t'∧t=(t':Int)) wr)∧Hid (E.R W wr)) (fun c _=>subs.length - (intOf c).toNat)
 case atStart=>exact ⟨0,m,rfl,by omega,HMM,hid ((Bits.self (Nat.lt_of_lt_of_le HMM.out (by decide))).iff fun k=>⟨fun h=>⟨k,h,.nil⟩,fun ⟨i,h,hd⟩=>by cases hd;exact h⟩),O1W,O2W,O3W,hid (AW.out.iff fun t=>⟨.inl,fun h=>h.elim id fun ⟨i,t',_,h,_⟩=>by cases h⟩),RW⟩
 case round =>
  obtain ⟨j,q,rfl,hj,HQ49,HQB,HO1,HO2,HO3,HAR,HRW⟩:=hrel
  have n0:=HO1.out.cell_at (i:=0) rfl
  have n1:=HO1.out.cell_at (i:=1) rfl
  have n4:=HO1.out.cell_at (i:=4) rfl
  have nl:=HO1.out.lt
  by_cases hlt:j < subs.length
  ·obtain ⟨b,off,rfl,hbl,hnode⟩:=(H90.out.keep (HRW.out.below HA.out)).get hlt
   simp only [Nat.zero_add] at hnode
   obtain ⟨y0,y1,y2,y3,y4,c0,c1,c2,c3,c4,hnode⟩:=hnode.vals
   obtain ⟨p0,p1,p2,p3,p4,p5,p6,p7,p8,rfl,rfl,rfl,rfl,rfl⟩:=hnode.forms
   have hbl2:b < wr.heap.size:=by have:=HAR.out.tab.low;omega
   have HNODE:=hid hnode
   have HLTJ:=hid hlt
   have hj2:(j:Int) < (subs.length:Int):=by omega
   obtain ⟨t,ht⟩:∃ t,wr.heap.size=t:=⟨_,rfl⟩
   obtain ⟨w5,hw5⟩:∃ w5,wr.alloc (.cells #[.int .u8 p0,.string p1,.string p2,.slice p3 p4 p5,.slice p6 p7 p8] 80)=w5:=⟨_,rfl⟩
   have g5:Grew wr w5:=hw5▸grew_alloc wr _
   have o5:Owns w5 t [.int .u8 p0,.string p1,.string p2,.slice p3 p4 p5,.slice p6 p7 p8] 80:=by rw [← hw5,← ht];exact Owns.alloc wr _ _
   have HT5:=hid (show W.heap.size+1+1 < t by have:=HO3.out.lt;omega)
   have O15:=hid (HO1.out.keep g5)
   have O25:=hid (HO2.out.keep g5)
   have O35:=hid (HO3.out.keep g5)
   have OT5:=hid o5
   have A5:=hid (HAR.out.grew g5)
   have R5:=hid (HRW.out.trans (XE.R.grew g5))
   have HN5:=hid (hnode.keep (g5.mono HAR.out.tab.low))
   clear g5 o5 hnode
   obtain ⟨T0,hT0⟩:∃ T0:Int→Prop,(fun t=>S t∨∃ (i t':Nat),m.testBit i=true∧NxL E.B E.wl (subs.take j) i t'∧t=(t':Int))=T0:=⟨_,rfl⟩
   have HT0:=hid hT0
   rw [hT0] at A5
   clear hT0
   go_upto_region 18 with fail
   clear hw5 ht n0 n1 n4 nl c0 c1 c2 c3 c4 hbl hbl2
   have HQL:Hid (∀ k,q.testBit k=true→k≤E.wl.length):=hid fun k hk=>by
    obtain ⟨i,h1,h2⟩:=(HQB.out.2 k).1 hk
    exact h2.le.2 (HML.out i h1)
   have HC:=hid (HNO.out _ (List.getElem_mem HLTJ.out) q T0 w5 _ _ _ _ _ HQ49.out HQL.out A5.out HN5.out (fun k r a h1 h2=>by
    obtain ⟨i,h3,h4⟩:=(HQB.out.2 k).1 h1
    refine HV.out i r a h3 (.seq ?_)
    rw [take_drop_at HLTJ.out]
    exact VisL.snoc h4 h2))
   unfold XE.ptr at HC
   have e0:=OT5.out.cell_at (i:=0) rfl
   have e1:=OT5.out.cell_at (i:=1) rfl
   have e2:=OT5.out.cell_at (i:=2) rfl
   have e3:=OT5.out.cell_at (i:=3) rfl
   have e4:=OT5.out.cell_at (i:=4) rfl
   have el:=OT5.out.lt
   go_wp2_with (refine wpList_load_set O25.out rfl _ rfl rfl ?_)
   refine HC.out.mono ?_
   rintro e w6 ⟨q2,rfl,q1,q2b,q3,q4⟩
   have O16:=hid (q4.owns O15.out (HNE.out _ (by omega)).2.2.2)
   have O26:=hid (q4.owns O25.out (HNE.out _ (by omega)).2.2.2)
   have O36:=hid (q4.owns O35.out (HNE.out _ (by omega)).2.2.2)
   have A6:=hid q3
   have R6:=hid (R5.out.trans q4)
   have HQ1':=hid q1
   have HQ2':=hid q2b
   clear q1 q2b q3 q4 e0 e1 e2 e3 e4 el HC
   go_wp2_with (refine wpList_store_set O26.out rfl _ _ rfl rfl rfl ?_;intro wc oc bc;have OC:=hid oc;have BC:=hid bc;clear oc bc;simp only [Act.put])
   have hsn:=take_snoc HLTJ.out
   refine ⟨⟨j+1,q2,by go_num,by omega,HQ1',hid (HQ2'.out.iff fun k=>?_),hid (BC.out.owns O16.out (by omega)),OC,hid (BC.out.owns O36.out (by omega)),hid ((XE.At.fresh HA.out A6.out BC.out (by omega)).iff fun t=>?_),hid (XE.R.fresh HA.out R6.out BC.out (by omega))⟩,by simp [intOf];omega⟩
   ·rw [hsn]
    constructor
    ·rintro ⟨k',h1,h2⟩
     obtain ⟨i,h3,h4⟩:=(HQB.out.2 k').1 h1
     exact ⟨i,h3,h4.snoc h2⟩
    ·rintro ⟨i,h1,h2⟩
     obtain ⟨k',h3,h4⟩:=h2.unsnoc
     exact ⟨k',(HQB.out.2 k').2 ⟨i,h1,h3⟩,h4⟩
   ·rw [← HT0.out,hsn]
    constructor
    ·rintro ((h | ⟨i,t',h1,h2,h3⟩) | ⟨k,t',h1,h2,h3⟩)
     ·exact .inl h
     ·exact .inr ⟨i,t',h1,h2.left,h3⟩
     ·obtain ⟨i,h4,h5⟩:=(HQB.out.2 k).1 h1
      exact .inr ⟨i,t',h4,NxL.snoc h5 h2,h3⟩
    ·rintro (h | ⟨i,t',h1,h2,h3⟩)
     ·exact .inl (.inl h)
     ·rcases h2.unsnoc with h4 | ⟨k,h4,h5⟩
      ·exact .inl (.inr ⟨i,t',h1,h4,h3⟩)
      ·exact .inr ⟨k,t',(HQB.out.2 k).2 ⟨i,h1,h4⟩,h5,h3⟩
  ·have hjl:j=subs.length:=by omega
   subst hjl
   rw [List.take_length] at HQB HAR
   go_wp2_with (first | (refine wpList_load_set HO2.out rfl _ rfl rfl ?_) | (refine wpList_store_set HO3.out rfl _ _ rfl rfl rfl ?_;intro w6 o6 b6;have O6:=hid o6;have H6:=hid (XE.At.fresh HA.out HAR.out b6 (by omega));have HR6:=hid (XE.R.fresh HA.out HRW.out b6 (by omega));clear o6 b6))
   refine bodyPost_ret (ret_set rfl _ O6.out rfl) rfl ?_
   rw [← HQ.out]
   refine ⟨q,rfl,HQ49.out,HQB.out.iff fun k=>?_,H6.out.iff fun t=>or_congr Iff.rfl ?_,HR6.out⟩
   ·constructor
    ·rintro ⟨i,h1,h2⟩
     exact ⟨i,h1,.seq h2⟩
    ·rintro ⟨i,h1,h2⟩
     cases h2 with
     | seq h2=>exact ⟨i,h1,h2⟩
     | other h2=>omega
   ·constructor
    ·rintro ⟨i,t',h1,h2,h3⟩
     exact ⟨i,t',h1,.seq HDT.out h2,h3⟩
    ·rintro ⟨i,t',h1,h2,h3⟩
     cases h2 with
     | seq _ h2=>exact ⟨i,t',h1,h2,h3⟩
     | loop h2=>omega
     | again h2=>omega
end Go.Proofs.YtppjmdanckdobaaGreatDoor
