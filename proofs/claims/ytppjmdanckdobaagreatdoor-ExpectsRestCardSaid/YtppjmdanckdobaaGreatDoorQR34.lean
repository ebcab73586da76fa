/- node of expects: a rule. Printed by genxnode.py. -/
import Derived.Deep.LoopGhost
import Derived.Test.YtppjmdanckdobaaGreatDoorQR31
import Derived.Test.YtppjmdanckdobaaGreatDoorQR32
import Derived.Test.YtppjmdanckdobaaGreatDoorQR33
namespace Go.Proofs.YtppjmdanckdobaaGreatDoor
open Go.RowKit
open Lib (hid)
set_option maxHeartbeats 8000000 in
set_option maxRecDepth 40000 in
theorem xn_ref (E:XE) (hB:E.B.Lng) (nm tx:ByteArray) (set:List (Int × Int)) (subs:List Nd) (m:Nat) (hm0:m≠0) (hdt:E.B.dv (.mk 5 nm tx set subs)=true) (S:Int→Prop) (W:World) (v0 v1 v2 v3 v4:Value) (hm:m < 2 ^ 49) (hml:∀ i,m.testBit i=true→i≤E.wl.length) (hA:E.At S W) (hN:NodeAt W E.lim (some v0) (some v1) (some v2) (some v3) (some v4) (.mk 5 nm tx set subs))
  (hV:∀ i r a,m.testBit i=true→Vis E.B E.wl (.mk 5 nm tx set subs) i r a→AskX E r a) :
  Calls Tryz.prog 39 #[E.ptr,.agg #[v0,v1,v2,v3,v4],setV m] W (XRes E (From m (Der E.B E.wl (.mk 5 nm tx set subs))) S (NxF E.B E.wl m (.mk 5 nm tx set subs)) W):=by
 have HND:=hid hN
 rw [NodeAt] at hN
 obtain ⟨hk,h1,h2,h3,h4,h5,⟨sa,sc,h6,h6',h7⟩,na,nc,h8,h8',h9⟩:=hN
 obtain rfl:=Option.some.inj h3
 obtain rfl:=Option.some.inj h4
 obtain rfl:=Option.some.inj h5
 obtain rfl:=Option.some.inj h6
 obtain rfl:=Option.some.inj h8
 clear h3 h4 h5 h6 h8 h7
 unfold reachN at h1 h2 h6' h8'
 obtain ⟨b,hb⟩:∃ b,W.heap.size=b:=⟨_,rfl⟩
 obtain ⟨w1,hw1⟩:∃ w1,W.alloc (.cells #[.int .u8 5,.string nm,.string tx,.slice sa set.length sc,.slice na subs.length nc] 80)=w1:=⟨_,rfl⟩
 have g1:Grew W w1:=hw1▸grew_alloc W _
 have o1:Owns w1 b [.int .u8 5,.string nm,.string tx,.slice sa set.length sc,.slice na subs.length nc] 80:=by rw [← hw1,← hb];exact Owns.alloc W _ _
 have z1:w1.heap.size=b+1:=by rw [← hw1,← hb];exact World.size_alloc _ _
 obtain ⟨w2,hw2⟩:∃ w2,w1.alloc (.cells (setL m).toArray 66)=w2:=⟨_,rfl⟩
 have g2:Grew w1 w2:=hw2▸grew_alloc w1 _
 have o2:Owns w2 (b+1) (setL m) 66:=by rw [← hw2,← z1];exact Owns.alloc w1 _ _
 have z2:w2.heap.size=b+1+1:=by rw [← hw2,← z1];exact World.size_alloc _ _
 obtain ⟨w3,hw3⟩:∃ w3,w2.alloc (.cells #[.bool false,.bool false,.bool false,.bool false,.bool false,.bool false,.bool false,.bool false,.bool false,.bool false,.bool false,.bool false,.bool false,.bool false,.bool false,.bool false,.bool false,.bool false,.bool false,.bool false,.bool false,.bool false,.bool false,.bool false,.bool false,.bool false,.bool false,.bool false,.bool false,.bool false,.bool false,.bool false,.bool false,.bool false,.bool false,.bool false,.bool false,.bool false,.bool false,.bool false,.bool false,.bool false,.bool false,.bool false,.bool false,.bool false,.bool false,.bool false,.bool false] 66)=w3:=⟨_,rfl⟩
 have g3:Grew w2 w3:=hw3▸grew_alloc w2 _
 have o3:Owns w3 (b+1+1) (setL 0) 66:=by rw [← hw3,← z2];exact zset_owns w2
 have hA3:=hA.grew ((g1.trans g2).trans g3)
 have O1:=hid ((o1.keep g2).keep g3)
 have O2:=hid (o2.keep g3)
 have O3:=hid o3
 have HA:=hid hA
 have A3:=hid hA3
 have G3:=hid ((g1.trans g2).trans g3)
 have HB:=hid hb
 have HLT:=hid hA.lts
 have HML:=hid hml
 have HMM:=hid hm
 have HV:=hid hV
 have H90:=hid h9
 have H9:Hid (NodesAt w3 E.lim na 0 subs):=hid (h9.keep (((g1.trans g2).trans g3).mono hA.tab.low))
 have HLNG:=hid hB
 have hne:∀ f,b≤f→f≠E.kb∧f≠E.nb∧f≠E.kw∧¬ (f=E.kb∨f=E.nb):=fun f h=>by have:=hA.lts;omega
 have HNE:=hid hne
 have HDV:Hid (∀ w,Grew w3 w→Calls Tryz.prog 61 #[.pointer (some ⟨E.tb,0,none⟩),.agg #[.int .u8 5,.string nm,.string tx,.slice sa set.length sc,.slice na subs.length nc]] w fun e W'=>e=.returned (.bool (E.B.dv (.mk 5 nm tx set subs)))∧Grew w W'):=hid fun w hw=>xderives_ok E _ w _ _ _ _ _ (A3.out.grew hw).tab ((HND.out.keep ((G3.out.trans hw).mono HA.out.tab.low)).mono (Nat.le_trans HA.out.tab.low (G3.out.trans hw).size))
 obtain ⟨Q,hQ⟩:∃ Q,XRes E (From m (Der E.B E.wl (.mk 5 nm tx set subs))) S (NxF E.B E.wl m (.mk 5 nm tx set subs)) W=Q:=⟨_,rfl⟩
 rw [hQ]
 have HQ:=hid hQ
 have n0:=O1.out.cell_at (i:=0) rfl
 have n1:=O1.out.cell_at (i:=1) rfl
 have n2:=O1.out.cell_at (i:=2) rfl
 have n3:=O1.out.cell_at (i:=3) rfl
 have n4:=O1.out.cell_at (i:=4) rfl
 have nl:=O1.out.lt
 have k0:=A3.out.box.cell_at (i:=0) rfl
 have kl:=A3.out.box.lt
 clear hA hA3 hV o1 o2 o3 g1 g2 g3 hQ h9 hml hB hne
 subst hb
 have HM0:=hid hm0
 have HDT:=hid hdt
 clear hm0 hdt
 have HRN:Hid (∀ w,E.R W w→(Instr.lookup 26 (.map (some E.nm)) (.string nm) false).run Tryz.prog w=.ok (.int .i64 (E.B.rule nm:Int)) w):=hid fun w hw=>run_name (by rw [(hw.below HA.out).block _ HA.out.tab.nlo.1];exact HA.out.tab.names) nm
 obtain ⟨r,hr⟩:∃ r,E.B.rule nm=r:=⟨_,rfl⟩
 have HRR:=hid hr
 rw [hr] at HRN
 clear hr
 unfold XE.ptr setV
 go_enter Tryz.func39,Tryz.ntmps39
 go_upto_region 1 with fail
 clear hw1 hw2 hw3 z1 z2
 refine wp_region_hav_lit follows (by kernel_rfl) ?_
 refine HavG.val (fun _=>rfl) (setV m) (fun x w hw _=>exec_load_set (O2.out.keep hw) rfl rfl) ?_
 simp only [Act.put,sia,scz,scs]
 refine HavG.val (fun _=>rfl) (setV 0) (fun x w hw _=>?_) ?_
 ·clear hw
  unfold setV
  rw [zset_cells]
  go_simp
 simp only [Act.put,sia,scz,scs]
 refine HavG.val (fun _=>rfl) (.bool false) (fun x w hw _=>by rw [exec_eql_set HMM.out (by decide) rfl rfl rfl,decide_eq_false HM0.out]) ?_
 simp only [Act.put,sia,scz,scs]
 iterate 8 ((first | refine HavG.skip (fun _=>rfl) ?_ | (refine HavG.val (fun _=>rfl) ?_ (fun x w hw _=>?_) ?_;rotate_left;(focus (have hc:=hw.cells;clear hw;go_simp;first | done | rfl))));simp only [Act.put,sia,scz,scs])
 refine HavG.det (fun _=>rfl) (.bool true) (fun x w hw hd=>?_) ?_
 ·clear hd
  have HW:=hid hw
  clear hw
  go_simp
  refine (HDV.out _ HW.out).mono ?_
  rintro e w' ⟨rfl,hg⟩
  exact ⟨by rw [HDT.out],hg⟩
 simp only [Act.put,sia,scz,scs]
 iterate 1 ((first | refine HavG.skip (fun _=>rfl) ?_ | (refine HavG.val (fun _=>rfl) ?_ (fun x w hw _=>?_) ?_;rotate_left;(focus (have hc:=hw.cells;clear hw;go_simp;first | done | rfl))));simp only [Act.put,sia,scz,scs])
 refine HavG.tail (by kernel_rfl) (by kernel_rfl) (fun x w hw _=>?_)
 have GW:=hid hw
 have AW:=hid (A3.out.grew hw)
 have O1W:=hid (O1.out.keep hw)
 have O2W:=hid (O2.out.keep hw)
 have O3W:=hid (O3.out.keep hw)
 have H9W:Hid (NodesAt w E.lim na 0 subs):=hid (H9.out.keep (hw.mono A3.out.tab.low))
 have RW:Hid (E.R W w):=hid (XE.R.grew (G3.out.trans hw))
 clear hw n0 n1 n2 n3 n4 nl k0 kl
 obtain ⟨w4,rfl⟩:∃ z,z=w:=⟨_,rfl⟩
 have n0:=O1W.out.cell_at (i:=0) rfl
 have n1:=O1W.out.cell_at (i:=1) rfl
 have n4:=O1W.out.cell_at (i:=4) rfl
 have nl:=O1W.out.lt
 go_upto_region 7 with fail
 clear n0 n1 n4 nl
 go_wp2_with (refine wpList_load_set O2W.out rfl _ rfl rfl ?_)
 go_loopw [49] (fun c wr=>∃ (j q:Nat),c=.int .i64 j∧j≤49∧Hid (q < 2 ^ 49)∧Hid (Bits q fun k=>∃ a,a < j∧m.testBit a=true∧XBody E r a k)∧Hid (Owns wr W.heap.size [.int .u8 5,.string nm,.string tx,.slice sa set.length sc,.slice na subs.length nc] 80)∧Hid (Owns wr (W.heap.size+1+1) (setL q) 66)∧Hid (E.At (fun t=>S t∨∃ a,a < j∧m.testBit a=true∧XNxt E r a t) wr)∧Hid (E.R W wr)) (fun c _=>49 - (intOf c).toNat)
 case atStart=>exact ⟨0,0,rfl,by omega,hid (by decide),hid (Bits.zero.iff fun k=>⟨False.elim,fun ⟨a,h,_⟩=>absurd h (by omega)⟩),O1W,O3W,hid (AW.out.iff fun t=>⟨.inl,fun h=>h.elim id fun ⟨a,h,_⟩=>absurd h (by omega)⟩),RW⟩
 case round =>
  obtain ⟨j,q,rfl,hj,HQ49,HQB,HO1,HO3,HAR,HRW⟩:=hrel
  by_cases hlt:j < 49
  ·have hj2:(j:Int) < 49:=by omega
   obtain ⟨x,hx⟩:∃ x,m.testBit j=x:=⟨_,rfl⟩
   have hidx:(Instr.index 66 (setV m) (.int .i64 (j:Int))).run Tryz.prog wr=.ok (.bool x) wr:=index_set hlt (by rw [← hx];simpa using setL_get m hlt) wr
   have HX:=hid hx
   clear hx
   cases x
   ·go_wp2_with fail
    refine ⟨⟨j+1,q,by go_num,by omega,HQ49,hid (HQB.out.iff fun k=>⟨fun ⟨a,h1,h2⟩=>⟨a,by omega,h2⟩,fun ⟨a,h1,h2,h3⟩=>⟨a,?_,h2,h3⟩⟩),HO1,HO3,hid (HAR.out.iff fun t=>or_congr Iff.rfl ⟨fun ⟨a,h1,h2⟩=>⟨a,by omega,h2⟩,fun ⟨a,h1,h2,h3⟩=>⟨a,?_,h2,h3⟩⟩),HRW⟩,by simp [intOf];omega⟩
    all_goals
     rcases Nat.lt_or_ge a j with h4 | h4
     ·exact h4
     ·have:a=j:=by omega
      subst this
      rw [HX.out] at h2
      cases h2
   ·go_upto_region 11 with fail
    clear hidx
    have HASK:=hid (HV.out j r j HX.out (by rw [← HRR.out];exact .ref))
    have HFAC:Hid (∀ w,E.R wr w→w.cell? ⟨E.kw,0,none⟩=some (.pointer (some ⟨E.tb,0,none⟩))∧E.kw < w.heap.size∧w.cell? ⟨E.tb,1,none⟩=some (.map (some E.nm))∧E.tb < w.heap.size∧w.cell? ⟨W.heap.size,1,none⟩=some (.string nm)∧W.heap.size < w.heap.size∧(Instr.lookup 26 (.map (some E.nm)) (.string nm) false).run Tryz.prog w=.ok (.int .i64 (r:Int)) w):=hid fun w hw=>by
     have hb:=hw.below HAR.out
     have h1:=hw.owns HAR.out.box (fun e=>e.elim HAR.out.kne.1 HAR.out.kne.2)
     have h2:=below_owns hb HAR.out.tab.box HAR.out.tab.tbl
     have h3:=hw.owns HO1.out (HNE.out _ (Nat.le_refl _)).2.2.2
     exact ⟨h1.cell_at (i:=0) rfl,h1.lt,h2.cell_at (i:=1) rfl,h2.lt,h3.cell_at (i:=1) rfl,h3.lt,HRN.out w (HRW.out.trans hw)⟩
    obtain ⟨T0,hT0⟩:∃ T0:Int→Prop,(fun t=>S t∨∃ a,a < j∧m.testBit a=true∧XNxt E r a t)=T0:=⟨_,rfl⟩
    have HT0:=hid hT0
    rw [hT0] at HAR
    clear hT0
    refine wp_region_hav_litX (G:=E.G T0 (fun t=>T0 t∨XNxt E r j t)) (E.grel _ _) follows (by kernel_rfl) ?_
    refine HavX.val (E.grel _ _) (fun _=>rfl) (setV q) (fun x w hw _=>exec_load_set (hw.1.owns HO3.out (HNE.out _ (by omega)).2.2.2) rfl rfl) ?_
    simp only [Act.put,sia,scz,scs]
    iterate 14 ((first | refine HavX.skip (fun _=>rfl) ?_ | (refine HavX.val (E.grel _ _) (fun _=>rfl) ?_ (fun x w hw _=>?_) ?_;rotate_left;(focus (obtain ⟨y0,y1,y2,y3,y4,y5,y6⟩:=HFAC.out w hw.1;clear hw;go_simp;first | done | rfl))));simp only [Act.put,sia,scz,scs])
    refine HavX.any (fun _=>rfl) (fun _=>NoteR E (fun t=>T0 t∨XNxt E r j t) (XBody E r j)) (fun _ _ _ _ _ h=>h) (fun _ _ _ _ hg h=>h.keep hg) (fun x9 w hw hd=>?_) ?_
    ·obtain ⟨T,hT,hTN⟩:=XE.G.call HAR.out hw
     have HC:=hid (HASK.out T w hT)
     have HTN:=hid hTN
     unfold XE.ptr at HC
     clear hd hw hT hTN
     go_simp
     refine HC.out.mono ?_
     rintro e w' ⟨q,rfl,h1,h2,h3,h4⟩
     have h5:E.At (fun t=>T0 t∨XNxt E r j t) w':=h3.iff HTN.out
     exact ⟨XE.G.done h4 h5,q,rfl,h1,h2,h5⟩
    simp only [Act.put,sia,scz,scs]
    refine HavX.any (fun _=>rfl) (fun _ v w=>∃ q2,v=setV (q ||| q2)∧q2 < 2 ^ 49∧Bits q2 (XBody E r j)∧E.At (fun t=>T0 t∨XNxt E r j t) w) (fun _ _ _ _ _ h=>h) (fun _ _ _ _ hg ⟨q,h1,h2,h3,h4⟩=>⟨q,h1,h2,h3,hg.2.2 h4⟩) (fun x9 w hw hd=>?_) ?_
    ·obtain ⟨q2,hx,hq1,hq2,hq3⟩:=hd _ (List.mem_append_right _ (List.mem_singleton.2 rfl)) (by kernel_rfl)
     dsimp only at hx
     have HQ1':=hid hq1
     have HQ2':=hid hq2
     have HQ3':=hid hq3
     have HWI:=hid (xwith_ok q q2 hq1 w)
     clear hd hw hq1 hq2 hq3
     simp only [hx]
     go_simp
     refine HWI.out.mono ?_
     rintro e w' ⟨rfl,hg⟩
     exact ⟨XE.G.grew hg,q2,rfl,HQ1'.out,HQ2'.out,HQ3'.out.grew hg⟩
    simp only [Act.put,sia,scz,scs]
    refine HavX.tail (by kernel_rfl) (by kernel_rfl) (fun x9 w hw hd=>?_)
    obtain ⟨q2,hx,hq1,hq2,hq3⟩:=hd _ (List.mem_append_right _ (List.mem_singleton.2 rfl))
    dsimp only at hx
    have HQ1':=hid hq1
    have HQ2':=hid hq2
    have AB:=hid hq3
    have O1B:=hid (hw.1.owns HO1.out (HNE.out _ (Nat.le_refl _)).2.2.2)
    have O3B:=hid (hw.1.owns HO3.out (HNE.out _ (by omega)).2.2.2)
    have RB:=hid (HRW.out.trans hw.1)
    clear hd hw hq1 hq2 hq3
    simp only [hx]
    clear hx
    go_wp2_with (refine wpList_store_set O3B.out rfl _ _ rfl rfl rfl ?_;intro wc oc bc;have OC:=hid oc;have BC:=hid bc;clear oc bc;simp only [Act.put])
    refine ⟨⟨j+1,q ||| q2,by go_num,by omega,hid (Nat.or_lt_two_pow HQ49.out HQ1'.out),hid ((HQB.out.or HQ2'.out).iff fun k=>?_),hid (BC.out.owns O1B.out (by omega)),OC,hid ((XE.At.fresh HA.out AB.out BC.out (by omega)).iff fun t=>?_),hid (XE.R.fresh HA.out RB.out BC.out (by omega))⟩,by simp [intOf];omega⟩
    ·constructor
     ·rintro (⟨a,h1,h2⟩ | h)
      ·exact ⟨a,by omega,h2⟩
      ·exact ⟨j,by omega,HX.out,h⟩
     ·rintro ⟨a,h1,h2,h3⟩
      by_cases e:a=j
      ·subst e
       exact .inr h3
      ·exact .inl ⟨a,by omega,h2,h3⟩
    ·rw [← HT0.out]
     constructor
     ·rintro ((h | ⟨a,h1,h2⟩) | h)
      ·exact .inl h
      ·exact .inr ⟨a,by omega,h2⟩
      ·exact .inr ⟨j,by omega,HX.out,h⟩
     ·rintro (h | ⟨a,h1,h2,h3⟩)
      ·exact .inl (.inl h)
      ·by_cases e:a=j
       ·subst e
        exact .inr h3
       ·exact .inl (.inr ⟨a,by omega,h2,h3⟩)
  ·have hjl:j=49:=by omega
   subst hjl
   have hfew:=HAR.out.few
   go_wp2_with (first | (refine wpList_load_set HO3.out rfl _ rfl rfl ?_) | (refine wpList_store_set HO3.out rfl _ _ rfl rfl rfl ?_;intro w6 o6 b6;have O6:=hid o6;have H6:=hid (XE.At.fresh HA.out HAR.out b6 (by omega));have HR6:=hid (XE.R.fresh HA.out HRW.out b6 (by omega));clear o6 b6))
   refine bodyPost_ret (ret_set rfl _ O6.out rfl) rfl ?_
   rw [← HQ.out]
   refine ⟨q,rfl,HQ49.out,HQB.out.iff fun k=>?_,H6.out.iff fun t=>or_congr Iff.rfl ?_,HR6.out⟩
   ·constructor
    ·rintro ⟨a,-,h1,n,h2,h3⟩
     exact ⟨a,h1,.ref (by rw [HRR.out];exact h2) h3⟩
    ·rintro ⟨a,h1,h2⟩
     have:=HML.out a h1
     cases h2 with
     | ref h3 h4 =>
      rw [HRR.out] at h3
      exact ⟨a,by omega,h1,_,h3,h4⟩
     | other h2=>omega
   ·constructor
    ·rintro ⟨a,-,h1,n,t',h2,h3,h4⟩
     exact ⟨a,t',h1,.ref HDT.out (by rw [HRR.out];exact h2) h3,h4⟩
    ·rintro ⟨a,t',h1,h2,h3⟩
     have:=HML.out a h1
     cases h2 with
     | ref _ h4 h5 =>
      rw [HRR.out] at h4
      exact ⟨a,by omega,h1,_,t',h4,h5,h3⟩
     | loop h2=>omega
     | again h2=>omega
end Go.Proofs.YtppjmdanckdobaaGreatDoor

/- again of expects: where one or more of a node may end. -/
namespace Go.Proofs.YtppjmdanckdobaaGreatDoor
open Go.RowKit
open Lib (hid)
theorem nxp_end {E:XE} {n:Nd} {m o:Nat} (h:AgI E.se n m o o) (t:Int):(NxF E.B E.wl m n t∨NxF E.B E.wl o n t)↔NxP E.B E.wl m n t:=by
 have hd:=h.done
 constructor
 ·rintro (⟨i,t',h1,h2,rfl⟩ | ⟨i,t',h1,h2,rfl⟩)
  ·exact ⟨i,t',h1,.inl h2,rfl⟩
  ·obtain ⟨k,h3,h4⟩:=(hd.2 i).1 h1
   exact ⟨k,t',h3,.inr ⟨i,h4,h2⟩,rfl⟩
 ·rintro ⟨i,t',h1,h2 | ⟨k,h3,h4⟩,rfl⟩
  ·exact .inl ⟨i,t',h1,h2,rfl⟩
  ·exact .inr ⟨k,t',(hd.2 k).2 ⟨i,h1,h3⟩,h4,rfl⟩
theorem nxf_mono {B:Bk} {wl:List Int} {o q:Nat} {n:Nd} (h:∀ j,o.testBit j=true→q.testBit j=true) {t:Int}:NxF B wl o n t→NxF B wl q n t:=fun ⟨i,t',h1,h2,h3⟩=>⟨i,t',h _ h1,h2,h3⟩
set_option maxHeartbeats 8000000 in
set_option maxRecDepth 40000 in
theorem xagain_ok (E:XE) (n:Nd) (hn:NodeX E n):AgX E n:=by
 intro m S W v0 v1 v2 v3 v4 hm hml hA hN hV
 have HND:=hid hN
 obtain ⟨p0,p1,p2,p3,p4,p5,p6,p7,p8,rfl,rfl,rfl,rfl,rfl⟩:=hN.forms
 clear hN
 obtain ⟨b,hb⟩:∃ b,W.heap.size=b:=⟨_,rfl⟩
 obtain ⟨w1,hw1⟩:∃ w1,W.alloc (.cells #[.int .u8 p0,.string p1,.string p2,.slice p3 p4 p5,.slice p6 p7 p8] 80)=w1:=⟨_,rfl⟩
 have g1:Grew W w1:=hw1▸grew_alloc W _
 have o1:Owns w1 b [.int .u8 p0,.string p1,.string p2,.slice p3 p4 p5,.slice p6 p7 p8] 80:=by rw [← hw1,← hb];exact Owns.alloc W _ _
 have z1:w1.heap.size=b+1:=by rw [← hw1,← hb];exact World.size_alloc _ _
 obtain ⟨w2,hw2⟩:∃ w2,w1.alloc (.cells (setL m).toArray 66)=w2:=⟨_,rfl⟩
 have g2:Grew w1 w2:=hw2▸grew_alloc w1 _
 have o2:Owns w2 (b+1) (setL m) 66:=by rw [← hw2,← z1];exact Owns.alloc w1 _ _
 have z2:w2.heap.size=b+1+1:=by rw [← hw2,← z1];exact World.size_alloc _ _
 obtain ⟨w3,hw3⟩:∃ w3,w2.alloc (.cells #[.bool false,.bool false,.bool false,.bool false,.bool false,.bool false,.bool false,.bool false,.bool false,.bool false,.bool false,.bool false,.bool false,.bool false,.bool false,.bool false,.bool false,.bool false,.bool false,.bool false,.bool false,.bool false,.bool false,.bool false,.bool false,.bool false,.bool false,.bool false,.bool false,.bool false,.bool false,.bool false,.bool false,.bool false,.bool false,.bool false,.bool false,.bool false,.bool false,.bool false,.bool false,.bool false,.bool false,.bool false,.bool false,.bool false,.bool false,.bool false,.bool false] 66)=w3:=⟨_,rfl⟩
 have g3:Grew w2 w3:=hw3▸grew_alloc w2 _
 have o3:Owns w3 (b+1+1) (setL 0) 66:=by rw [← hw3,← z2];exact zset_owns w2
 have z3:w3.heap.size=b+1+1+1:=by rw [← hw3,← z2];exact World.size_alloc _ _
 have hA3:=hA.grew ((g1.trans g2).trans g3)
 have O1:=hid ((o1.keep g2).keep g3)
 have O2:=hid (o2.keep g3)
 have O3:=hid o3
 have HA:=hid hA
 have A3:=hid hA3
 have G3:=hid ((g1.trans g2).trans g3)
 have HLT:=hid hA.lts
 have HML:=hid hml
 have HMM:=hid hm
 have HV:=hid hV
 have Z3:=hid z3
 have HNN:=hid hn
 have hne:∀ f,b≤f→f≠E.kb∧f≠E.nb∧f≠E.kw∧¬ (f=E.kb∨f=E.nb):=fun f h=>by have:=hA.lts;omega
 have HNE:=hid hne
 have hN3:NodeAt w3 E.lim (some (.int .u8 p0)) (some (.string p1)) (some (.string p2)) (some (.slice p3 p4 p5)) (some (.slice p6 p7 p8)) n:=HND.out.keep (((g1.trans g2).trans g3).mono hA.tab.low)
 have HC1:=hid (hn m S w3 _ _ _ _ _ hm hml hA3 hN3 (fun i r a h1 h2=>hV i r a h1 (.inl h2)))
 have HN3:=hid hN3
 obtain ⟨Q,hQ⟩:∃ Q,XRes E (From m (DerP E.B E.wl n)) S (NxP E.B E.wl m n) W=Q:=⟨_,rfl⟩
 rw [hQ]
 have HQ:=hid hQ
 unfold XE.ptr at HC1
 have n0:=O1.out.cell_at (i:=0) rfl
 have n1:=O1.out.cell_at (i:=1) rfl
 have n2:=O1.out.cell_at (i:=2) rfl
 have n3:=O1.out.cell_at (i:=3) rfl
 have n4:=O1.out.cell_at (i:=4) rfl
 have nl:=O1.out.lt
 clear hA hA3 hV o1 o2 o3 g1 g2 g3 hQ hml hne hn hN3
 subst hb
 unfold XE.ptr
 have hsv:setV m=.agg (setL m).toArray:=rfl
 rw [hsv]
 clear hsv
 go_enter Tryz.func64,Tryz.ntmps64
 go_upto_region 1 with fail
 clear hw1 hw2 hw3 z1 z2 z3
 go_wp2_with (refine wpList_load_set O2.out rfl _ rfl rfl ?_)
 refine HC1.out.mono ?_
 rintro e w4 ⟨q,rfl,q1,q2,q3,q4⟩
 obtain ⟨nb,hnb⟩:∃ nb,w4.heap.size=nb:=⟨_,rfl⟩
 obtain ⟨w5,hw5⟩:∃ w5,w4.alloc (.cells #[.bool false,.bool false,.bool false,.bool false,.bool false,.bool false,.bool false,.bool false,.bool false,.bool false,.bool false,.bool false,.bool false,.bool false,.bool false,.bool false,.bool false,.bool false,.bool false,.bool false,.bool false,.bool false,.bool false,.bool false,.bool false,.bool false,.bool false,.bool false,.bool false,.bool false,.bool false,.bool false,.bool false,.bool false,.bool false,.bool false,.bool false,.bool false,.bool false,.bool false,.bool false,.bool false,.bool false,.bool false,.bool false,.bool false,.bool false,.bool false,.bool false] 66)=w5:=⟨_,rfl⟩
 have g5:Grew w4 w5:=hw5▸grew_alloc w4 _
 have o5:Owns w5 nb (setL 0) 66:=by rw [← hw5,← hnb];exact zset_owns w4
 have hnbl:W.heap.size+1+1 < nb:=by have:=q4.size;have:=Z3.out;omega
 have HNB:=hid hnbl
 have O15:=hid ((q4.owns O1.out (HNE.out _ (by omega)).2.2.2).keep g5)
 have O35:=hid ((q4.owns O3.out (HNE.out _ (by omega)).2.2.2).keep g5)
 have A5:=hid (q3.grew g5)
 have R5:=hid ((XE.R.grew G3.out).trans (q4.trans (XE.R.grew g5)))
 have O5:=hid o5
 have HQ1:=hid q1
 have HQ2:=hid q2
 clear q1 q2 q3 q4 g5 o5 n0 n1 n2 n3 n4 nl HC1 hnbl
 go_wp2_with (refine wpList_store_set O5.out rfl _ _ rfl rfl rfl ?_;intro w6 o6 b6;have O6:=hid o6;have B6:=hid b6;clear o6 b6)
 have O16:=hid (B6.out.owns O15.out (by have:=HNB.out;omega))
 have O36:=hid (B6.out.owns O35.out (by have:=HNB.out;omega))
 have A6:=hid (XE.At.fresh HA.out A5.out B6.out (by have:=HNB.out;omega))
 have R6:=hid (XE.R.fresh HA.out R5.out B6.out (by have:=HNB.out;omega))
 have HI0:Hid (AgI E.se n m 0 q):=hid (AgI.start HQ2.out)
 have HTL:=hid HNB.out
 clear hw5 hnb O5 B6 O15 O35 A5 R5 HNB
 simp only [Act.put]
 go_loopg [7] (2 ^ 65) (fun gk x7 wr=>∃ (o now t:Nat),x7=.pointer (some ⟨t,0,none⟩)∧Hid (gk+o=2 ^ 65∧W.heap.size+1+1 < t∧E.R W wr∧Owns wr W.heap.size [.int .u8 p0,.string p1,.string p2,.slice p3 p4 p5,.slice p6 p7 p8] 80∧Owns wr (W.heap.size+1+1) (setL o) 66∧Owns wr t (setL now) 66∧o < 2 ^ 49∧now < 2 ^ 49∧AgI E.se n m o now∧E.At (fun t=>S t∨(NxF E.B E.wl m n t∨NxF E.B E.wl o n t)) wr))
 case atStart=>exact ⟨0,q,nb,rfl,hid ⟨rfl,HTL.out,R6.out,O16.out,O36.out,O6.out,by decide,HQ1.out,HI0.out,A6.out.iff fun t=>or_congr Iff.rfl ⟨.inl,fun h=>h.elim id fun ⟨i,t',h,_⟩=>by simp at h⟩⟩⟩
 case round =>
  obtain ⟨o,now,t,rfl,hst⟩:=hrel
  have hof:=hst.out.2.2.2.2.1
  have hoo:=hid hof
  have hon:=hid hst.out.2.2.2.2.2.1
  clear hof
  by_cases hno:now=o
  ·have hno':=hid hno
   clear hno
   go_wp2_with (first | (refine wpList_load_set hoo.out rfl _ rfl rfl ?_) | (refine wpList_load_set hon.out rfl _ rfl rfl ?_) | (refine wpList_run rfl (.bool false) (by rw [exec_neq_set hst.out.2.2.2.2.2.2.2.1 hst.out.2.2.2.2.2.2.1 rfl rfl rfl,decide_eq_true hno'.out];rfl) ?_) | (refine wpList_store_set hoo.out rfl _ _ rfl rfl rfl ?_;intro w9 o9 b9;have O9:=hid o9;have H9:=hid (XE.At.fresh HA.out hst.out.2.2.2.2.2.2.2.2.2 b9 (by omega));have HR9:=hid (XE.R.fresh HA.out hst.out.2.2.1 b9 (by omega));clear o9 b9))
   refine bodyPost_ret (ret_set rfl _ O9.out rfl) rfl ?_
   rw [← HQ.out]
   have hI:=hst.out.2.2.2.2.2.2.2.2.1
   rw [hno'.out] at hI
   exact ⟨o,rfl,hst.out.2.2.2.2.2.2.1,hI.done,H9.out.iff fun t=>or_congr Iff.rfl (nxp_end hI t),HR9.out⟩
  ·have hno':=hid hno
   clear hno
   go_upto_region 4 with (first | (refine wpList_load_set hoo.out rfl _ rfl rfl ?_) | (refine wpList_load_set hon.out rfl _ rfl rfl ?_) | (refine wpList_run rfl (.bool true) (by rw [exec_neq_set hst.out.2.2.2.2.2.2.2.1 hst.out.2.2.2.2.2.2.1 rfl rfl rfl,decide_eq_false hno'.out];rfl) ?_))
   simp only [Act.put,sia,scz,scs]
   apply wp_region_lit
   refine wpList_load_set hon.out rfl _ rfl rfl ?_
   simp only [Act.put,sia,scz,scs]
   refine wpList_store_set hoo.out rfl _ _ rfl rfl rfl ?_
   intro w7 o7 b7
   simp only [Act.put]
   have HTT:=hid hst.out.2.1
   have O17:=hid (b7.owns hst.out.2.2.2.1 (by omega))
   have O57:=hid (b7.owns hst.out.2.2.2.2.2.1 (by have:=HTT.out;omega))
   have O37:=hid o7
   have A7:=hid (XE.At.fresh HA.out hst.out.2.2.2.2.2.2.2.2.2 b7 (by omega))
   have R7:=hid (XE.R.fresh HA.out hst.out.2.2.1 b7 (by omega))
   have HI:=hid hst.out.2.2.2.2.2.2.2.2.1
   have HN49:=hid hst.out.2.2.2.2.2.2.2.1
   have HK:=hid hst.out.1
   clear o7 b7 hst hoo hon
   obtain ⟨t',ht'⟩:∃ t',w7.heap.size=t':=⟨_,rfl⟩
   obtain ⟨w8,hw8⟩:∃ w8,w7.alloc (.cells #[.bool false,.bool false,.bool false,.bool false,.bool false,.bool false,.bool false,.bool false,.bool false,.bool false,.bool false,.bool false,.bool false,.bool false,.bool false,.bool false,.bool false,.bool false,.bool false,.bool false,.bool false,.bool false,.bool false,.bool false,.bool false,.bool false,.bool false,.bool false,.bool false,.bool false,.bool false,.bool false,.bool false,.bool false,.bool false,.bool false,.bool false,.bool false,.bool false,.bool false,.bool false,.bool false,.bool false,.bool false,.bool false,.bool false,.bool false,.bool false,.bool false] 66)=w8:=⟨_,rfl⟩
   have g8:Grew w7 w8:=hw8▸grew_alloc w7 _
   have o8:Owns w8 t' (setL 0) 66:=by rw [← hw8,← ht'];exact zset_owns w7
   have HT8:=hid (show W.heap.size+1+1 < t' by have:=O37.out.lt;omega)
   have O18:=hid (O17.out.keep g8)
   have O38:=hid (O37.out.keep g8)
   have A8:=hid (A7.out.grew g8)
   have R8:=hid (R7.out.trans (XE.R.grew g8))
   have O8:=hid o8
   clear g8 o8
   go_upto_region 6 with (refine wpList_load_set O57.out rfl _ rfl rfl ?_)
   simp only [Act.put,sia,scz,scs]
   go_upto_region 3 with (refine wpList_store_set O8.out rfl _ _ rfl rfl rfl ?_;intro w9 o9 b9;have O9:=hid o9;have B9:=hid b9;clear o9 b9;simp only [Act.put])
   clear hw8 ht'
   have O19:=hid (B9.out.owns O18.out (by have:=HT8.out;omega))
   have O39:=hid (B9.out.owns O38.out (by have:=HT8.out;omega))
   have A9:=hid (XE.At.fresh HA.out A8.out B9.out (by have:=HT8.out;omega))
   have R9:=hid (XE.R.fresh HA.out R8.out B9.out (by have:=HT8.out;omega))
   clear B9 O17 O57 O37 A7 R7 O18 O38 A8 R8 O8
   have HOUT:Hid (∀ j,now.testBit j=true→From m (DerP E.B E.wl n) j):=hid HI.out.outNow
   have HNOW:Hid (∀ i,now.testBit i=true→i≤E.wl.length):=hid fun i hi=>by
    obtain ⟨i0,h1,h2⟩:=HOUT.out i hi
    exact h2.le.2 (HML.out i0 h1)
   have HFAC:Hid (∀ w,E.R w9 w→W.heap.size < w.heap.size∧w.cell? ⟨W.heap.size,0,none⟩=some (.int .u8 p0)∧w.cell? ⟨W.heap.size,1,none⟩=some (.string p1)∧w.cell? ⟨W.heap.size,2,none⟩=some (.string p2)∧w.cell? ⟨W.heap.size,3,none⟩=some (.slice p3 p4 p5)∧w.cell? ⟨W.heap.size,4,none⟩=some (.slice p6 p7 p8)):=hid fun w hw=>by
    have h2:=hw.owns O19.out (HNE.out _ (Nat.le_refl _)).2.2.2
    exact ⟨h2.lt,h2.cell_at (i:=0) rfl,h2.cell_at (i:=1) rfl,h2.cell_at (i:=2) rfl,h2.cell_at (i:=3) rfl,h2.cell_at (i:=4) rfl⟩
   obtain ⟨T0,hT0⟩:∃ T0:Int→Prop,(fun t=>S t∨(NxF E.B E.wl m n t∨NxF E.B E.wl o n t))=T0:=⟨_,rfl⟩
   have HT0:=hid hT0
   rw [hT0] at A9
   clear hT0
   refine wp_region_hav_litX (G:=E.G T0 (fun t=>T0 t∨NxF E.B E.wl now n t)) (E.grel _ _) follows (by kernel_rfl) ?_
   refine HavX.val (E.grel _ _) (fun _=>rfl) (setV now) (fun x w hw _=>exec_load_set (hw.1.owns O39.out (HNE.out _ (by omega)).2.2.2) rfl rfl) ?_
   simp only [Act.put,sia,scz,scs]
   iterate 2 ((first | refine HavX.skip (fun _=>rfl) ?_ | (refine HavX.val (E.grel _ _) (fun _=>rfl) ?_ (fun x w hw _=>?_) ?_;rotate_left;(focus (obtain ⟨y0,y1,y2,y3,y4,y5⟩:=HFAC.out w hw.1;clear hw;go_simp;first | done | rfl))));simp only [Act.put,sia,scz,scs])
   refine HavX.val (E.grel _ _) (fun _=>rfl) (setV now) (fun x w hw _=>exec_load_set (hw.1.owns O39.out (HNE.out _ (by omega)).2.2.2) rfl rfl) ?_
   simp only [Act.put,sia,scz,scs]
   refine HavX.any (fun _=>rfl) (fun _=>NoteR E (fun t=>T0 t∨NxF E.B E.wl now n t) (From now (Der E.B E.wl n))) (fun _ _ _ _ _ h=>h) (fun _ _ _ _ hg h=>h.keep hg) (fun x9 w hw hd=>?_) ?_
   ·obtain ⟨T,hT,hTN⟩:=XE.G.call A9.out hw
    have HC:=hid (HNN.out now T w _ _ _ _ _ HN49.out HNOW.out hT (HND.out.keep ((R9.out.trans hw.1).below HA.out)) (fun i r a hi hv=>by
     obtain ⟨i0,h1,h2⟩:=HOUT.out i hi
     exact HV.out i0 r a h1 (.inr ⟨i,h2,hv⟩)))
    have HTN:=hid hTN
    unfold XE.ptr at HC
    clear hd hw hT hTN
    go_simp
    refine HC.out.mono ?_
    rintro e w' ⟨q,rfl,h1,h2,h3,h4⟩
    have h5:E.At (fun t=>T0 t∨NxF E.B E.wl now n t) w':=h3.iff HTN.out
    exact ⟨XE.G.done h4 h5,q,rfl,h1,h2,h5⟩
   simp only [Act.put,sia,scz,scs]
   refine HavX.any (fun _=>rfl) (fun _ v w=>∃ q,v=setV (now ||| q)∧q < 2 ^ 49∧Bits q (From now (Der E.B E.wl n))∧E.At (fun t=>T0 t∨NxF E.B E.wl now n t) w) (fun _ _ _ _ _ h=>h) (fun _ _ _ _ hg ⟨q,h1,h2,h3,h4⟩=>⟨q,h1,h2,h3,hg.2.2 h4⟩) (fun x9 w hw hd=>?_) ?_
   ·obtain ⟨q,hx,hq1,hq2,hq3⟩:=hd _ (List.mem_append_right _ (List.mem_singleton.2 rfl)) (by kernel_rfl)
    dsimp only at hx
    have HQ1':=hid hq1
    have HQ2':=hid hq2
    have HQ3':=hid hq3
    have HWI:=hid (xwith_ok now q hq1 w)
    clear hd hw hq1 hq2 hq3
    simp only [hx]
    go_simp
    refine HWI.out.mono ?_
    rintro e w' ⟨rfl,hg⟩
    exact ⟨XE.G.grew hg,q,rfl,HQ1'.out,HQ2'.out,HQ3'.out.grew hg⟩
   simp only [Act.put,sia,scz,scs]
   refine HavX.tail (by kernel_rfl) (by kernel_rfl) (fun x9 w hw hd=>?_)
   obtain ⟨q,hx,hq1,hq2,hq3⟩:=hd _ (List.mem_append_right _ (List.mem_singleton.2 rfl))
   dsimp only at hx
   have HQ1':=hid hq1
   have HQ2':=hid hq2
   have AB:=hid hq3
   have OB:=hid (hw.1.owns O9.out (HNE.out _ (by have:=HT8.out;omega)).2.2.2)
   have O3B:=hid (hw.1.owns O39.out (HNE.out _ (by omega)).2.2.2)
   have O1B:=hid (hw.1.owns O19.out (HNE.out _ (by omega)).2.2.2)
   have RB:=hid (R9.out.trans hw.1)
   clear hd hw hq1 hq2 hq3
   simp only [hx]
   clear hx
   go_wp2_with (refine wpList_store_set OB.out rfl _ _ rfl rfl rfl ?_;intro wc oc bc;have OC:=hid oc;have BC:=hid bc;clear oc bc;simp only [Act.put])
   go_roundg (2 ^ 65 - now)
   case measure=>have h1:=HI.out.le hno'.out;have h2:=HK.out;have h3:=HI.out.now.1;omega
   case rel =>
    have hle:∀ j,o.testBit j=true→now.testBit j=true:=fun j hj=>(HI.out.now.2 j).2 (.inr (.inl hj))
    have h3:=HI.out.now.1
    have h8:=HT8.out
    refine ⟨now,now ||| q,t',rfl,hid ⟨by omega,h8,XE.R.fresh HA.out RB.out BC.out (by omega),BC.out.owns O1B.out (by omega),BC.out.owns O3B.out (by omega),OC.out,HN49.out,Nat.or_lt_two_pow HN49.out HQ1'.out,HI.out.next HQ2'.out,(XE.At.fresh HA.out AB.out BC.out (by omega)).iff fun t=>?_⟩⟩
    rw [← HT0.out]
    constructor
    ·rintro ((h | h | h) | h)
     ·exact .inl h
     ·exact .inr (.inl h)
     ·exact .inr (.inr (nxf_mono hle h))
     ·exact .inr (.inr h)
    ·rintro (h | h | h)
     ·exact .inl (.inl h)
     ·exact .inl (.inr (.inl h))
     ·exact .inr h
end Go.Proofs.YtppjmdanckdobaaGreatDoor

/- node of expects,whole;all calls of rules. -/
namespace Go.Proofs.YtppjmdanckdobaaGreatDoor
open Go.RowKit
open Lib (hid)
theorem xnode_ok (E:XE) (hB:E.B.Lng):∀ n:Nd,n.lp→NodeX E n:=by
 intro n
 induction n using Nd.ind with
 | h k nm tx set subs ih =>
  intro hlp m S W v0 v1 v2 v3 v4 hm hml hA hN hV
  rw [Nd.lp] at hlp
  have hno:∀ s∈subs,NodeX E s:=fun s hs=>by
   obtain ⟨i,hi,rfl⟩:=List.mem_iff_getElem.1 hs
   exact ih i hi (Nd.lpL.mem hlp.2 _ hs)
  by_cases hm0:m=0
  ·exact xn_zero E hB k nm tx set subs m hm0 S W v0 v1 v2 v3 v4 hm hml hA hN hV
  cases hdt:E.B.dv (.mk k nm tx set subs) with
  | false=>exact xn_void E hB k nm tx set subs m hm0 hdt S W v0 v1 v2 v3 v4 hm hml hA hN hV
  | true =>
   have hsx:k=2∨k=3∨k=4→∃ x r,subs=x::r:=fun hk=>by
    cases subs with
    | nil=>exact absurd rfl (hlp.1 hk)
    | cons x r=>exact ⟨x,r,rfl⟩
   by_cases hko:k < 0∨6 < k
   ·exact xn_other E hB k nm tx set subs m hko hm0 hdt S W v0 v1 v2 v3 v4 hm hml hA hN hV
   obtain rfl | rfl | rfl | rfl | rfl | rfl | rfl:k=0∨k=1∨k=2∨k=3∨k=4∨k=5∨k=6:=by omega
   ·exact xn_alt E hB nm tx set subs hno m hm0 hdt S W v0 v1 v2 v3 v4 hm hml hA hN hV
   ·exact xn_seq E hB nm tx set subs hno m hm0 hdt S W v0 v1 v2 v3 v4 hm hml hA hN hV
   ·obtain ⟨x,r,hx⟩:=hsx (.inl rfl)
    exact xn_opt E hB nm tx set subs x ⟨r,hx⟩ (hno x (by rw [hx];exact List.mem_cons_self ..)) m hm0 hdt S W v0 v1 v2 v3 v4 hm hml hA hN hV
   ·obtain ⟨x,r,hx⟩:=hsx (.inr (.inl rfl))
    exact xn_star E hB nm tx set subs x ⟨r,hx⟩ (xagain_ok E x (hno x (by rw [hx];exact List.mem_cons_self ..))) m hm0 hdt S W v0 v1 v2 v3 v4 hm hml hA hN hV
   ·obtain ⟨x,r,hx⟩:=hsx (.inr (.inr rfl))
    exact xn_plus E hB nm tx set subs x ⟨r,hx⟩ (xagain_ok E x (hno x (by rw [hx];exact List.mem_cons_self ..))) m hm0 hdt S W v0 v1 v2 v3 v4 hm hml hA hN hV
   ·exact xn_ref E hB nm tx set subs m hm0 hdt S W v0 v1 v2 v3 v4 hm hml hA hN hV
   ·exact xn_tok E hB nm tx set subs m hm0 hdt S W v0 v1 v2 v3 v4 hm hml hA hN hV
theorem xask_all (E:XE) (hB:E.B.Lng) (hlp:∀ n∈E.B.bodies,n.lp) (hw:E.wl.length≤48) (rank:Nat→Nat) (hr:Ranked E.B E.wl rank):∀ r a,r < E.B.bodies.length→a≤E.wl.length→AskX E r a
 | r,a,h,ha=>by
  have hn:E.B.bodies[r]? = some E.B.bodies[r]:=List.getElem?_eq_getElem h
  have hb:∀ i,(2 ^ a).testBit i=true→i=a:=fun i hi=>by
   rw [Nat.testBit_two_pow,decide_eq_true_eq] at hi
   exact hi.symm
  refine xfrom_ok E r a ha _ hn fun S W v0 v1 v2 v3 v4 hA hN=>?_
  refine (xnode_ok E hB _ (hlp _ (List.getElem_mem h)) (2 ^ a) S W v0 v1 v2 v3 v4 (Nat.pow_lt_pow_right (by omega) (by omega)) (fun i hi=>by rw [hb i hi];exact ha) hA hN (fun i r' a' hi hv=>?_)).mono (fun e W' hres=>hres.iff (fun j=>?_) fun t=>?_)
  ·rw [hb i hi] at hv
   obtain ⟨h1,h2⟩:=hr r _ a r' a' hn ha hv
   have h3:=hv.le
   exact xask_all E hB hlp hw rank hr r' a' h1 (h3.2 ha)
  ·constructor
   ·rintro ⟨i,hi,hd⟩
    obtain rfl:=hb i hi
    exact hd
   ·intro hd
    exact ⟨a,by rw [Nat.testBit_two_pow];simp,hd⟩
  ·constructor
   ·rintro ⟨i,t',hi,hd,h3⟩
    obtain rfl:=hb i hi
    exact ⟨t',hd,h3⟩
   ·rintro ⟨t',hd,h3⟩
    exact ⟨a,t',by rw [Nat.testBit_two_pow];simp,hd,h3⟩
termination_by r a=>(E.wl.length - a,rank r)
decreasing_by
 have h4:=h3.2 ha
 by_cases e:a'=a
 ·rw [e]
  exact Prod.Lex.right _ (h2 e)
 ·exact Prod.Lex.left _ _ (by omega)
end Go.Proofs.YtppjmdanckdobaaGreatDoor
