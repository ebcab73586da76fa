/- node of expects: at most once. Printed by genxnode.py. -/
import Derived.Test.YtppjmdanckdobaaGreatDoorQR31
namespace Go.Proofs.YtppjmdanckdobaaGreatDoor
open Go.RowKit
open Lib (hid)
set_option maxHeartbeats 8000000 in
set_option maxRecDepth 40000 in
theorem xn_opt (E:XE) (hB:E.B.Lng) (nm tx:ByteArray) (set:List (Int × Int)) (subs:List Nd) (su:Nd) (hsx:∃ r,subs=su::r) (hag:NodeX E su) (m:Nat) (hm0:m≠0) (hdt:E.B.dv (.mk 2 nm tx set subs)=true) (S:Int→Prop) (W:World) (v0 v1 v2 v3 v4:Value) (hm:m < 2 ^ 49) (hml:∀ i,m.testBit i=true→i≤E.wl.length) (hA:E.At S W) (hN:NodeAt W E.lim (some v0) (some v1) (some v2) (some v3) (some v4) (.mk 2 nm tx set subs))
  (hV:∀ i r a,m.testBit i=true→Vis E.B E.wl (.mk 2 nm tx set subs) i r a→AskX E r a) :
  Calls Tryz.prog 39 #[E.ptr,.agg #[v0,v1,v2,v3,v4],setV m] W (XRes E (From m (Der E.B E.wl (.mk 2 nm tx set subs))) S (NxF E.B E.wl m (.mk 2 nm tx set subs)) W):=by
 have HND:=hid hN
 rw [NodeAt] at hN
 obtain ⟨hk,h1,h2,h3,h4,h5,⟨sa,sc,h6,h6',h7⟩,na,nc,h8,h8',h9⟩:=hN
 obtain rfl:=Option.some.inj h3
 obtain rfl:=Option.some.inj h4
 obtain rfl:=Option.some.inj h5
 obtain rfl:=Option.some.inj h6
 obtain rfl:=Option.some.inj h8
 clear h3 h4 h5 h6 h8 h7
 unfold reachN at h1 h2 h6' h8'
 obtain ⟨b,hb⟩:∃ b,W.heap.size=b:=⟨_,rfl⟩
 obtain ⟨w1,hw1⟩:∃ w1,W.alloc (.cells #[.int .u8 2,.string nm,.string tx,.slice sa set.length sc,.slice na subs.length nc] 80)=w1:=⟨_,rfl⟩
 have g1:Grew W w1:=hw1▸grew_alloc W _
 have o1:Owns w1 b [.int .u8 2,.string nm,.string tx,.slice sa set.length sc,.slice na subs.length nc] 80:=by rw [← hw1,← hb];exact Owns.alloc W _ _
 have z1:w1.heap.size=b+1:=by rw [← hw1,← hb];exact World.size_alloc _ _
 obtain ⟨w2,hw2⟩:∃ w2,w1.alloc (.cells (setL m).toArray 66)=w2:=⟨_,rfl⟩
 have g2:Grew w1 w2:=hw2▸grew_alloc w1 _
 have o2:Owns w2 (b+1) (setL m) 66:=by rw [← hw2,← z1];exact Owns.alloc w1 _ _
 have z2:w2.heap.size=b+1+1:=by rw [← hw2,← z1];exact World.size_alloc _ _
 obtain ⟨w3,hw3⟩:∃ w3,w2.alloc (.cells #[.bool false,.bool false,.bool false,.bool false,.bool false,.bool false,.bool false,.bool false,.bool false,.bool false,.bool false,.bool false,.bool false,.bool false,.bool false,.bool false,.bool false,.bool false,.bool false,.bool false,.bool false,.bool false,.bool false,.bool false,.bool false,.bool false,.bool false,.bool false,.bool false,.bool false,.bool false,.bool false,.bool false,.bool false,.bool false,.bool false,.bool false,.bool false,.bool false,.bool false,.bool false,.bool false,.bool false,.bool false,.bool false,.bool false,.bool false,.bool false,.bool false] 66)=w3:=⟨_,rfl⟩
 have g3:Grew w2 w3:=hw3▸grew_alloc w2 _
 have o3:Owns w3 (b+1+1) (setL 0) 66:=by rw [← hw3,← z2];exact zset_owns w2
 have hA3:=hA.grew ((g1.trans g2).trans g3)
 have O1:=hid ((o1.keep g2).keep g3)
 have O2:=hid (o2.keep g3)
 have O3:=hid o3
 have HA:=hid hA
 have A3:=hid hA3
 have G3:=hid ((g1.trans g2).trans g3)
 have HB:=hid hb
 have HLT:=hid hA.lts
 have HML:=hid hml
 have HMM:=hid hm
 have HV:=hid hV
 have H90:=hid h9
 have H9:Hid (NodesAt w3 E.lim na 0 subs):=hid (h9.keep (((g1.trans g2).trans g3).mono hA.tab.low))
 have HLNG:=hid hB
 have hne:∀ f,b≤f→f≠E.kb∧f≠E.nb∧f≠E.kw∧¬ (f=E.kb∨f=E.nb):=fun f h=>by have:=hA.lts;omega
 have HNE:=hid hne
 have HDV:Hid (∀ w,Grew w3 w→Calls Tryz.prog 61 #[.pointer (some ⟨E.tb,0,none⟩),.agg #[.int .u8 2,.string nm,.string tx,.slice sa set.length sc,.slice na subs.length nc]] w fun e W'=>e=.returned (.bool (E.B.dv (.mk 2 nm tx set subs)))∧Grew w W'):=hid fun w hw=>xderives_ok E _ w _ _ _ _ _ (A3.out.grew hw).tab ((HND.out.keep ((G3.out.trans hw).mono HA.out.tab.low)).mono (Nat.le_trans HA.out.tab.low (G3.out.trans hw).size))
 obtain ⟨Q,hQ⟩:∃ Q,XRes E (From m (Der E.B E.wl (.mk 2 nm tx set subs))) S (NxF E.B E.wl m (.mk 2 nm tx set subs)) W=Q:=⟨_,rfl⟩
 rw [hQ]
 have HQ:=hid hQ
 have n0:=O1.out.cell_at (i:=0) rfl
 have n1:=O1.out.cell_at (i:=1) rfl
 have n2:=O1.out.cell_at (i:=2) rfl
 have n3:=O1.out.cell_at (i:=3) rfl
 have n4:=O1.out.cell_at (i:=4) rfl
 have nl:=O1.out.lt
 have k0:=A3.out.box.cell_at (i:=0) rfl
 have kl:=A3.out.box.lt
 clear hA hA3 hV o1 o2 o3 g1 g2 g3 hQ h9 hml hB hne
 subst hb
 obtain ⟨rs,hsx⟩:=hsx
 have HSX:=hid hsx
 have HAG:=hid hag
 clear hsx hag
 have HM0:=hid hm0
 have HDT:=hid hdt
 clear hm0 hdt
 unfold XE.ptr setV
 go_enter Tryz.func39,Tryz.ntmps39
 go_upto_region 1 with fail
 clear hw1 hw2 hw3 z1 z2
 refine wp_region_hav_lit follows (by kernel_rfl) ?_
 refine HavG.val (fun _=>rfl) (setV m) (fun x w hw _=>exec_load_set (O2.out.keep hw) rfl rfl) ?_
 simp only [Act.put,sia,scz,scs]
 refine HavG.val (fun _=>rfl) (setV 0) (fun x w hw _=>?_) ?_
 ·clear hw
  unfold setV
  rw [zset_cells]
  go_simp
 simp only [Act.put,sia,scz,scs]
 refine HavG.val (fun _=>rfl) (.bool false) (fun x w hw _=>by rw [exec_eql_set HMM.out (by decide) rfl rfl rfl,decide_eq_false HM0.out]) ?_
 simp only [Act.put,sia,scz,scs]
 iterate 8 ((first | refine HavG.skip (fun _=>rfl) ?_ | (refine HavG.val (fun _=>rfl) ?_ (fun x w hw _=>?_) ?_;rotate_left;(focus (have hc:=hw.cells;clear hw;go_simp;first | done | rfl))));simp only [Act.put,sia,scz,scs])
 refine HavG.det (fun _=>rfl) (.bool true) (fun x w hw hd=>?_) ?_
 ·clear hd
  have HW:=hid hw
  clear hw
  go_simp
  refine (HDV.out _ HW.out).mono ?_
  rintro e w' ⟨rfl,hg⟩
  exact ⟨by rw [HDT.out],hg⟩
 simp only [Act.put,sia,scz,scs]
 iterate 1 ((first | refine HavG.skip (fun _=>rfl) ?_ | (refine HavG.val (fun _=>rfl) ?_ (fun x w hw _=>?_) ?_;rotate_left;(focus (have hc:=hw.cells;clear hw;go_simp;first | done | rfl))));simp only [Act.put,sia,scz,scs])
 refine HavG.tail (by kernel_rfl) (by kernel_rfl) (fun x w hw _=>?_)
 have GW:=hid hw
 have AW:=hid (A3.out.grew hw)
 have O1W:=hid (O1.out.keep hw)
 have O2W:=hid (O2.out.keep hw)
 have O3W:=hid (O3.out.keep hw)
 have H9W:Hid (NodesAt w E.lim na 0 subs):=hid (H9.out.keep (hw.mono A3.out.tab.low))
 have RW:Hid (E.R W w):=hid (XE.R.grew (G3.out.trans hw))
 clear hw n0 n1 n2 n3 n4 nl k0 kl
 obtain ⟨w4,rfl⟩:∃ z,z=w:=⟨_,rfl⟩
 have n0:=O1W.out.cell_at (i:=0) rfl
 have n1:=O1W.out.cell_at (i:=1) rfl
 have n4:=O1W.out.cell_at (i:=4) rfl
 have nl:=O1W.out.lt
 obtain ⟨b,off,rfl,hbl,hnode⟩:=H9W.out.get (k:=0) (by rw [HSX.out];simp)
 simp only [Nat.zero_mul,Nat.add_zero] at hnode
 have hx0:subs[0]'(by rw [HSX.out];simp)=su:=by simp [HSX.out]
 rw [hx0] at hnode
 obtain ⟨y0,y1,y2,y3,y4,c0,c1,c2,c3,c4,hnode⟩:=hnode.vals
 obtain ⟨p0,p1,p2,p3,p4,p5,p6,p7,p8,rfl,rfl,rfl,rfl,rfl⟩:=hnode.forms
 have HNODE:=hid hnode
 have hlen:0 < subs.length:=by rw [HSX.out];simp
 have hlen2:(0:Int) < (subs.length:Int):=by omega
 have HFAC:Hid (∀ w,E.R w4 w→w.cell? ⟨W.heap.size,4,none⟩=some (.slice (some ⟨b,off,none⟩) subs.length nc)∧W.heap.size < w.heap.size∧b < w.heap.size∧w.cell? ⟨b,off,none⟩=some (.int .u8 p0)∧w.cell? ⟨b,off+1,none⟩=some (.string p1)∧w.cell? ⟨b,off+2,none⟩=some (.string p2)∧w.cell? ⟨b,off+3,none⟩=some (.slice p3 p4 p5)∧w.cell? ⟨b,off+4,none⟩=some (.slice p6 p7 p8)):=hid fun w hw=>by
  have hb:=hw.below AW.out
  have hn:=hw.owns O1W.out (HNE.out _ (Nat.le_refl _)).2.2.2
  exact ⟨hn.cell_at (i:=4) rfl,hn.lt,by have:=AW.out.tab.low;have:=hb.size;omega,by rw [hb.cell hbl];exact c0,by rw [hb.cell hbl];exact c1,by rw [hb.cell hbl];exact c2,by rw [hb.cell hbl];exact c3,by rw [hb.cell hbl];exact c4⟩
 clear hnode hx0 c0 c1 c2 c3 c4 hbl
 have HNX:Hid (∀ t,NxF E.B E.wl m su t↔NxF E.B E.wl m (.mk 2 nm tx set subs) t):=hid fun t=>by
  rw [HSX.out]
  constructor
  ·rintro ⟨i,t',h1,h2,h3⟩
   exact ⟨i,t',h1,.loop (.inl rfl) (by rw [← HSX.out];exact HDT.out) h2,h3⟩
  ·rintro ⟨i,t',h1,h2,h3⟩
   cases h2 with
   | loop _ _ h2=>exact ⟨i,t',h1,h2,h3⟩
   | again h2=>omega
 go_upto_region 28 with fail
 clear n0 n1 n4 nl
 refine wp_region_hav_litX (G:=E.G S (fun t=>S t∨NxF E.B E.wl m (.mk 2 nm tx set subs) t)) (E.grel _ _) follows (by kernel_rfl) ?_
 refine HavX.val (E.grel _ _) (fun _=>rfl) (setV m) (fun x w hw _=>exec_load_set (hw.1.owns O2W.out (HNE.out _ (by omega)).2.2.2) rfl rfl) ?_
 simp only [Act.put,sia,scz,scs]
 iterate 5 ((first | refine HavX.skip (fun _=>rfl) ?_ | (refine HavX.val (E.grel _ _) (fun _=>rfl) ?_ (fun x w hw _=>?_) ?_;rotate_left;(focus (obtain ⟨y0,y1,y2,y3,y4,y5,y6,y7⟩:=HFAC.out w hw.1;clear hw;go_simp;first | done | rfl))));simp only [Act.put,sia,scz,scs])
 refine HavX.val (E.grel _ _) (fun _=>rfl) (setV m) (fun x w hw _=>exec_load_set (hw.1.owns O2W.out (HNE.out _ (by omega)).2.2.2) rfl rfl) ?_
 simp only [Act.put,sia,scz,scs]
 refine HavX.any (fun _=>rfl) (fun _=>NoteR E (fun t=>S t∨NxF E.B E.wl m (.mk 2 nm tx set subs) t) (From m (Der E.B E.wl su))) (fun _ _ _ _ _ h=>h) (fun _ _ _ _ hg h=>h.keep hg) (fun x9 w hw hd=>?_) ?_
 ·obtain ⟨T,hT,hTN⟩:=XE.G.call AW.out hw
  have HC:=hid (HAG.out m T w _ _ _ _ _ HMM.out HML.out hT (HNODE.out.keep (hw.1.below AW.out)) (fun i r a h1 h2=>HV.out i r a h1 (by rw [HSX.out];exact .loop (.inl rfl) h2)))
  have HTN:=hid hTN
  unfold XE.ptr at HC
  clear hd hw hT hTN
  go_simp
  refine HC.out.mono ?_
  rintro e w' ⟨q,rfl,h1,h2,h3,h4⟩
  have h5:E.At (fun t=>S t∨NxF E.B E.wl m (.mk 2 nm tx set subs) t) w':=h3.iff fun t=>by
   rw [← HTN.out t]
   exact or_congr Iff.rfl (HNX.out t)
  exact ⟨XE.G.done h4 h5,q,rfl,h1,h2,h5⟩
 simp only [Act.put,sia,scz,scs]
 refine HavX.any (fun _=>rfl) (fun _=>NoteR E (fun t=>S t∨NxF E.B E.wl m (.mk 2 nm tx set subs) t) (fun j=>m.testBit j=true∨From m (Der E.B E.wl su) j)) (fun _ _ _ _ _ h=>h) (fun _ _ _ _ hg h=>h.keep hg) (fun x9 w hw hd=>?_) ?_
 ·obtain ⟨q,hx,hq1,hq2,hq3⟩:=hd _ (List.mem_append_right _ (List.mem_singleton.2 rfl)) (by kernel_rfl)
  dsimp only at hx
  have HQ1:=hid hq1
  have HQ2:=hid hq2
  have HQ3:=hid hq3
  have HWI:=hid (xwith_ok m q hq1 w)
  clear hd hw hq1 hq2 hq3
  simp only [hx]
  go_simp
  refine HWI.out.mono ?_
  rintro e w' ⟨rfl,hg⟩
  exact ⟨XE.G.grew hg,m ||| q,rfl,Nat.or_lt_two_pow HMM.out HQ1.out,(Bits.self (Nat.lt_of_lt_of_le HMM.out (by decide))).or HQ2.out,HQ3.out.grew hg⟩
 simp only [Act.put,sia,scz,scs]
 refine HavX.tail (by kernel_rfl) (by kernel_rfl) (fun x9 w hw hd=>?_)
 obtain ⟨q,hx,hq1,hq2,hq3⟩:=hd _ (List.mem_append_right _ (List.mem_singleton.2 rfl))
 dsimp only at hx
 have HQ1:=hid hq1
 have HQ2:=hid hq2
 have A5:=hid hq3
 have O5:=hid (hw.1.owns O3W.out (HNE.out _ (by omega)).2.2.2)
 have R5:=hid (RW.out.trans hw.1)
 clear hd hw hq1 hq2 hq3
 simp only [hx]
 clear hx
 go_wp2_with (refine wpList_store_set O5.out rfl _ _ rfl rfl rfl ?_;intro w6 o6 b6;have O6:=hid o6;have H6:=hid (XE.At.fresh HA.out A5.out b6 (by omega));have HR6:=hid (XE.R.fresh HA.out R5.out b6 (by omega));clear o6 b6)
 refine bodyPost_ret (ret_set rfl _ O6.out rfl) rfl ?_
 rw [← HQ.out]
 refine ⟨q,rfl,HQ1.out,HQ2.out.iff fun j=>?_,H6.out,HR6.out⟩
 rw [HSX.out]
 constructor
 ·rintro (h | ⟨i,h1,h2⟩)
  ·exact ⟨j,h,.opt0⟩
  ·exact ⟨i,h1,.opt h2⟩
 ·rintro ⟨i,h1,h2⟩
  cases h2 with
  | opt0=>exact .inl h1
  | opt h2=>exact .inr ⟨i,h1,h2⟩
  | other h2=>omega
end Go.Proofs.YtppjmdanckdobaaGreatDoor

/- node of expects: as often as may be. Printed by genxnode.py. -/
namespace Go.Proofs.YtppjmdanckdobaaGreatDoor
open Go.RowKit
open Lib (hid)
set_option maxHeartbeats 8000000 in
set_option maxRecDepth 40000 in
theorem xn_star (E:XE) (hB:E.B.Lng) (nm tx:ByteArray) (set:List (Int × Int)) (subs:List Nd) (su:Nd) (hsx:∃ r,subs=su::r) (hag:AgX E su) (m:Nat) (hm0:m≠0) (hdt:E.B.dv (.mk 3 nm tx set subs)=true) (S:Int→Prop) (W:World) (v0 v1 v2 v3 v4:Value) (hm:m < 2 ^ 49) (hml:∀ i,m.testBit i=true→i≤E.wl.length) (hA:E.At S W) (hN:NodeAt W E.lim (some v0) (some v1) (some v2) (some v3) (some v4) (.mk 3 nm tx set subs))
  (hV:∀ i r a,m.testBit i=true→Vis E.B E.wl (.mk 3 nm tx set subs) i r a→AskX E r a) :
  Calls Tryz.prog 39 #[E.ptr,.agg #[v0,v1,v2,v3,v4],setV m] W (XRes E (From m (Der E.B E.wl (.mk 3 nm tx set subs))) S (NxF E.B E.wl m (.mk 3 nm tx set subs)) W):=by
 have HND:=hid hN
 rw [NodeAt] at hN
 obtain ⟨hk,h1,h2,h3,h4,h5,⟨sa,sc,h6,h6',h7⟩,na,nc,h8,h8',h9⟩:=hN
 obtain rfl:=Option.some.inj h3
 obtain rfl:=Option.some.inj h4
 obtain rfl:=Option.some.inj h5
 obtain rfl:=Option.some.inj h6
 obtain rfl:=Option.some.inj h8
 clear h3 h4 h5 h6 h8 h7
 unfold reachN at h1 h2 h6' h8'
 obtain ⟨b,hb⟩:∃ b,W.heap.size=b:=⟨_,rfl⟩
 obtain ⟨w1,hw1⟩:∃ w1,W.alloc (.cells #[.int .u8 3,.string nm,.string tx,.slice sa set.length sc,.slice na subs.length nc] 80)=w1:=⟨_,rfl⟩
 have g1:Grew W w1:=hw1▸grew_alloc W _
 have o1:Owns w1 b [.int .u8 3,.string nm,.string tx,.slice sa set.length sc,.slice na subs.length nc] 80:=by rw [← hw1,← hb];exact Owns.alloc W _ _
 have z1:w1.heap.size=b+1:=by rw [← hw1,← hb];exact World.size_alloc _ _
 obtain ⟨w2,hw2⟩:∃ w2,w1.alloc (.cells (setL m).toArray 66)=w2:=⟨_,rfl⟩
 have g2:Grew w1 w2:=hw2▸grew_alloc w1 _
 have o2:Owns w2 (b+1) (setL m) 66:=by rw [← hw2,← z1];exact Owns.alloc w1 _ _
 have z2:w2.heap.size=b+1+1:=by rw [← hw2,← z1];exact World.size_alloc _ _
 obtain ⟨w3,hw3⟩:∃ w3,w2.alloc (.cells #[.bool false,.bool false,.bool false,.bool false,.bool false,.bool false,.bool false,.bool false,.bool false,.bool false,.bool false,.bool false,.bool false,.bool false,.bool false,.bool false,.bool false,.bool false,.bool false,.bool false,.bool false,.bool false,.bool false,.bool false,.bool false,.bool false,.bool false,.bool false,.bool false,.bool false,.bool false,.bool false,.bool false,.bool false,.bool false,.bool false,.bool false,.bool false,.bool false,.bool false,.bool false,.bool false,.bool false,.bool false,.bool false,.bool false,.bool false,.bool false,.bool false] 66)=w3:=⟨_,rfl⟩
 have g3:Grew w2 w3:=hw3▸grew_alloc w2 _
 have o3:Owns w3 (b+1+1) (setL 0) 66:=by rw [← hw3,← z2];exact zset_owns w2
 have hA3:=hA.grew ((g1.trans g2).trans g3)
 have O1:=hid ((o1.keep g2).keep g3)
 have O2:=hid (o2.keep g3)
 have O3:=hid o3
 have HA:=hid hA
 have A3:=hid hA3
 have G3:=hid ((g1.trans g2).trans g3)
 have HB:=hid hb
 have HLT:=hid hA.lts
 have HML:=hid hml
 have HMM:=hid hm
 have HV:=hid hV
 have H90:=hid h9
 have H9:Hid (NodesAt w3 E.lim na 0 subs):=hid (h9.keep (((g1.trans g2).trans g3).mono hA.tab.low))
 have HLNG:=hid hB
 have hne:∀ f,b≤f→f≠E.kb∧f≠E.nb∧f≠E.kw∧¬ (f=E.kb∨f=E.nb):=fun f h=>by have:=hA.lts;omega
 have HNE:=hid hne
 have HDV:Hid (∀ w,Grew w3 w→Calls Tryz.prog 61 #[.pointer (some ⟨E.tb,0,none⟩),.agg #[.int .u8 3,.string nm,.string tx,.slice sa set.length sc,.slice na subs.length nc]] w fun e W'=>e=.returned (.bool (E.B.dv (.mk 3 nm tx set subs)))∧Grew w W'):=hid fun w hw=>xderives_ok E _ w _ _ _ _ _ (A3.out.grew hw).tab ((HND.out.keep ((G3.out.trans hw).mono HA.out.tab.low)).mono (Nat.le_trans HA.out.tab.low (G3.out.trans hw).size))
 obtain ⟨Q,hQ⟩:∃ Q,XRes E (From m (Der E.B E.wl (.mk 3 nm tx set subs))) S (NxF E.B E.wl m (.mk 3 nm tx set subs)) W=Q:=⟨_,rfl⟩
 rw [hQ]
 have HQ:=hid hQ
 have n0:=O1.out.cell_at (i:=0) rfl
 have n1:=O1.out.cell_at (i:=1) rfl
 have n2:=O1.out.cell_at (i:=2) rfl
 have n3:=O1.out.cell_at (i:=3) rfl
 have n4:=O1.out.cell_at (i:=4) rfl
 have nl:=O1.out.lt
 have k0:=A3.out.box.cell_at (i:=0) rfl
 have kl:=A3.out.box.lt
 clear hA hA3 hV o1 o2 o3 g1 g2 g3 hQ h9 hml hB hne
 subst hb
 obtain ⟨rs,hsx⟩:=hsx
 have HSX:=hid hsx
 have HAG:=hid hag
 clear hsx hag
 have HM0:=hid hm0
 have HDT:=hid hdt
 clear hm0 hdt
 unfold XE.ptr setV
 go_enter Tryz.func39,Tryz.ntmps39
 go_upto_region 1 with fail
 clear hw1 hw2 hw3 z1 z2
 refine wp_region_hav_lit follows (by kernel_rfl) ?_
 refine HavG.val (fun _=>rfl) (setV m) (fun x w hw _=>exec_load_set (O2.out.keep hw) rfl rfl) ?_
 simp only [Act.put,sia,scz,scs]
 refine HavG.val (fun _=>rfl) (setV 0) (fun x w hw _=>?_) ?_
 ·clear hw
  unfold setV
  rw [zset_cells]
  go_simp
 simp only [Act.put,sia,scz,scs]
 refine HavG.val (fun _=>rfl) (.bool false) (fun x w hw _=>by rw [exec_eql_set HMM.out (by decide) rfl rfl rfl,decide_eq_false HM0.out]) ?_
 simp only [Act.put,sia,scz,scs]
 iterate 8 ((first | refine HavG.skip (fun _=>rfl) ?_ | (refine HavG.val (fun _=>rfl) ?_ (fun x w hw _=>?_) ?_;rotate_left;(focus (have hc:=hw.cells;clear hw;go_simp;first | done | rfl))));simp only [Act.put,sia,scz,scs])
 refine HavG.det (fun _=>rfl) (.bool true) (fun x w hw hd=>?_) ?_
 ·clear hd
  have HW:=hid hw
  clear hw
  go_simp
  refine (HDV.out _ HW.out).mono ?_
  rintro e w' ⟨rfl,hg⟩
  exact ⟨by rw [HDT.out],hg⟩
 simp only [Act.put,sia,scz,scs]
 iterate 1 ((first | refine HavG.skip (fun _=>rfl) ?_ | (refine HavG.val (fun _=>rfl) ?_ (fun x w hw _=>?_) ?_;rotate_left;(focus (have hc:=hw.cells;clear hw;go_simp;first | done | rfl))));simp only [Act.put,sia,scz,scs])
 refine HavG.tail (by kernel_rfl) (by kernel_rfl) (fun x w hw _=>?_)
 have GW:=hid hw
 have AW:=hid (A3.out.grew hw)
 have O1W:=hid (O1.out.keep hw)
 have O2W:=hid (O2.out.keep hw)
 have O3W:=hid (O3.out.keep hw)
 have H9W:Hid (NodesAt w E.lim na 0 subs):=hid (H9.out.keep (hw.mono A3.out.tab.low))
 have RW:Hid (E.R W w):=hid (XE.R.grew (G3.out.trans hw))
 clear hw n0 n1 n2 n3 n4 nl k0 kl
 obtain ⟨w4,rfl⟩:∃ z,z=w:=⟨_,rfl⟩
 have n0:=O1W.out.cell_at (i:=0) rfl
 have n1:=O1W.out.cell_at (i:=1) rfl
 have n4:=O1W.out.cell_at (i:=4) rfl
 have nl:=O1W.out.lt
 obtain ⟨b,off,rfl,hbl,hnode⟩:=H9W.out.get (k:=0) (by rw [HSX.out];simp)
 simp only [Nat.zero_mul,Nat.add_zero] at hnode
 have hx0:subs[0]'(by rw [HSX.out];simp)=su:=by simp [HSX.out]
 rw [hx0] at hnode
 obtain ⟨y0,y1,y2,y3,y4,c0,c1,c2,c3,c4,hnode⟩:=hnode.vals
 obtain ⟨p0,p1,p2,p3,p4,p5,p6,p7,p8,rfl,rfl,rfl,rfl,rfl⟩:=hnode.forms
 have HNODE:=hid hnode
 have hlen:0 < subs.length:=by rw [HSX.out];simp
 have hlen2:(0:Int) < (subs.length:Int):=by omega
 have HFAC:Hid (∀ w,E.R w4 w→w.cell? ⟨W.heap.size,4,none⟩=some (.slice (some ⟨b,off,none⟩) subs.length nc)∧W.heap.size < w.heap.size∧b < w.heap.size∧w.cell? ⟨b,off,none⟩=some (.int .u8 p0)∧w.cell? ⟨b,off+1,none⟩=some (.string p1)∧w.cell? ⟨b,off+2,none⟩=some (.string p2)∧w.cell? ⟨b,off+3,none⟩=some (.slice p3 p4 p5)∧w.cell? ⟨b,off+4,none⟩=some (.slice p6 p7 p8)):=hid fun w hw=>by
  have hb:=hw.below AW.out
  have hn:=hw.owns O1W.out (HNE.out _ (Nat.le_refl _)).2.2.2
  exact ⟨hn.cell_at (i:=4) rfl,hn.lt,by have:=AW.out.tab.low;have:=hb.size;omega,by rw [hb.cell hbl];exact c0,by rw [hb.cell hbl];exact c1,by rw [hb.cell hbl];exact c2,by rw [hb.cell hbl];exact c3,by rw [hb.cell hbl];exact c4⟩
 clear hnode hx0 c0 c1 c2 c3 c4 hbl
 have HNX:Hid (∀ t,NxP E.B E.wl m su t↔NxF E.B E.wl m (.mk 3 nm tx set subs) t):=hid fun t=>by
  rw [HSX.out]
  constructor
  ·rintro ⟨i,t',h1,h2 | ⟨k,h2,h3⟩,rfl⟩
   ·exact ⟨i,t',h1,.loop (.inr (.inl rfl)) (by rw [← HSX.out];exact HDT.out) h2,rfl⟩
   ·exact ⟨i,t',h1,.again (.inl rfl) h2 h3,rfl⟩
  ·rintro ⟨i,t',h1,h2,rfl⟩
   cases h2 with
   | loop _ _ h2=>exact ⟨i,t',h1,.inl h2,rfl⟩
   | again _ hd h2=>exact ⟨i,t',h1,.inr ⟨_,hd,h2⟩,rfl⟩
 go_upto_region 30 with fail
 clear n0 n1 n4 nl
 refine wp_region_hav_litX (G:=E.G S (fun t=>S t∨NxF E.B E.wl m (.mk 3 nm tx set subs) t)) (E.grel _ _) follows (by kernel_rfl) ?_
 refine HavX.val (E.grel _ _) (fun _=>rfl) (setV m) (fun x w hw _=>exec_load_set (hw.1.owns O2W.out (HNE.out _ (by omega)).2.2.2) rfl rfl) ?_
 simp only [Act.put,sia,scz,scs]
 iterate 5 ((first | refine HavX.skip (fun _=>rfl) ?_ | (refine HavX.val (E.grel _ _) (fun _=>rfl) ?_ (fun x w hw _=>?_) ?_;rotate_left;(focus (obtain ⟨y0,y1,y2,y3,y4,y5,y6,y7⟩:=HFAC.out w hw.1;clear hw;go_simp;first | done | rfl))));simp only [Act.put,sia,scz,scs])
 refine HavX.val (E.grel _ _) (fun _=>rfl) (setV m) (fun x w hw _=>exec_load_set (hw.1.owns O2W.out (HNE.out _ (by omega)).2.2.2) rfl rfl) ?_
 simp only [Act.put,sia,scz,scs]
 refine HavX.any (fun _=>rfl) (fun _=>NoteR E (fun t=>S t∨NxF E.B E.wl m (.mk 3 nm tx set subs) t) (From m (DerP E.B E.wl su))) (fun _ _ _ _ _ h=>h) (fun _ _ _ _ hg h=>h.keep hg) (fun x9 w hw hd=>?_) ?_
 ·obtain ⟨T,hT,hTN⟩:=XE.G.call AW.out hw
  have HC:=hid (HAG.out m T w _ _ _ _ _ HMM.out HML.out hT (HNODE.out.keep (hw.1.below AW.out)) (fun i r a h1 h2=>HV.out i r a h1 (by rw [HSX.out];exact h2.elim (fun h=>.loop (.inr (.inl rfl)) h) fun ⟨j,hd,h⟩=>.again (.inl rfl) hd h)))
  have HTN:=hid hTN
  unfold XE.ptr at HC
  clear hd hw hT hTN
  go_simp
  refine HC.out.mono ?_
  rintro e w' ⟨q,rfl,h1,h2,h3,h4⟩
  have h5:E.At (fun t=>S t∨NxF E.B E.wl m (.mk 3 nm tx set subs) t) w':=h3.iff fun t=>by
   rw [← HTN.out t]
   exact or_congr Iff.rfl (HNX.out t)
  exact ⟨XE.G.done h4 h5,q,rfl,h1,h2,h5⟩
 simp only [Act.put,sia,scz,scs]
 refine HavX.any (fun _=>rfl) (fun _=>NoteR E (fun t=>S t∨NxF E.B E.wl m (.mk 3 nm tx set subs) t) (fun j=>m.testBit j=true∨From m (DerP E.B E.wl su) j)) (fun _ _ _ _ _ h=>h) (fun _ _ _ _ hg h=>h.keep hg) (fun x9 w hw hd=>?_) ?_
 ·obtain ⟨q,hx,hq1,hq2,hq3⟩:=hd _ (List.mem_append_right _ (List.mem_singleton.2 rfl)) (by kernel_rfl)
  dsimp only at hx
  have HQ1:=hid hq1
  have HQ2:=hid hq2
  have HQ3:=hid hq3
  have HWI:=hid (xwith_ok m q hq1 w)
  clear hd hw hq1 hq2 hq3
  simp only [hx]
  go_simp
  refine HWI.out.mono ?_
  rintro e w' ⟨rfl,hg⟩
  exact ⟨XE.G.grew hg,m ||| q,rfl,Nat.or_lt_two_pow HMM.out HQ1.out,(Bits.self (Nat.lt_of_lt_of_le HMM.out (by decide))).or HQ2.out,HQ3.out.grew hg⟩
 simp only [Act.put,sia,scz,scs]
 refine HavX.tail (by kernel_rfl) (by kernel_rfl) (fun x9 w hw hd=>?_)
 obtain ⟨q,hx,hq1,hq2,hq3⟩:=hd _ (List.mem_append_right _ (List.mem_singleton.2 rfl))
 dsimp only at hx
 have HQ1:=hid hq1
 have HQ2:=hid hq2
 have A5:=hid hq3
 have O5:=hid (hw.1.owns O3W.out (HNE.out _ (by omega)).2.2.2)
 have R5:=hid (RW.out.trans hw.1)
 clear hd hw hq1 hq2 hq3
 simp only [hx]
 clear hx
 go_wp2_with (refine wpList_store_set O5.out rfl _ _ rfl rfl rfl ?_;intro w6 o6 b6;have O6:=hid o6;have H6:=hid (XE.At.fresh HA.out A5.out b6 (by omega));have HR6:=hid (XE.R.fresh HA.out R5.out b6 (by omega));clear o6 b6)
 refine bodyPost_ret (ret_set rfl _ O6.out rfl) rfl ?_
 rw [← HQ.out]
 refine ⟨q,rfl,HQ1.out,HQ2.out.iff fun j=>?_,H6.out,HR6.out⟩
 rw [HSX.out]
 constructor
 ·rintro (h | ⟨i,h1,h2⟩)
  ·exact ⟨j,h,.star0⟩
  ·exact ⟨i,h1,.star h2⟩
 ·rintro ⟨i,h1,h2⟩
  cases h2 with
  | star0=>exact .inl h1
  | star h2=>exact .inr ⟨i,h1,h2⟩
  | other h2=>omega
end Go.Proofs.YtppjmdanckdobaaGreatDoor

/- node of expects: at least once. Printed by genxnode.py. -/
namespace Go.Proofs.YtppjmdanckdobaaGreatDoor
open Go.RowKit
open Lib (hid)
set_option maxHeartbeats 8000000 in
set_option maxRecDepth 40000 in
theorem xn_plus (E:XE) (hB:E.B.Lng) (nm tx:ByteArray) (set:List (Int × Int)) (subs:List Nd) (su:Nd) (hsx:∃ r,subs=su::r) (hag:AgX E su) (m:Nat) (hm0:m≠0) (hdt:E.B.dv (.mk 4 nm tx set subs)=true) (S:Int→Prop) (W:World) (v0 v1 v2 v3 v4:Value) (hm:m < 2 ^ 49) (hml:∀ i,m.testBit i=true→i≤E.wl.length) (hA:E.At S W) (hN:NodeAt W E.lim (some v0) (some v1) (some v2) (some v3) (some v4) (.mk 4 nm tx set subs))
  (hV:∀ i r a,m.testBit i=true→Vis E.B E.wl (.mk 4 nm tx set subs) i r a→AskX E r a) :
  Calls Tryz.prog 39 #[E.ptr,.agg #[v0,v1,v2,v3,v4],setV m] W (XRes E (From m (Der E.B E.wl (.mk 4 nm tx set subs))) S (NxF E.B E.wl m (.mk 4 nm tx set subs)) W):=by
 have HND:=hid hN
 rw [NodeAt] at hN
 obtain ⟨hk,h1,h2,h3,h4,h5,⟨sa,sc,h6,h6',h7⟩,na,nc,h8,h8',h9⟩:=hN
 obtain rfl:=Option.some.inj h3
 obtain rfl:=Option.some.inj h4
 obtain rfl:=Option.some.inj h5
 obtain rfl:=Option.some.inj h6
 obtain rfl:=Option.some.inj h8
 clear h3 h4 h5 h6 h8 h7
 unfold reachN at h1 h2 h6' h8'
 obtain ⟨b,hb⟩:∃ b,W.heap.size=b:=⟨_,rfl⟩
 obtain ⟨w1,hw1⟩:∃ w1,W.alloc (.cells #[.int .u8 4,.string nm,.string tx,.slice sa set.length sc,.slice na subs.length nc] 80)=w1:=⟨_,rfl⟩
 have g1:Grew W w1:=hw1▸grew_alloc W _
 have o1:Owns w1 b [.int .u8 4,.string nm,.string tx,.slice sa set.length sc,.slice na subs.length nc] 80:=by rw [← hw1,← hb];exact Owns.alloc W _ _
 have z1:w1.heap.size=b+1:=by rw [← hw1,← hb];exact World.size_alloc _ _
 obtain ⟨w2,hw2⟩:∃ w2,w1.alloc (.cells (setL m).toArray 66)=w2:=⟨_,rfl⟩
 have g2:Grew w1 w2:=hw2▸grew_alloc w1 _
 have o2:Owns w2 (b+1) (setL m) 66:=by rw [← hw2,← z1];exact Owns.alloc w1 _ _
 have z2:w2.heap.size=b+1+1:=by rw [← hw2,← z1];exact World.size_alloc _ _
 obtain ⟨w3,hw3⟩:∃ w3,w2.alloc (.cells #[.bool false,.bool false,.bool false,.bool false,.bool false,.bool false,.bool false,.bool false,.bool false,.bool false,.bool false,.bool false,.bool false,.bool false,.bool false,.bool false,.bool false,.bool false,.bool false,.bool false,.bool false,.bool false,.bool false,.bool false,.bool false,.bool false,.bool false,.bool false,.bool false,.bool false,.bool false,.bool false,.bool false,.bool false,.bool false,.bool false,.bool false,.bool false,.bool false,.bool false,.bool false,.bool false,.bool false,.bool false,.bool false,.bool false,.bool false,.bool false,.bool false] 66)=w3:=⟨_,rfl⟩
 have g3:Grew w2 w3:=hw3▸grew_alloc w2 _
 have o3:Owns w3 (b+1+1) (setL 0) 66:=by rw [← hw3,← z2];exact zset_owns w2
 have hA3:=hA.grew ((g1.trans g2).trans g3)
 have O1:=hid ((o1.keep g2).keep g3)
 have O2:=hid (o2.keep g3)
 have O3:=hid o3
 have HA:=hid hA
 have A3:=hid hA3
 have G3:=hid ((g1.trans g2).trans g3)
 have HB:=hid hb
 have HLT:=hid hA.lts
 have HML:=hid hml
 have HMM:=hid hm
 have HV:=hid hV
 have H90:=hid h9
 have H9:Hid (NodesAt w3 E.lim na 0 subs):=hid (h9.keep (((g1.trans g2).trans g3).mono hA.tab.low))
 have HLNG:=hid hB
 have hne:∀ f,b≤f→f≠E.kb∧f≠E.nb∧f≠E.kw∧¬ (f=E.kb∨f=E.nb):=fun f h=>by have:=hA.lts;omega
 have HNE:=hid hne
 have HDV:Hid (∀ w,Grew w3 w→Calls Tryz.prog 61 #[.pointer (some ⟨E.tb,0,none⟩),.agg #[.int .u8 4,.string nm,.string tx,.slice sa set.length sc,.slice na subs.length nc]] w fun e W'=>e=.returned (.bool (E.B.dv (.mk 4 nm tx set subs)))∧Grew w W'):=hid fun w hw=>xderives_ok E _ w _ _ _ _ _ (A3.out.grew hw).tab ((HND.out.keep ((G3.out.trans hw).mono HA.out.tab.low)).mono (Nat.le_trans HA.out.tab.low (G3.out.trans hw).size))
 obtain ⟨Q,hQ⟩:∃ Q,XRes E (From m (Der E.B E.wl (.mk 4 nm tx set subs))) S (NxF E.B E.wl m (.mk 4 nm tx set subs)) W=Q:=⟨_,rfl⟩
 rw [hQ]
 have HQ:=hid hQ
 have n0:=O1.out.cell_at (i:=0) rfl
 have n1:=O1.out.cell_at (i:=1) rfl
 have n2:=O1.out.cell_at (i:=2) rfl
 have n3:=O1.out.cell_at (i:=3) rfl
 have n4:=O1.out.cell_at (i:=4) rfl
 have nl:=O1.out.lt
 have k0:=A3.out.box.cell_at (i:=0) rfl
 have kl:=A3.out.box.lt
 clear hA hA3 hV o1 o2 o3 g1 g2 g3 hQ h9 hml hB hne
 subst hb
 obtain ⟨rs,hsx⟩:=hsx
 have HSX:=hid hsx
 have HAG:=hid hag
 clear hsx hag
 have HM0:=hid hm0
 have HDT:=hid hdt
 clear hm0 hdt
 unfold XE.ptr setV
 go_enter Tryz.func39,Tryz.ntmps39
 go_upto_region 1 with fail
 clear hw1 hw2 hw3 z1 z2
 refine wp_region_hav_lit follows (by kernel_rfl) ?_
 refine HavG.val (fun _=>rfl) (setV m) (fun x w hw _=>exec_load_set (O2.out.keep hw) rfl rfl) ?_
 simp only [Act.put,sia,scz,scs]
 refine HavG.val (fun _=>rfl) (setV 0) (fun x w hw _=>?_) ?_
 ·clear hw
  unfold setV
  rw [zset_cells]
  go_simp
 simp only [Act.put,sia,scz,scs]
 refine HavG.val (fun _=>rfl) (.bool false) (fun x w hw _=>by rw [exec_eql_set HMM.out (by decide) rfl rfl rfl,decide_eq_false HM0.out]) ?_
 simp only [Act.put,sia,scz,scs]
 iterate 8 ((first | refine HavG.skip (fun _=>rfl) ?_ | (refine HavG.val (fun _=>rfl) ?_ (fun x w hw _=>?_) ?_;rotate_left;(focus (have hc:=hw.cells;clear hw;go_simp;first | done | rfl))));simp only [Act.put,sia,scz,scs])
 refine HavG.det (fun _=>rfl) (.bool true) (fun x w hw hd=>?_) ?_
 ·clear hd
  have HW:=hid hw
  clear hw
  go_simp
  refine (HDV.out _ HW.out).mono ?_
  rintro e w' ⟨rfl,hg⟩
  exact ⟨by rw [HDT.out],hg⟩
 simp only [Act.put,sia,scz,scs]
 iterate 1 ((first | refine HavG.skip (fun _=>rfl) ?_ | (refine HavG.val (fun _=>rfl) ?_ (fun x w hw _=>?_) ?_;rotate_left;(focus (have hc:=hw.cells;clear hw;go_simp;first | done | rfl))));simp only [Act.put,sia,scz,scs])
 refine HavG.tail (by kernel_rfl) (by kernel_rfl) (fun x w hw _=>?_)
 have GW:=hid hw
 have AW:=hid (A3.out.grew hw)
 have O1W:=hid (O1.out.keep hw)
 have O2W:=hid (O2.out.keep hw)
 have O3W:=hid (O3.out.keep hw)
 have H9W:Hid (NodesAt w E.lim na 0 subs):=hid (H9.out.keep (hw.mono A3.out.tab.low))
 have RW:Hid (E.R W w):=hid (XE.R.grew (G3.out.trans hw))
 clear hw n0 n1 n2 n3 n4 nl k0 kl
 obtain ⟨w4,rfl⟩:∃ z,z=w:=⟨_,rfl⟩
 have n0:=O1W.out.cell_at (i:=0) rfl
 have n1:=O1W.out.cell_at (i:=1) rfl
 have n4:=O1W.out.cell_at (i:=4) rfl
 have nl:=O1W.out.lt
 obtain ⟨b,off,rfl,hbl,hnode⟩:=H9W.out.get (k:=0) (by rw [HSX.out];simp)
 simp only [Nat.zero_mul,Nat.add_zero] at hnode
 have hx0:subs[0]'(by rw [HSX.out];simp)=su:=by simp [HSX.out]
 rw [hx0] at hnode
 obtain ⟨y0,y1,y2,y3,y4,c0,c1,c2,c3,c4,hnode⟩:=hnode.vals
 obtain ⟨p0,p1,p2,p3,p4,p5,p6,p7,p8,rfl,rfl,rfl,rfl,rfl⟩:=hnode.forms
 have HNODE:=hid hnode
 have hlen:0 < subs.length:=by rw [HSX.out];simp
 have hlen2:(0:Int) < (subs.length:Int):=by omega
 have HFAC:Hid (∀ w,E.R w4 w→w.cell? ⟨W.heap.size,4,none⟩=some (.slice (some ⟨b,off,none⟩) subs.length nc)∧W.heap.size < w.heap.size∧b < w.heap.size∧w.cell? ⟨b,off,none⟩=some (.int .u8 p0)∧w.cell? ⟨b,off+1,none⟩=some (.string p1)∧w.cell? ⟨b,off+2,none⟩=some (.string p2)∧w.cell? ⟨b,off+3,none⟩=some (.slice p3 p4 p5)∧w.cell? ⟨b,off+4,none⟩=some (.slice p6 p7 p8)):=hid fun w hw=>by
  have hb:=hw.below AW.out
  have hn:=hw.owns O1W.out (HNE.out _ (Nat.le_refl _)).2.2.2
  exact ⟨hn.cell_at (i:=4) rfl,hn.lt,by have:=AW.out.tab.low;have:=hb.size;omega,by rw [hb.cell hbl];exact c0,by rw [hb.cell hbl];exact c1,by rw [hb.cell hbl];exact c2,by rw [hb.cell hbl];exact c3,by rw [hb.cell hbl];exact c4⟩
 clear hnode hx0 c0 c1 c2 c3 c4 hbl
 have HNX:Hid (∀ t,NxP E.B E.wl m su t↔NxF E.B E.wl m (.mk 4 nm tx set subs) t):=hid fun t=>by
  rw [HSX.out]
  constructor
  ·rintro ⟨i,t',h1,h2 | ⟨k,h2,h3⟩,rfl⟩
   ·exact ⟨i,t',h1,.loop (.inr (.inr rfl)) (by rw [← HSX.out];exact HDT.out) h2,rfl⟩
   ·exact ⟨i,t',h1,.again (.inr rfl) h2 h3,rfl⟩
  ·rintro ⟨i,t',h1,h2,rfl⟩
   cases h2 with
   | loop _ _ h2=>exact ⟨i,t',h1,.inl h2,rfl⟩
   | again _ hd h2=>exact ⟨i,t',h1,.inr ⟨_,hd,h2⟩,rfl⟩
 go_upto_region 32 with fail
 clear n0 n1 n4 nl
 refine wp_region_hav_litX (G:=E.G S (fun t=>S t∨NxF E.B E.wl m (.mk 4 nm tx set subs) t)) (E.grel _ _) follows (by kernel_rfl) ?_
 iterate 5 ((first | refine HavX.skip (fun _=>rfl) ?_ | (refine HavX.val (E.grel _ _) (fun _=>rfl) ?_ (fun x w hw _=>?_) ?_;rotate_left;(focus (obtain ⟨y0,y1,y2,y3,y4,y5,y6,y7⟩:=HFAC.out w hw.1;clear hw;go_simp;first | done | rfl))));simp only [Act.put,sia,scz,scs])
 refine HavX.val (E.grel _ _) (fun _=>rfl) (setV m) (fun x w hw _=>exec_load_set (hw.1.owns O2W.out (HNE.out _ (by omega)).2.2.2) rfl rfl) ?_
 simp only [Act.put,sia,scz,scs]
 refine HavX.any (fun _=>rfl) (fun _=>NoteR E (fun t=>S t∨NxF E.B E.wl m (.mk 4 nm tx set subs) t) (From m (DerP E.B E.wl su))) (fun _ _ _ _ _ h=>h) (fun _ _ _ _ hg h=>h.keep hg) (fun x9 w hw hd=>?_) ?_
 ·obtain ⟨T,hT,hTN⟩:=XE.G.call AW.out hw
  have HC:=hid (HAG.out m T w _ _ _ _ _ HMM.out HML.out hT (HNODE.out.keep (hw.1.below AW.out)) (fun i r a h1 h2=>HV.out i r a h1 (by rw [HSX.out];exact h2.elim (fun h=>.loop (.inr (.inr rfl)) h) fun ⟨j,hd,h⟩=>.again (.inr rfl) hd h)))
  have HTN:=hid hTN
  unfold XE.ptr at HC
  clear hd hw hT hTN
  go_simp
  refine HC.out.mono ?_
  rintro e w' ⟨q,rfl,h1,h2,h3,h4⟩
  have h5:E.At (fun t=>S t∨NxF E.B E.wl m (.mk 4 nm tx set subs) t) w':=h3.iff fun t=>by
   rw [← HTN.out t]
   exact or_congr Iff.rfl (HNX.out t)
  exact ⟨XE.G.done h4 h5,q,rfl,h1,h2,h5⟩
 simp only [Act.put,sia,scz,scs]
 refine HavX.tail (by kernel_rfl) (by kernel_rfl) (fun x9 w hw hd=>?_)
 obtain ⟨q,hx,hq1,hq2,hq3⟩:=hd _ (List.mem_append_right _ (List.mem_singleton.2 rfl))
 dsimp only at hx
 have HQ1:=hid hq1
 have HQ2:=hid hq2
 have A5:=hid hq3
 have O5:=hid (hw.1.owns O3W.out (HNE.out _ (by omega)).2.2.2)
 have R5:=hid (RW.out.trans hw.1)
 clear hd hw hq1 hq2 hq3
 simp only [hx]
 clear hx
 go_wp2_with (refine wpList_store_set O5.out rfl _ _ rfl rfl rfl ?_;intro w6 o6 b6;have O6:=hid o6;have H6:=hid (XE.At.fresh HA.out A5.out b6 (by omega));have HR6:=hid (XE.R.fresh HA.out R5.out b6 (by omega));clear o6 b6)
 refine bodyPost_ret (ret_set rfl _ O6.out rfl) rfl ?_
 rw [← HQ.out]
 refine ⟨q,rfl,HQ1.out,HQ2.out.iff fun j=>?_,H6.out,HR6.out⟩
 rw [HSX.out]
 constructor
 ·rintro ⟨i,h1,h2⟩
  exact ⟨i,h1,.plus h2⟩
 ·rintro ⟨i,h1,h2⟩
  cases h2 with
  | plus h2=>exact ⟨i,h1,h2⟩
  | other h2=>omega
end Go.Proofs.YtppjmdanckdobaaGreatDoor
