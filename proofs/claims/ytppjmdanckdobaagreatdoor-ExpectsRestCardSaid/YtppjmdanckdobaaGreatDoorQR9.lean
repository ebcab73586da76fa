/- node: where a node may end. Printed by gensnode.py. -/
import Derived.Test.YtppjmdanckdobaaGreatDoorQR8
namespace Go.Proofs.YtppjmdanckdobaaGreatDoor
open Go.RowKit
open Lib (hid)
theorem enters_sn1:Enters 130:=fun _ _=>by kernel_rfl
theorem enters_sn2:Enters 131:=fun _ _=>by kernel_rfl
def NewI (lim:Nat) (v:Value) (w:World):Prop:=∃ b,v=.pointer (some ⟨b,0,none⟩)∧lim≤b∧Owns w b [.int .i64 0] 3
theorem NewI.keep {lim:Nat} {v:Value} {w w':World} (hg:Grew w w') (h:NewI lim v w):NewI lim v w':=by
 obtain ⟨b,h1,h2,h3⟩:=h
 exact ⟨b,h1,h2,h3.keep hg⟩
theorem DerL.snoc {B:Bk} {w:List Int} {x:Nd}:∀ {l:List Nd} {i j k:Nat},DerL B w l i j→Der B w x j k→DerL B w (l++[x]) i k
 | [],_,_,_,.nil,h=>.cons h .nil
 | _::_,_,_,_,.cons h1 h2,h=>.cons h1 (DerL.snoc h2 h)
theorem DerL.unsnoc {B:Bk} {w:List Int} {x:Nd}:∀ {l:List Nd} {i k:Nat},DerL B w (l++[x]) i k→∃ j,DerL B w l i j∧Der B w x j k
 | [],i,_,.cons h .nil=>⟨i,.nil,h⟩
 | _::_,_,_,.cons h1 h2=>by
  obtain ⟨j,h3,h4⟩:=DerL.unsnoc h2
  exact ⟨j,.cons h1 h3,h4⟩
theorem VisL.snoc {B:Bk} {w:List Int} {x:Nd} {t:List Nd} {r a:Nat}:∀ {l:List Nd} {i j:Nat},DerL B w l i j→Vis B w x j r a→VisL B w (l++x::t) i r a
 | [],_,_,.nil,h=>.here h
 | _::_,_,_,.cons h1 h2,h=>.next h1 (VisL.snoc h2 h)
theorem take_snoc {l:List Nd} {j:Nat} (h:j < l.length):l.take (j+1)=l.take j++[l[j]]:=by simp
theorem take_drop_at {l:List Nd} {j:Nat} (h:j < l.length):l=l.take j++l[j]::l.drop (j+1):=by
 rw [← List.drop_eq_getElem_cons h,List.take_append_drop]
set_option maxHeartbeats 4000000 in
set_option maxRecDepth 20000 in
theorem sn_tok (E:SE) (nm tx:ByteArray) (set:List (Int × Int)) (subs:List Nd):NodeOk E (.mk 6 nm tx set subs):=by
 intro m z0 z1 W v0 v1 v2 v3 v4 hz hm hml hA hN hV
 rw [NodeAt] at hN
 obtain ⟨hk,h1,h2,h3,h4,h5,⟨sa,sc,h6,h6',h7⟩,na,nc,h8,h8',h9⟩:=hN
 obtain rfl:=Option.some.inj h3
 obtain rfl:=Option.some.inj h4
 obtain rfl:=Option.some.inj h5
 obtain rfl:=Option.some.inj h6
 obtain rfl:=Option.some.inj h8
 clear h3 h4 h5 h6 h7 h8 h1 h2 h6'
 obtain ⟨L,hL⟩:∃ L,subs.length=L:=⟨_,rfl⟩
 have HL:=hid hL
 rw [hL] at h8'
 rw [hL]
 obtain ⟨f,hf⟩:∃ f,W.heap.size=f:=⟨_,rfl⟩
 obtain ⟨w1,hw1⟩:∃ w1,W.alloc (.cells #[.pointer (some ⟨E.kw,0,none⟩)] 119)=w1:=⟨_,rfl⟩
 have g1:Grew W w1:=hw1▸grew_alloc W _
 have o1:Owns w1 f [E.ptr] 119:=hf▸hw1▸Owns.alloc W _ _
 have y1:w1.heap.size=f+1:=by rw [← hf,← hw1];exact World.size_alloc _ _
 obtain ⟨w2,hw2⟩:∃ w2,w1.alloc (.cells #[.int .u8 6,.string nm,.string tx,.slice sa set.length sc,.slice na L nc] 80)=w2:=⟨_,rfl⟩
 have g2:Grew w1 w2:=hw2▸grew_alloc w1 _
 have o2:Owns w2 (f+1) [.int .u8 6,.string nm,.string tx,.slice sa set.length sc,.slice na L nc] 80:=y1▸hw2▸Owns.alloc w1 _ _
 have y2:w2.heap.size=f+1+1:=by rw [← y1,← hw2];exact World.size_alloc _ _
 obtain ⟨w3,hw3⟩:∃ w3,w2.alloc (.cells #[.int .u64 z0,.int .u64 z1] 125)=w3:=⟨_,rfl⟩
 have g3:Grew w2 w3:=hw3▸grew_alloc w2 _
 have o3:Owns w3 (f+1+1) [.int .u64 z0,.int .u64 z1] 125:=y2▸hw3▸Owns.alloc w2 _ _
 have y3:w3.heap.size=f+1+1+1:=by rw [← y2,← hw3];exact World.size_alloc _ _
 obtain ⟨w4,hw4⟩:∃ w4,w3.alloc (.cells #[.int .u64 0,.int .u64 0] 125)=w4:=⟨_,rfl⟩
 have g4:Grew w3 w4:=hw4▸grew_alloc w3 _
 have o4:Owns w4 (f+1+1+1) [.int .u64 0,.int .u64 0] 125:=y3▸hw4▸Owns.alloc w3 _ _
 have hg:Grew W w4:=((g1.trans g2).trans g3).trans g4
 have HG:=hid hg
 have HR4:Hid (E.R W w4):=hid (SE.R.grew hg)
 have HA:=hid hA
 have hA4:=hA.keep HR4.out
 have HA4:=hid hA4
 have O1:=hid (o1.keep ((g2.trans g3).trans g4))
 have O2:=hid (o2.keep (g3.trans g4))
 have O3:=hid (o3.keep g4)
 have O4:=hid o4
 have HFS:=hid hf
 have HKB:=hid hA.kb_lt
 have H9:=hid h9
 have HV:=hid hV
 have HML:=hid hml
 have HZ:=hid hz
 have HM:=hid hm
 have H8:=hid h8'
 have c1:=O1.out.cell_at (i:=0) rfl
 unfold SE.ptr at c1
 have c1l:=O1.out.lt
 have n0:=O2.out.cell_at (i:=0) rfl
 have n1:=O2.out.cell_at (i:=1) rfl
 have n4:=O2.out.cell_at (i:=4) rfl
 have nl:=O2.out.lt
 have p0:=O3.out.cell_at (i:=0) rfl
 have p1:=O3.out.cell_at (i:=1) rfl
 have pl:=O3.out.lt
 obtain ⟨Q,hQ⟩:∃ Q,NodeRes E (From m (Der E.B E.wl (.mk 6 nm tx set subs))) W=Q:=⟨_,rfl⟩
 rw [hQ]
 have HQ:=hid hQ
 clear hA hml hz hm hV h9 hQ g1 g2 g3 g4 o1 o2 o3 o4 hg hL h8' hk
 have hb4:=HA4.out.1.book
 have k0:=HA4.out.1.box.cell_at (i:=0) rfl
 have kl:=HA4.out.1.box.lt
 have b0:=hb4.box.cell_at (i:=0) rfl
 have b1:=hb4.box.cell_at (i:=1) rfl
 have bl:=hb4.box.lt
 obtain ⟨t0,ht0⟩:∃ t0,E.B.tok nm=t0:=⟨_,rfl⟩
 have HT0:=hid ht0
 have HLK:Hid (∀ w,Grew w4 w→(Instr.lookup 26 (.map (some E.V.tm)) (.string nm) false).run Tryz.prog w=.ok (.int .i64 (t0:Int)) w):=hid fun w hw=>by
  rw [← HT0.out]
  have:=HA4.out.1.book.rlo
  exact run_name (by rw [hw.block _ (by have:=HA4.out.1.book.low;omega)];exact HA4.out.1.book.tokens) nm
 clear hb4 hA4 ht0
 unfold SE.ptr
 go_enter Tryz.func93,Tryz.ntmps93
 go_upto_region 3 with fail
 refine wp_region_hav_lit follows (by kernel_rfl) ?_
 iterate 10 ((first | refine HavG.skip (fun _=>rfl) ?_ | (refine HavG.val (fun _=>rfl) ?_ (fun x w hw _=>?_) ?_;rotate_left;(focus (have hc:=hw.cells;have hlk:=HLK.out w hw;clear hw;go_simp;first | done | rfl))));simp only [Act.put,sia,scz,scs])
 refine HavG.any (fun _=>rfl) (NewI w4.heap.size) (fun _ _ _ hg h=>h.keep hg) (fun x w hw _=>?_) ?_
 ·have HW:=hid hw
  clear hw
  go_simp
  exact ⟨grew_alloc w _,_,rfl,HW.out.size,Owns.alloc w _ _⟩
 simp only [Act.put,sia,scz,scs]
 refine HavG.tail (by kernel_rfl) (by kernel_rfl) (fun x w5 hw hd=>?_)
 obtain ⟨t,hx,ht,hot⟩:=hd _ (List.mem_append_right _ (List.mem_singleton.2 rfl))
 have y0:=hot.cell_at (i:=0) rfl
 have yl:=hot.lt
 have e0:=hot.free 0
 have hft:f+1+1+1 < t:=by have:=O4.out.lt;omega
 have hb5:=set_but (i:=0) (v:=.int .i64 (t0:Int)) hot
 have OT:=hid (show Owns _ t [.int .i64 (t0:Int)] 3 from hot.set 0 (.int .i64 (t0:Int)))
 have HR5:=hid (SE.R.fresh HA.out (HR4.out.trans (SE.R.grew hw)) hb5 (by have:=HFS.out;omega))
 have O15:=hid (hb5.owns (O1.out.keep hw) (by omega))
 have O35:=hid (hb5.owns (O3.out.keep hw) (by omega))
 have O45:=hid (hb5.owns (O4.out.keep hw) (by omega))
 have HFT:=hid hft
 clear hd hot hw hb5 ht hft c1 c1l n0 n1 n4 nl p0 p1 pl k0 kl b0 b1 bl
 simp only [hx]
 clear hx
 go_upto_region 4 with fail
 clear y0 yl e0 hf hw1 hw2 hw3 hw4 y1 y2 y3
 generalize w5.setCell ⟨t,0,none⟩ (.int .i64 (t0:Int))=w6 at *
 have HA6:=hid (HA.out.keep HR5.out)
 have HKF:=hid (show f≠E.kb∧f+1+1+1≠E.kb∧t≠E.kb by have:=HKB.out;have:=HFS.out;have:=HFT.out;omega)
 have c1:=O15.out.cell_at (i:=0) rfl
 unfold SE.ptr at c1
 have c1l:=O15.out.lt
 have p0:=O35.out.cell_at (i:=0) rfl
 have p1:=O35.out.cell_at (i:=1) rfl
 have pl:=O35.out.lt
 have HC:=hid (seach_ok E 130 #[.pointer (some ⟨f,0,none⟩),.pointer (some ⟨t,0,none⟩)] enters_sn1 m z0 z1 HZ.out HM.out HML.out (fun i j=>tokM E.wl i t0∧j=i+1) w6 HA6.out (fun i hi W1 hA1 hr1=>snode1_ok E i t0 (HML.out i hi) W1 hA1 f t (hr1.owns O15.out HKF.out.1) (hr1.owns OT.out HKF.out.2.2)))
 unfold SE.ptr at HC
 go_wp2_with fail
 refine HC.out.mono ?_
 rintro e w7 ⟨q,x0,x1,rfl,hx,hb,hr⟩
 have HX:=hid hx
 have HB:=hid hb
 clear c1 c1l p0 p1 pl HC hx hb
 have ho5:=hr.owns O45.out HKF.out.2.1
 have r0:=ho5.cell_at (i:=0) rfl
 have r1:=ho5.cell_at (i:=1) rfl
 have rl:=ho5.lt
 have e0:=ho5.free 0
 have e1:=ho5.free 1
 obtain ⟨hbt,hot⟩:=set_two ho5 (.int .u64 x0) (.int .u64 x1)
 have HOT:=hid hot
 have HRR:=hid (SE.R.fresh HA.out (HR5.out.trans hr) hbt (by have:=HFS.out;omega))
 clear ho5 hbt hot hr
 go_wp2_with fail
 refine bodyPost_ret (results_cell_row (d:=Tryz.prog.underlying 125 |>.getD default) rfl _ _ (f+1+1+1) 125 _ (0,0) rfl HOT.out rfl rfl rfl) rfl ?_
 rw [← HQ.out]
 refine ⟨_,x0,x1,rfl,HX.out,HB.out.iff fun j=>?_,HRR.out⟩
 constructor
 ·rintro ⟨i,h1,h2,rfl⟩
  exact ⟨i,h1,.tok (by rw [HT0.out];exact h2)⟩
 ·rintro ⟨i,h1,h2⟩
  cases h2 with
  | tok h=>exact ⟨i,h1,by rw [HT0.out] at h;exact h,rfl⟩
  | other hk=>omega
set_option maxHeartbeats 4000000 in
set_option maxRecDepth 20000 in
theorem sn_ref (E:SE) (nm tx:ByteArray) (set:List (Int × Int)) (subs:List Nd):NodeOk E (.mk 5 nm tx set subs):=by
 intro m z0 z1 W v0 v1 v2 v3 v4 hz hm hml hA hN hV
 rw [NodeAt] at hN
 obtain ⟨hk,h1,h2,h3,h4,h5,⟨sa,sc,h6,h6',h7⟩,na,nc,h8,h8',h9⟩:=hN
 obtain rfl:=Option.some.inj h3
 obtain rfl:=Option.some.inj h4
 obtain rfl:=Option.some.inj h5
 obtain rfl:=Option.some.inj h6
 obtain rfl:=Option.some.inj h8
 clear h3 h4 h5 h6 h7 h8 h1 h2 h6'
 obtain ⟨L,hL⟩:∃ L,subs.length=L:=⟨_,rfl⟩
 have HL:=hid hL
 rw [hL] at h8'
 rw [hL]
 obtain ⟨f,hf⟩:∃ f,W.heap.size=f:=⟨_,rfl⟩
 obtain ⟨w1,hw1⟩:∃ w1,W.alloc (.cells #[.pointer (some ⟨E.kw,0,none⟩)] 119)=w1:=⟨_,rfl⟩
 have g1:Grew W w1:=hw1▸grew_alloc W _
 have o1:Owns w1 f [E.ptr] 119:=hf▸hw1▸Owns.alloc W _ _
 have y1:w1.heap.size=f+1:=by rw [← hf,← hw1];exact World.size_alloc _ _
 obtain ⟨w2,hw2⟩:∃ w2,w1.alloc (.cells #[.int .u8 5,.string nm,.string tx,.slice sa set.length sc,.slice na L nc] 80)=w2:=⟨_,rfl⟩
 have g2:Grew w1 w2:=hw2▸grew_alloc w1 _
 have o2:Owns w2 (f+1) [.int .u8 5,.string nm,.string tx,.slice sa set.length sc,.slice na L nc] 80:=y1▸hw2▸Owns.alloc w1 _ _
 have y2:w2.heap.size=f+1+1:=by rw [← y1,← hw2];exact World.size_alloc _ _
 obtain ⟨w3,hw3⟩:∃ w3,w2.alloc (.cells #[.int .u64 z0,.int .u64 z1] 125)=w3:=⟨_,rfl⟩
 have g3:Grew w2 w3:=hw3▸grew_alloc w2 _
 have o3:Owns w3 (f+1+1) [.int .u64 z0,.int .u64 z1] 125:=y2▸hw3▸Owns.alloc w2 _ _
 have y3:w3.heap.size=f+1+1+1:=by rw [← y2,← hw3];exact World.size_alloc _ _
 obtain ⟨w4,hw4⟩:∃ w4,w3.alloc (.cells #[.int .u64 0,.int .u64 0] 125)=w4:=⟨_,rfl⟩
 have g4:Grew w3 w4:=hw4▸grew_alloc w3 _
 have o4:Owns w4 (f+1+1+1) [.int .u64 0,.int .u64 0] 125:=y3▸hw4▸Owns.alloc w3 _ _
 have hg:Grew W w4:=((g1.trans g2).trans g3).trans g4
 have HG:=hid hg
 have HR4:Hid (E.R W w4):=hid (SE.R.grew hg)
 have HA:=hid hA
 have hA4:=hA.keep HR4.out
 have HA4:=hid hA4
 have O1:=hid (o1.keep ((g2.trans g3).trans g4))
 have O2:=hid (o2.keep (g3.trans g4))
 have O3:=hid (o3.keep g4)
 have O4:=hid o4
 have HFS:=hid hf
 have HKB:=hid hA.kb_lt
 have H9:=hid h9
 have HV:=hid hV
 have HML:=hid hml
 have HZ:=hid hz
 have HM:=hid hm
 have H8:=hid h8'
 have c1:=O1.out.cell_at (i:=0) rfl
 unfold SE.ptr at c1
 have c1l:=O1.out.lt
 have n0:=O2.out.cell_at (i:=0) rfl
 have n1:=O2.out.cell_at (i:=1) rfl
 have n4:=O2.out.cell_at (i:=4) rfl
 have nl:=O2.out.lt
 have p0:=O3.out.cell_at (i:=0) rfl
 have p1:=O3.out.cell_at (i:=1) rfl
 have pl:=O3.out.lt
 obtain ⟨Q,hQ⟩:∃ Q,NodeRes E (From m (Der E.B E.wl (.mk 5 nm tx set subs))) W=Q:=⟨_,rfl⟩
 rw [hQ]
 have HQ:=hid hQ
 clear hA hml hz hm hV h9 hQ g1 g2 g3 g4 o1 o2 o3 o4 hg hL h8' hk
 have hb4:=HA4.out.1.book
 have k0:=HA4.out.1.box.cell_at (i:=0) rfl
 have kl:=HA4.out.1.box.lt
 have b0:=hb4.box.cell_at (i:=0) rfl
 have b1:=hb4.box.cell_at (i:=1) rfl
 have bl:=hb4.box.lt
 obtain ⟨t0,ht0⟩:∃ t0,E.B.rule nm=t0:=⟨_,rfl⟩
 have HT0:=hid ht0
 have HLK:Hid (∀ w,Grew w4 w→(Instr.lookup 26 (.map (some E.V.rm)) (.string nm) false).run Tryz.prog w=.ok (.int .i64 (t0:Int)) w):=hid fun w hw=>by
  rw [← HT0.out]
  have:=HA4.out.1.book.rlo
  exact run_name (by rw [hw.block _ (by have:=HA4.out.1.book.low;omega)];exact HA4.out.1.book.rules) nm
 clear hb4 hA4 ht0
 unfold SE.ptr
 go_enter Tryz.func93,Tryz.ntmps93
 go_upto_region 6 with fail
 refine wp_region_hav_lit follows (by kernel_rfl) ?_
 iterate 10 ((first | refine HavG.skip (fun _=>rfl) ?_ | (refine HavG.val (fun _=>rfl) ?_ (fun x w hw _=>?_) ?_;rotate_left;(focus (have hc:=hw.cells;have hlk:=HLK.out w hw;clear hw;go_simp;first | done | rfl))));simp only [Act.put,sia,scz,scs])
 refine HavG.any (fun _=>rfl) (NewI w4.heap.size) (fun _ _ _ hg h=>h.keep hg) (fun x w hw _=>?_) ?_
 ·have HW:=hid hw
  clear hw
  go_simp
  exact ⟨grew_alloc w _,_,rfl,HW.out.size,Owns.alloc w _ _⟩
 simp only [Act.put,sia,scz,scs]
 refine HavG.tail (by kernel_rfl) (by kernel_rfl) (fun x w5 hw hd=>?_)
 obtain ⟨t,hx,ht,hot⟩:=hd _ (List.mem_append_right _ (List.mem_singleton.2 rfl))
 have y0:=hot.cell_at (i:=0) rfl
 have yl:=hot.lt
 have e0:=hot.free 0
 have hft:f+1+1+1 < t:=by have:=O4.out.lt;omega
 have hb5:=set_but (i:=0) (v:=.int .i64 (t0:Int)) hot
 have OT:=hid (show Owns _ t [.int .i64 (t0:Int)] 3 from hot.set 0 (.int .i64 (t0:Int)))
 have HR5:=hid (SE.R.fresh HA.out (HR4.out.trans (SE.R.grew hw)) hb5 (by have:=HFS.out;omega))
 have O15:=hid (hb5.owns (O1.out.keep hw) (by omega))
 have O35:=hid (hb5.owns (O3.out.keep hw) (by omega))
 have O45:=hid (hb5.owns (O4.out.keep hw) (by omega))
 have HFT:=hid hft
 clear hd hot hw hb5 ht hft c1 c1l n0 n1 n4 nl p0 p1 pl k0 kl b0 b1 bl
 simp only [hx]
 clear hx
 go_upto_region 7 with fail
 clear y0 yl e0 hf hw1 hw2 hw3 hw4 y1 y2 y3
 generalize w5.setCell ⟨t,0,none⟩ (.int .i64 (t0:Int))=w6 at *
 have HA6:=hid (HA.out.keep HR5.out)
 have HKF:=hid (show f≠E.kb∧f+1+1+1≠E.kb∧t≠E.kb by have:=HKB.out;have:=HFS.out;have:=HFT.out;omega)
 have c1:=O15.out.cell_at (i:=0) rfl
 unfold SE.ptr at c1
 have c1l:=O15.out.lt
 have p0:=O35.out.cell_at (i:=0) rfl
 have p1:=O35.out.cell_at (i:=1) rfl
 have pl:=O35.out.lt
 have HC:=hid (seach_ok E 131 #[.pointer (some ⟨f,0,none⟩),.pointer (some ⟨t,0,none⟩)] enters_sn2 m z0 z1 HZ.out HM.out HML.out (fun i j=>BodyEnd E t0 i j) w6 HA6.out (fun i hi W1 hA1 hr1=>snode2_ok E t0 i (HV.out i t0 i hi (by rw [← HT0.out];exact .ref)) W1 hA1 f t (hr1.owns O15.out HKF.out.1) (hr1.owns OT.out HKF.out.2.2)))
 unfold SE.ptr at HC
 go_wp2_with fail
 refine HC.out.mono ?_
 rintro e w7 ⟨q,x0,x1,rfl,hx,hb,hr⟩
 have HX:=hid hx
 have HB:=hid hb
 clear c1 c1l p0 p1 pl HC hx hb
 have ho5:=hr.owns O45.out HKF.out.2.1
 have r0:=ho5.cell_at (i:=0) rfl
 have r1:=ho5.cell_at (i:=1) rfl
 have rl:=ho5.lt
 have e0:=ho5.free 0
 have e1:=ho5.free 1
 obtain ⟨hbt,hot⟩:=set_two ho5 (.int .u64 x0) (.int .u64 x1)
 have HOT:=hid hot
 have HRR:=hid (SE.R.fresh HA.out (HR5.out.trans hr) hbt (by have:=HFS.out;omega))
 clear ho5 hbt hot hr
 go_wp2_with fail
 refine bodyPost_ret (results_cell_row (d:=Tryz.prog.underlying 125 |>.getD default) rfl _ _ (f+1+1+1) 125 _ (0,0) rfl HOT.out rfl rfl rfl) rfl ?_
 rw [← HQ.out]
 refine ⟨_,x0,x1,rfl,HX.out,HB.out.iff fun j=>?_,HRR.out⟩
 constructor
 ·rintro ⟨i,h1,n,h2,h3⟩
  exact ⟨i,h1,.ref (by rw [HT0.out];exact h2) h3⟩
 ·rintro ⟨i,h1,h2⟩
  cases h2 with
  | ref h hd=>exact ⟨i,h1,_,by rw [HT0.out] at h;exact h,hd⟩
  | other hk=>omega
set_option maxHeartbeats 4000000 in
set_option maxRecDepth 20000 in
theorem sn_opt (E:SE) (nm tx:ByteArray) (set:List (Int × Int)) (subs:List Nd) (hne:subs≠[]) (hno:∀ s∈subs,NodeOk E s):NodeOk E (.mk 2 nm tx set subs):=by
 have HNO:=hid hno
 clear hno
 intro m z0 z1 W v0 v1 v2 v3 v4 hz hm hml hA hN hV
 rw [NodeAt] at hN
 obtain ⟨hk,h1,h2,h3,h4,h5,⟨sa,sc,h6,h6',h7⟩,na,nc,h8,h8',h9⟩:=hN
 obtain rfl:=Option.some.inj h3
 obtain rfl:=Option.some.inj h4
 obtain rfl:=Option.some.inj h5
 obtain rfl:=Option.some.inj h6
 obtain rfl:=Option.some.inj h8
 clear h3 h4 h5 h6 h7 h8 h1 h2 h6'
 obtain ⟨L,hL⟩:∃ L,subs.length=L:=⟨_,rfl⟩
 have HL:=hid hL
 rw [hL] at h8'
 rw [hL]
 obtain ⟨f,hf⟩:∃ f,W.heap.size=f:=⟨_,rfl⟩
 obtain ⟨w1,hw1⟩:∃ w1,W.alloc (.cells #[.pointer (some ⟨E.kw,0,none⟩)] 119)=w1:=⟨_,rfl⟩
 have g1:Grew W w1:=hw1▸grew_alloc W _
 have o1:Owns w1 f [E.ptr] 119:=hf▸hw1▸Owns.alloc W _ _
 have y1:w1.heap.size=f+1:=by rw [← hf,← hw1];exact World.size_alloc _ _
 obtain ⟨w2,hw2⟩:∃ w2,w1.alloc (.cells #[.int .u8 2,.string nm,.string tx,.slice sa set.length sc,.slice na L nc] 80)=w2:=⟨_,rfl⟩
 have g2:Grew w1 w2:=hw2▸grew_alloc w1 _
 have o2:Owns w2 (f+1) [.int .u8 2,.string nm,.string tx,.slice sa set.length sc,.slice na L nc] 80:=y1▸hw2▸Owns.alloc w1 _ _
 have y2:w2.heap.size=f+1+1:=by rw [← y1,← hw2];exact World.size_alloc _ _
 obtain ⟨w3,hw3⟩:∃ w3,w2.alloc (.cells #[.int .u64 z0,.int .u64 z1] 125)=w3:=⟨_,rfl⟩
 have g3:Grew w2 w3:=hw3▸grew_alloc w2 _
 have o3:Owns w3 (f+1+1) [.int .u64 z0,.int .u64 z1] 125:=y2▸hw3▸Owns.alloc w2 _ _
 have y3:w3.heap.size=f+1+1+1:=by rw [← y2,← hw3];exact World.size_alloc _ _
 obtain ⟨w4,hw4⟩:∃ w4,w3.alloc (.cells #[.int .u64 0,.int .u64 0] 125)=w4:=⟨_,rfl⟩
 have g4:Grew w3 w4:=hw4▸grew_alloc w3 _
 have o4:Owns w4 (f+1+1+1) [.int .u64 0,.int .u64 0] 125:=y3▸hw4▸Owns.alloc w3 _ _
 have hg:Grew W w4:=((g1.trans g2).trans g3).trans g4
 have HG:=hid hg
 have HR4:Hid (E.R W w4):=hid (SE.R.grew hg)
 have HA:=hid hA
 have hA4:=hA.keep HR4.out
 have HA4:=hid hA4
 have O1:=hid (o1.keep ((g2.trans g3).trans g4))
 have O2:=hid (o2.keep (g3.trans g4))
 have O3:=hid (o3.keep g4)
 have O4:=hid o4
 have HFS:=hid hf
 have HKB:=hid hA.kb_lt
 have H9:=hid h9
 have HV:=hid hV
 have HML:=hid hml
 have HZ:=hid hz
 have HM:=hid hm
 have H8:=hid h8'
 have c1:=O1.out.cell_at (i:=0) rfl
 unfold SE.ptr at c1
 have c1l:=O1.out.lt
 have n0:=O2.out.cell_at (i:=0) rfl
 have n1:=O2.out.cell_at (i:=1) rfl
 have n4:=O2.out.cell_at (i:=4) rfl
 have nl:=O2.out.lt
 have p0:=O3.out.cell_at (i:=0) rfl
 have p1:=O3.out.cell_at (i:=1) rfl
 have pl:=O3.out.lt
 obtain ⟨Q,hQ⟩:∃ Q,NodeRes E (From m (Der E.B E.wl (.mk 2 nm tx set subs))) W=Q:=⟨_,rfl⟩
 rw [hQ]
 have HQ:=hid hQ
 clear hA hml hz hm hV h9 hQ g1 g2 g3 g4 o1 o2 o3 o4 hg hL h8' hk
 obtain ⟨s,rest,hsub⟩:∃ s rest,subs=s::rest:=List.exists_cons_of_ne_nil hne
 have HSUB:=hid hsub
 have hL0:(0:Int) < (L:Int):=by have:=HL.out;rw [hsub] at this;simp only [List.length_cons] at this;omega
 have hL1:0 < L:=by omega
 have hnodes:=H9.out
 rw [hsub,NodesAt] at hnodes
 obtain ⟨⟨b,off,rfl,hbl,hnode⟩,-⟩:=hnodes
 simp only [Nat.zero_mul,Nat.add_zero] at hnode
 obtain ⟨u0,u1,u2,u3,u4,q0,q1,q2,q3,q4,hnode⟩:=hnode.vals
 obtain ⟨m0,m1,m2,m3,m4,m5,m6,m7,m8,rfl,rfl,rfl,rfl,rfl⟩:=hnode.forms
 have HND:=hid hnode
 have HBL:=hid (Nat.lt_of_lt_of_le hbl HA.out.1.book.low)
 have HLOW:Hid (∀ w,E.R w4 w→Below E.lim W w):=hid fun w hw=>WR.below (HR4.out.trans hw) HA.out.1.book.low HA.out.1.lo.2
 have HKF:=hid (show f≠E.kb∧f+1≠E.kb∧f+1+1≠E.kb∧f+1+1+1≠E.kb by have:=HKB.out;have:=HFS.out;omega)
 have HCS:=hid (And.intro q0 (And.intro q1 (And.intro q2 (And.intro q3 q4))))
 have HBB:=hid hbl
 have HFAC:Hid (∀ w,E.R w4 w→(f < w.heap.size∧w.cell? ⟨f,0,none⟩=some (.pointer (some ⟨E.kw,0,none⟩))∧f+1 < w.heap.size∧w.cell? ⟨f+1,4,none⟩=some (.slice (some ⟨b,off,none⟩) L nc)∧f+1+1 < w.heap.size∧w.cell? ⟨f+1+1,0,none⟩=some (.int .u64 z0)∧w.cell? ⟨f+1+1,1,none⟩=some (.int .u64 z1)) ∧
   b < w.heap.size∧w.cell? ⟨b,off,none⟩=some (.int .u8 m0)∧w.cell? ⟨b,off+1,none⟩=some (.string m1)∧w.cell? ⟨b,off+2,none⟩=some (.string m2)∧w.cell? ⟨b,off+3,none⟩=some (.slice m3 m4 m5)∧w.cell? ⟨b,off+4,none⟩=some (.slice m6 m7 m8)):=hid fun w hw=>by
  have a1:=hw.owns O1.out HKF.out.1
  have a2:=hw.owns O2.out HKF.out.2.1
  have a3:=hw.owns O3.out HKF.out.2.2.1
  have hlw:=HLOW.out w hw
  obtain ⟨s0,s1,s2,s3,s4⟩:=HCS.out
  refine ⟨⟨a1.lt,a1.cell_at (i:=0) rfl,a2.lt,a2.cell_at (i:=4) rfl,a3.lt,a3.cell_at (i:=0) rfl,a3.cell_at (i:=1) rfl⟩,Nat.lt_of_lt_of_le HBL.out hlw.size,?_⟩
  rw [hlw.cell HBB.out,hlw.cell HBB.out,hlw.cell HBB.out,hlw.cell HBB.out,hlw.cell HBB.out]
  exact ⟨s0,s1,s2,s3,s4⟩
 have HCALL:Hid (∀ w,E.R w4 w→Calls Tryz.prog 93 #[E.ptr,.agg #[.int .u8 m0,.string m1,.string m2,.slice m3 m4 m5,.slice m6 m7 m8],.agg #[.int .u64 z0,.int .u64 z1]] w (NodeRes E (From m (Der E.B E.wl s)) w)):=hid fun w hw=>by
  have hAw:=HA.out.keep (HR4.out.trans hw)
  have hNw:=HND.out.keep (HLOW.out w hw)
  exact HNO.out s (by rw [HSUB.out];exact List.mem_cons_self ..) m z0 z1 w _ _ _ _ _ HZ.out HM.out HML.out hAw hNw fun i r a hi hv=>HV.out i r a hi (by rw [HSUB.out];exact .loop (by omega) hv)
 unfold SE.ptr at HCALL
 have HM128:=hid (Bits.self HM.out).lt128
 clear hsub hnode q0 q1 q2 q3 q4 hbl hA4
 unfold SE.ptr
 go_enter Tryz.func93,Tryz.ntmps93
 go_upto_region 23 with fail
 clear hf hw1 hw2 hw3 hw4 y1 y2 y3 c1 c1l n0 n1 n4 nl p0 p1 pl
 refine wp_region_hav_litX E.rel follows (by kernel_rfl) ?_
 iterate 7 ((first | refine HavX.skip (fun _=>rfl) ?_ | (refine HavX.val E.rel (fun _=>rfl) ?_ (fun x w hw _=>?_) ?_;rotate_left;(focus (obtain ⟨⟨y0,y1,y2,y3,y4,y5,y6⟩,y7,y8,y9,y10,y11,y12⟩:=HFAC.out w hw;clear hw;go_simp;first | done | rfl))));simp only [Act.put,sia,scz,scs])
 refine HavX.any (fun _=>rfl) (fun _ v _=>∃ q x0 x1,v=.agg #[.int .u64 x0,.int .u64 x1]∧W2 q x0 x1∧Bits q (From m (Der E.B E.wl s))) (fun _ _ _ _ _ h=>h) (fun _ _ _ _ _ h=>h) (fun x w hw hd=>?_) ?_
 ·clear hd
  have HW9:=hid hw
  clear hw
  go_simp
  refine (HCALL.out w HW9.out).mono ?_
  rintro e w' ⟨q,x0,x1,rfl,hx,hb,hr⟩
  exact ⟨hr,q,x0,x1,rfl,hx,hb⟩
 simp only [Act.put,sia,scz,scs]
 refine HavX.any (fun _=>rfl) (fun _ v _=>∃ q y0 y1,v=.agg #[.int .u64 y0,.int .u64 y1]∧W2 q y0 y1∧Bits q (fun j=>m.testBit j=true∨From m (Der E.B E.wl s) j)) (fun _ _ _ _ _ h=>h) (fun _ _ _ _ _ h=>h) (fun x w hw hd=>?_) ?_
 ·obtain ⟨q,x0,x1,hq',hy',hb'⟩:=hd _ (List.mem_append_right _ (List.mem_singleton.2 rfl)) (by kernel_rfl)
  dsimp only at hq'
  have HB':=hid hb'
  have HY':=hid hy'
  clear hd hb' hw hy'
  simp only [hq']
  go_simp
  refine (swith2 HM128.out HB'.out.lt128 HZ.out HY'.out w).mono ?_
  rintro e w' ⟨⟨y0,y1,rfl,hx⟩,hg⟩
  exact ⟨SE.R.grew hg,_,y0,y1,rfl,hx,(Bits.self HM.out).or HB'.out⟩
 simp only [Act.put,sia,scz,scs]
 refine HavX.tail (by kernel_rfl) (by kernel_rfl) (fun x w hw hd=>?_)
 obtain ⟨q,x0,x1,hq',hy',hb'⟩:=hd _ (List.mem_append_right _ (List.mem_singleton.2 rfl))
 dsimp only at hq'
 have HB:=hid hb'
 have HX:=hid hy'
 clear hd hb' hy'
 simp only [hq']
 clear hq'
 have ho5:=hw.owns O4.out HKF.out.2.2.2
 have r0:=ho5.cell_at (i:=0) rfl
 have r1:=ho5.cell_at (i:=1) rfl
 have rl:=ho5.lt
 have e0:=ho5.free 0
 have e1:=ho5.free 1
 obtain ⟨hbt,hot⟩:=set_two ho5 (.int .u64 x0) (.int .u64 x1)
 have HOT:=hid hot
 have HRR:=hid (SE.R.fresh HA.out (HR4.out.trans hw) hbt (by have:=HFS.out;omega))
 clear ho5 hbt hot hw
 go_wp2_with fail
 refine bodyPost_ret (results_cell_row (d:=Tryz.prog.underlying 125 |>.getD default) rfl _ _ (f+1+1+1) 125 _ (0,0) rfl HOT.out rfl rfl rfl) rfl ?_
 rw [← HQ.out]
 refine ⟨_,x0,x1,rfl,HX.out,HB.out.iff fun j=>?_,HRR.out⟩
 rw [HSUB.out]
 constructor
 ·rintro (h | ⟨i,h1,h2⟩)
  ·exact ⟨j,h,.opt0⟩
  ·exact ⟨i,h1,.opt h2⟩
 ·rintro ⟨i,h1,h2⟩
  cases h2 with
  | opt0=>exact .inl h1
  | opt h=>exact .inr ⟨i,h1,h⟩
  | other hk=>omega
set_option maxHeartbeats 4000000 in
set_option maxRecDepth 20000 in
theorem sn_star (E:SE) (nm tx:ByteArray) (set:List (Int × Int)) (subs:List Nd) (hne:subs≠[]) (hno:∀ s∈subs,NodeOk E s):NodeOk E (.mk 3 nm tx set subs):=by
 have HNO:=hid hno
 clear hno
 intro m z0 z1 W v0 v1 v2 v3 v4 hz hm hml hA hN hV
 rw [NodeAt] at hN
 obtain ⟨hk,h1,h2,h3,h4,h5,⟨sa,sc,h6,h6',h7⟩,na,nc,h8,h8',h9⟩:=hN
 obtain rfl:=Option.some.inj h3
 obtain rfl:=Option.some.inj h4
 obtain rfl:=Option.some.inj h5
 obtain rfl:=Option.some.inj h6
 obtain rfl:=Option.some.inj h8
 clear h3 h4 h5 h6 h7 h8 h1 h2 h6'
 obtain ⟨L,hL⟩:∃ L,subs.length=L:=⟨_,rfl⟩
 have HL:=hid hL
 rw [hL] at h8'
 rw [hL]
 obtain ⟨f,hf⟩:∃ f,W.heap.size=f:=⟨_,rfl⟩
 obtain ⟨w1,hw1⟩:∃ w1,W.alloc (.cells #[.pointer (some ⟨E.kw,0,none⟩)] 119)=w1:=⟨_,rfl⟩
 have g1:Grew W w1:=hw1▸grew_alloc W _
 have o1:Owns w1 f [E.ptr] 119:=hf▸hw1▸Owns.alloc W _ _
 have y1:w1.heap.size=f+1:=by rw [← hf,← hw1];exact World.size_alloc _ _
 obtain ⟨w2,hw2⟩:∃ w2,w1.alloc (.cells #[.int .u8 3,.string nm,.string tx,.slice sa set.length sc,.slice na L nc] 80)=w2:=⟨_,rfl⟩
 have g2:Grew w1 w2:=hw2▸grew_alloc w1 _
 have o2:Owns w2 (f+1) [.int .u8 3,.string nm,.string tx,.slice sa set.length sc,.slice na L nc] 80:=y1▸hw2▸Owns.alloc w1 _ _
 have y2:w2.heap.size=f+1+1:=by rw [← y1,← hw2];exact World.size_alloc _ _
 obtain ⟨w3,hw3⟩:∃ w3,w2.alloc (.cells #[.int .u64 z0,.int .u64 z1] 125)=w3:=⟨_,rfl⟩
 have g3:Grew w2 w3:=hw3▸grew_alloc w2 _
 have o3:Owns w3 (f+1+1) [.int .u64 z0,.int .u64 z1] 125:=y2▸hw3▸Owns.alloc w2 _ _
 have y3:w3.heap.size=f+1+1+1:=by rw [← y2,← hw3];exact World.size_alloc _ _
 obtain ⟨w4,hw4⟩:∃ w4,w3.alloc (.cells #[.int .u64 0,.int .u64 0] 125)=w4:=⟨_,rfl⟩
 have g4:Grew w3 w4:=hw4▸grew_alloc w3 _
 have o4:Owns w4 (f+1+1+1) [.int .u64 0,.int .u64 0] 125:=y3▸hw4▸Owns.alloc w3 _ _
 have hg:Grew W w4:=((g1.trans g2).trans g3).trans g4
 have HG:=hid hg
 have HR4:Hid (E.R W w4):=hid (SE.R.grew hg)
 have HA:=hid hA
 have hA4:=hA.keep HR4.out
 have HA4:=hid hA4
 have O1:=hid (o1.keep ((g2.trans g3).trans g4))
 have O2:=hid (o2.keep (g3.trans g4))
 have O3:=hid (o3.keep g4)
 have O4:=hid o4
 have HFS:=hid hf
 have HKB:=hid hA.kb_lt
 have H9:=hid h9
 have HV:=hid hV
 have HML:=hid hml
 have HZ:=hid hz
 have HM:=hid hm
 have H8:=hid h8'
 have c1:=O1.out.cell_at (i:=0) rfl
 unfold SE.ptr at c1
 have c1l:=O1.out.lt
 have n0:=O2.out.cell_at (i:=0) rfl
 have n1:=O2.out.cell_at (i:=1) rfl
 have n4:=O2.out.cell_at (i:=4) rfl
 have nl:=O2.out.lt
 have p0:=O3.out.cell_at (i:=0) rfl
 have p1:=O3.out.cell_at (i:=1) rfl
 have pl:=O3.out.lt
 obtain ⟨Q,hQ⟩:∃ Q,NodeRes E (From m (Der E.B E.wl (.mk 3 nm tx set subs))) W=Q:=⟨_,rfl⟩
 rw [hQ]
 have HQ:=hid hQ
 clear hA hml hz hm hV h9 hQ g1 g2 g3 g4 o1 o2 o3 o4 hg hL h8' hk
 obtain ⟨s,rest,hsub⟩:∃ s rest,subs=s::rest:=List.exists_cons_of_ne_nil hne
 have HSUB:=hid hsub
 have hL0:(0:Int) < (L:Int):=by have:=HL.out;rw [hsub] at this;simp only [List.length_cons] at this;omega
 have hL1:0 < L:=by omega
 have hnodes:=H9.out
 rw [hsub,NodesAt] at hnodes
 obtain ⟨⟨b,off,rfl,hbl,hnode⟩,-⟩:=hnodes
 simp only [Nat.zero_mul,Nat.add_zero] at hnode
 obtain ⟨u0,u1,u2,u3,u4,q0,q1,q2,q3,q4,hnode⟩:=hnode.vals
 obtain ⟨m0,m1,m2,m3,m4,m5,m6,m7,m8,rfl,rfl,rfl,rfl,rfl⟩:=hnode.forms
 have HND:=hid hnode
 have HBL:=hid (Nat.lt_of_lt_of_le hbl HA.out.1.book.low)
 have HLOW:Hid (∀ w,E.R w4 w→Below E.lim W w):=hid fun w hw=>WR.below (HR4.out.trans hw) HA.out.1.book.low HA.out.1.lo.2
 have HKF:=hid (show f≠E.kb∧f+1≠E.kb∧f+1+1≠E.kb∧f+1+1+1≠E.kb by have:=HKB.out;have:=HFS.out;omega)
 have HCS:=hid (And.intro q0 (And.intro q1 (And.intro q2 (And.intro q3 q4))))
 have HBB:=hid hbl
 have HFAC:Hid (∀ w,E.R w4 w→(f < w.heap.size∧w.cell? ⟨f,0,none⟩=some (.pointer (some ⟨E.kw,0,none⟩))∧f+1 < w.heap.size∧w.cell? ⟨f+1,4,none⟩=some (.slice (some ⟨b,off,none⟩) L nc)∧f+1+1 < w.heap.size∧w.cell? ⟨f+1+1,0,none⟩=some (.int .u64 z0)∧w.cell? ⟨f+1+1,1,none⟩=some (.int .u64 z1)) ∧
   b < w.heap.size∧w.cell? ⟨b,off,none⟩=some (.int .u8 m0)∧w.cell? ⟨b,off+1,none⟩=some (.string m1)∧w.cell? ⟨b,off+2,none⟩=some (.string m2)∧w.cell? ⟨b,off+3,none⟩=some (.slice m3 m4 m5)∧w.cell? ⟨b,off+4,none⟩=some (.slice m6 m7 m8)):=hid fun w hw=>by
  have a1:=hw.owns O1.out HKF.out.1
  have a2:=hw.owns O2.out HKF.out.2.1
  have a3:=hw.owns O3.out HKF.out.2.2.1
  have hlw:=HLOW.out w hw
  obtain ⟨s0,s1,s2,s3,s4⟩:=HCS.out
  refine ⟨⟨a1.lt,a1.cell_at (i:=0) rfl,a2.lt,a2.cell_at (i:=4) rfl,a3.lt,a3.cell_at (i:=0) rfl,a3.cell_at (i:=1) rfl⟩,Nat.lt_of_lt_of_le HBL.out hlw.size,?_⟩
  rw [hlw.cell HBB.out,hlw.cell HBB.out,hlw.cell HBB.out,hlw.cell HBB.out,hlw.cell HBB.out]
  exact ⟨s0,s1,s2,s3,s4⟩
 have HCALL:Hid (∀ w,E.R w4 w→Calls Tryz.prog 133 #[E.ptr,.agg #[.int .u8 m0,.string m1,.string m2,.slice m3 m4 m5,.slice m6 m7 m8],.agg #[.int .u64 z0,.int .u64 z1]] w (NodeRes E (From m (DerP E.B E.wl s)) w)):=hid fun w hw=>by
  have hAw:=HA.out.keep (HR4.out.trans hw)
  have hNw:=HND.out.keep (HLOW.out w hw)
  exact sagain_ok E s (HNO.out s (by rw [HSUB.out];exact List.mem_cons_self ..)) m z0 z1 w _ _ _ _ _ HZ.out HM.out HML.out hAw hNw (fun i r a hi hv=>HV.out i r a hi (by rw [HSUB.out];exact .loop (by omega) hv)) fun i j r a hi hd hv=>HV.out i r a hi (by rw [HSUB.out];exact .again (by omega) hd hv)
 unfold SE.ptr at HCALL
 have HM128:=hid (Bits.self HM.out).lt128
 clear hsub hnode q0 q1 q2 q3 q4 hbl hA4
 unfold SE.ptr
 go_enter Tryz.func93,Tryz.ntmps93
 go_upto_region 25 with fail
 clear hf hw1 hw2 hw3 hw4 y1 y2 y3 c1 c1l n0 n1 n4 nl p0 p1 pl
 refine wp_region_hav_litX E.rel follows (by kernel_rfl) ?_
 iterate 7 ((first | refine HavX.skip (fun _=>rfl) ?_ | (refine HavX.val E.rel (fun _=>rfl) ?_ (fun x w hw _=>?_) ?_;rotate_left;(focus (obtain ⟨⟨y0,y1,y2,y3,y4,y5,y6⟩,y7,y8,y9,y10,y11,y12⟩:=HFAC.out w hw;clear hw;go_simp;first | done | rfl))));simp only [Act.put,sia,scz,scs])
 refine HavX.any (fun _=>rfl) (fun _ v _=>∃ q x0 x1,v=.agg #[.int .u64 x0,.int .u64 x1]∧W2 q x0 x1∧Bits q (From m (DerP E.B E.wl s))) (fun _ _ _ _ _ h=>h) (fun _ _ _ _ _ h=>h) (fun x w hw hd=>?_) ?_
 ·clear hd
  have HW9:=hid hw
  clear hw
  go_simp
  refine (HCALL.out w HW9.out).mono ?_
  rintro e w' ⟨q,x0,x1,rfl,hx,hb,hr⟩
  exact ⟨hr,q,x0,x1,rfl,hx,hb⟩
 simp only [Act.put,sia,scz,scs]
 refine HavX.any (fun _=>rfl) (fun _ v _=>∃ q y0 y1,v=.agg #[.int .u64 y0,.int .u64 y1]∧W2 q y0 y1∧Bits q (fun j=>m.testBit j=true∨From m (DerP E.B E.wl s) j)) (fun _ _ _ _ _ h=>h) (fun _ _ _ _ _ h=>h) (fun x w hw hd=>?_) ?_
 ·obtain ⟨q,x0,x1,hq',hy',hb'⟩:=hd _ (List.mem_append_right _ (List.mem_singleton.2 rfl)) (by kernel_rfl)
  dsimp only at hq'
  have HB':=hid hb'
  have HY':=hid hy'
  clear hd hb' hw hy'
  simp only [hq']
  go_simp
  refine (swith2 HM128.out HB'.out.lt128 HZ.out HY'.out w).mono ?_
  rintro e w' ⟨⟨y0,y1,rfl,hx⟩,hg⟩
  exact ⟨SE.R.grew hg,_,y0,y1,rfl,hx,(Bits.self HM.out).or HB'.out⟩
 simp only [Act.put,sia,scz,scs]
 refine HavX.tail (by kernel_rfl) (by kernel_rfl) (fun x w hw hd=>?_)
 obtain ⟨q,x0,x1,hq',hy',hb'⟩:=hd _ (List.mem_append_right _ (List.mem_singleton.2 rfl))
 dsimp only at hq'
 have HB:=hid hb'
 have HX:=hid hy'
 clear hd hb' hy'
 simp only [hq']
 clear hq'
 have ho5:=hw.owns O4.out HKF.out.2.2.2
 have r0:=ho5.cell_at (i:=0) rfl
 have r1:=ho5.cell_at (i:=1) rfl
 have rl:=ho5.lt
 have e0:=ho5.free 0
 have e1:=ho5.free 1
 obtain ⟨hbt,hot⟩:=set_two ho5 (.int .u64 x0) (.int .u64 x1)
 have HOT:=hid hot
 have HRR:=hid (SE.R.fresh HA.out (HR4.out.trans hw) hbt (by have:=HFS.out;omega))
 clear ho5 hbt hot hw
 go_wp2_with fail
 refine bodyPost_ret (results_cell_row (d:=Tryz.prog.underlying 125 |>.getD default) rfl _ _ (f+1+1+1) 125 _ (0,0) rfl HOT.out rfl rfl rfl) rfl ?_
 rw [← HQ.out]
 refine ⟨_,x0,x1,rfl,HX.out,HB.out.iff fun j=>?_,HRR.out⟩
 rw [HSUB.out]
 constructor
 ·rintro (h | ⟨i,h1,h2⟩)
  ·exact ⟨j,h,.star0⟩
  ·exact ⟨i,h1,.star h2⟩
 ·rintro ⟨i,h1,h2⟩
  cases h2 with
  | star0=>exact .inl h1
  | star h=>exact .inr ⟨i,h1,h⟩
  | other hk=>omega
set_option maxHeartbeats 4000000 in
set_option maxRecDepth 20000 in
theorem sn_plus (E:SE) (nm tx:ByteArray) (set:List (Int × Int)) (subs:List Nd) (hne:subs≠[]) (hno:∀ s∈subs,NodeOk E s):NodeOk E (.mk 4 nm tx set subs):=by
 have HNO:=hid hno
 clear hno
 intro m z0 z1 W v0 v1 v2 v3 v4 hz hm hml hA hN hV
 rw [NodeAt] at hN
 obtain ⟨hk,h1,h2,h3,h4,h5,⟨sa,sc,h6,h6',h7⟩,na,nc,h8,h8',h9⟩:=hN
 obtain rfl:=Option.some.inj h3
 obtain rfl:=Option.some.inj h4
 obtain rfl:=Option.some.inj h5
 obtain rfl:=Option.some.inj h6
 obtain rfl:=Option.some.inj h8
 clear h3 h4 h5 h6 h7 h8 h1 h2 h6'
 obtain ⟨L,hL⟩:∃ L,subs.length=L:=⟨_,rfl⟩
 have HL:=hid hL
 rw [hL] at h8'
 rw [hL]
 obtain ⟨f,hf⟩:∃ f,W.heap.size=f:=⟨_,rfl⟩
 obtain ⟨w1,hw1⟩:∃ w1,W.alloc (.cells #[.pointer (some ⟨E.kw,0,none⟩)] 119)=w1:=⟨_,rfl⟩
 have g1:Grew W w1:=hw1▸grew_alloc W _
 have o1:Owns w1 f [E.ptr] 119:=hf▸hw1▸Owns.alloc W _ _
 have y1:w1.heap.size=f+1:=by rw [← hf,← hw1];exact World.size_alloc _ _
 obtain ⟨w2,hw2⟩:∃ w2,w1.alloc (.cells #[.int .u8 4,.string nm,.string tx,.slice sa set.length sc,.slice na L nc] 80)=w2:=⟨_,rfl⟩
 have g2:Grew w1 w2:=hw2▸grew_alloc w1 _
 have o2:Owns w2 (f+1) [.int .u8 4,.string nm,.string tx,.slice sa set.length sc,.slice na L nc] 80:=y1▸hw2▸Owns.alloc w1 _ _
 have y2:w2.heap.size=f+1+1:=by rw [← y1,← hw2];exact World.size_alloc _ _
 obtain ⟨w3,hw3⟩:∃ w3,w2.alloc (.cells #[.int .u64 z0,.int .u64 z1] 125)=w3:=⟨_,rfl⟩
 have g3:Grew w2 w3:=hw3▸grew_alloc w2 _
 have o3:Owns w3 (f+1+1) [.int .u64 z0,.int .u64 z1] 125:=y2▸hw3▸Owns.alloc w2 _ _
 have y3:w3.heap.size=f+1+1+1:=by rw [← y2,← hw3];exact World.size_alloc _ _
 obtain ⟨w4,hw4⟩:∃ w4,w3.alloc (.cells #[.int .u64 0,.int .u64 0] 125)=w4:=⟨_,rfl⟩
 have g4:Grew w3 w4:=hw4▸grew_alloc w3 _
 have o4:Owns w4 (f+1+1+1) [.int .u64 0,.int .u64 0] 125:=y3▸hw4▸Owns.alloc w3 _ _
 have hg:Grew W w4:=((g1.trans g2).trans g3).trans g4
 have HG:=hid hg
 have HR4:Hid (E.R W w4):=hid (SE.R.grew hg)
 have HA:=hid hA
 have hA4:=hA.keep HR4.out
 have HA4:=hid hA4
 have O1:=hid (o1.keep ((g2.trans g3).trans g4))
 have O2:=hid (o2.keep (g3.trans g4))
 have O3:=hid (o3.keep g4)
 have O4:=hid o4
 have HFS:=hid hf
 have HKB:=hid hA.kb_lt
 have H9:=hid h9
 have HV:=hid hV
 have HML:=hid hml
 have HZ:=hid hz
 have HM:=hid hm
 have H8:=hid h8'
 have c1:=O1.out.cell_at (i:=0) rfl
 unfold SE.ptr at c1
 have c1l:=O1.out.lt
 have n0:=O2.out.cell_at (i:=0) rfl
 have n1:=O2.out.cell_at (i:=1) rfl
 have n4:=O2.out.cell_at (i:=4) rfl
 have nl:=O2.out.lt
 have p0:=O3.out.cell_at (i:=0) rfl
 have p1:=O3.out.cell_at (i:=1) rfl
 have pl:=O3.out.lt
 obtain ⟨Q,hQ⟩:∃ Q,NodeRes E (From m (Der E.B E.wl (.mk 4 nm tx set subs))) W=Q:=⟨_,rfl⟩
 rw [hQ]
 have HQ:=hid hQ
 clear hA hml hz hm hV h9 hQ g1 g2 g3 g4 o1 o2 o3 o4 hg hL h8' hk
 obtain ⟨s,rest,hsub⟩:∃ s rest,subs=s::rest:=List.exists_cons_of_ne_nil hne
 have HSUB:=hid hsub
 have hL0:(0:Int) < (L:Int):=by have:=HL.out;rw [hsub] at this;simp only [List.length_cons] at this;omega
 have hL1:0 < L:=by omega
 have hnodes:=H9.out
 rw [hsub,NodesAt] at hnodes
 obtain ⟨⟨b,off,rfl,hbl,hnode⟩,-⟩:=hnodes
 simp only [Nat.zero_mul,Nat.add_zero] at hnode
 obtain ⟨u0,u1,u2,u3,u4,q0,q1,q2,q3,q4,hnode⟩:=hnode.vals
 obtain ⟨m0,m1,m2,m3,m4,m5,m6,m7,m8,rfl,rfl,rfl,rfl,rfl⟩:=hnode.forms
 have HND:=hid hnode
 have HBL:=hid (Nat.lt_of_lt_of_le hbl HA.out.1.book.low)
 have HLOW:Hid (∀ w,E.R w4 w→Below E.lim W w):=hid fun w hw=>WR.below (HR4.out.trans hw) HA.out.1.book.low HA.out.1.lo.2
 have HKF:=hid (show f≠E.kb∧f+1≠E.kb∧f+1+1≠E.kb∧f+1+1+1≠E.kb by have:=HKB.out;have:=HFS.out;omega)
 have HCS:=hid (And.intro q0 (And.intro q1 (And.intro q2 (And.intro q3 q4))))
 have HBB:=hid hbl
 have HFAC:Hid (∀ w,E.R w4 w→(f < w.heap.size∧w.cell? ⟨f,0,none⟩=some (.pointer (some ⟨E.kw,0,none⟩))∧f+1 < w.heap.size∧w.cell? ⟨f+1,4,none⟩=some (.slice (some ⟨b,off,none⟩) L nc)∧f+1+1 < w.heap.size∧w.cell? ⟨f+1+1,0,none⟩=some (.int .u64 z0)∧w.cell? ⟨f+1+1,1,none⟩=some (.int .u64 z1)) ∧
   b < w.heap.size∧w.cell? ⟨b,off,none⟩=some (.int .u8 m0)∧w.cell? ⟨b,off+1,none⟩=some (.string m1)∧w.cell? ⟨b,off+2,none⟩=some (.string m2)∧w.cell? ⟨b,off+3,none⟩=some (.slice m3 m4 m5)∧w.cell? ⟨b,off+4,none⟩=some (.slice m6 m7 m8)):=hid fun w hw=>by
  have a1:=hw.owns O1.out HKF.out.1
  have a2:=hw.owns O2.out HKF.out.2.1
  have a3:=hw.owns O3.out HKF.out.2.2.1
  have hlw:=HLOW.out w hw
  obtain ⟨s0,s1,s2,s3,s4⟩:=HCS.out
  refine ⟨⟨a1.lt,a1.cell_at (i:=0) rfl,a2.lt,a2.cell_at (i:=4) rfl,a3.lt,a3.cell_at (i:=0) rfl,a3.cell_at (i:=1) rfl⟩,Nat.lt_of_lt_of_le HBL.out hlw.size,?_⟩
  rw [hlw.cell HBB.out,hlw.cell HBB.out,hlw.cell HBB.out,hlw.cell HBB.out,hlw.cell HBB.out]
  exact ⟨s0,s1,s2,s3,s4⟩
 have HCALL:Hid (∀ w,E.R w4 w→Calls Tryz.prog 133 #[E.ptr,.agg #[.int .u8 m0,.string m1,.string m2,.slice m3 m4 m5,.slice m6 m7 m8],.agg #[.int .u64 z0,.int .u64 z1]] w (NodeRes E (From m (DerP E.B E.wl s)) w)):=hid fun w hw=>by
  have hAw:=HA.out.keep (HR4.out.trans hw)
  have hNw:=HND.out.keep (HLOW.out w hw)
  exact sagain_ok E s (HNO.out s (by rw [HSUB.out];exact List.mem_cons_self ..)) m z0 z1 w _ _ _ _ _ HZ.out HM.out HML.out hAw hNw (fun i r a hi hv=>HV.out i r a hi (by rw [HSUB.out];exact .loop (by omega) hv)) fun i j r a hi hd hv=>HV.out i r a hi (by rw [HSUB.out];exact .again (by omega) hd hv)
 unfold SE.ptr at HCALL
 have HM128:=hid (Bits.self HM.out).lt128
 clear hsub hnode q0 q1 q2 q3 q4 hbl hA4
 unfold SE.ptr
 go_enter Tryz.func93,Tryz.ntmps93
 go_upto_region 27 with fail
 clear hf hw1 hw2 hw3 hw4 y1 y2 y3 c1 c1l n0 n1 n4 nl p0 p1 pl
 refine wp_region_hav_litX E.rel follows (by kernel_rfl) ?_
 iterate 6 ((first | refine HavX.skip (fun _=>rfl) ?_ | (refine HavX.val E.rel (fun _=>rfl) ?_ (fun x w hw _=>?_) ?_;rotate_left;(focus (obtain ⟨⟨y0,y1,y2,y3,y4,y5,y6⟩,y7,y8,y9,y10,y11,y12⟩:=HFAC.out w hw;clear hw;go_simp;first | done | rfl))));simp only [Act.put,sia,scz,scs])
 refine HavX.any (fun _=>rfl) (fun _ v _=>∃ q x0 x1,v=.agg #[.int .u64 x0,.int .u64 x1]∧W2 q x0 x1∧Bits q (From m (DerP E.B E.wl s))) (fun _ _ _ _ _ h=>h) (fun _ _ _ _ _ h=>h) (fun x w hw hd=>?_) ?_
 ·clear hd
  have HW9:=hid hw
  clear hw
  go_simp
  refine (HCALL.out w HW9.out).mono ?_
  rintro e w' ⟨q,x0,x1,rfl,hx,hb,hr⟩
  exact ⟨hr,q,x0,x1,rfl,hx,hb⟩
 simp only [Act.put,sia,scz,scs]
 refine HavX.tail (by kernel_rfl) (by kernel_rfl) (fun x w hw hd=>?_)
 obtain ⟨q,x0,x1,hq',hy',hb'⟩:=hd _ (List.mem_append_right _ (List.mem_singleton.2 rfl))
 dsimp only at hq'
 have HB:=hid hb'
 have HX:=hid hy'
 clear hd hb' hy'
 simp only [hq']
 clear hq'
 have ho5:=hw.owns O4.out HKF.out.2.2.2
 have r0:=ho5.cell_at (i:=0) rfl
 have r1:=ho5.cell_at (i:=1) rfl
 have rl:=ho5.lt
 have e0:=ho5.free 0
 have e1:=ho5.free 1
 obtain ⟨hbt,hot⟩:=set_two ho5 (.int .u64 x0) (.int .u64 x1)
 have HOT:=hid hot
 have HRR:=hid (SE.R.fresh HA.out (HR4.out.trans hw) hbt (by have:=HFS.out;omega))
 clear ho5 hbt hot hw
 go_wp2_with fail
 refine bodyPost_ret (results_cell_row (d:=Tryz.prog.underlying 125 |>.getD default) rfl _ _ (f+1+1+1) 125 _ (0,0) rfl HOT.out rfl rfl rfl) rfl ?_
 rw [← HQ.out]
 refine ⟨_,x0,x1,rfl,HX.out,HB.out.iff fun j=>?_,HRR.out⟩
 rw [HSUB.out]
 constructor
 ·rintro ⟨i,h1,h2⟩
  exact ⟨i,h1,.plus h2⟩
 ·rintro ⟨i,h1,h2⟩
  cases h2 with
  | plus h=>exact ⟨i,h1,h⟩
  | other hk=>omega
set_option maxHeartbeats 4000000 in
set_option maxRecDepth 20000 in
theorem sn_other (E:SE) (k:Int) (nm tx:ByteArray) (set:List (Int × Int)) (subs:List Nd) (hko:k < 0∨6 < k):NodeOk E (.mk k nm tx set subs):=by
 intro m z0 z1 W v0 v1 v2 v3 v4 hz hm hml hA hN hV
 rw [NodeAt] at hN
 obtain ⟨hk,h1,h2,h3,h4,h5,⟨sa,sc,h6,h6',h7⟩,na,nc,h8,h8',h9⟩:=hN
 obtain rfl:=Option.some.inj h3
 obtain rfl:=Option.some.inj h4
 obtain rfl:=Option.some.inj h5
 obtain rfl:=Option.some.inj h6
 obtain rfl:=Option.some.inj h8
 clear h3 h4 h5 h6 h7 h8 h1 h2 h6'
 obtain ⟨L,hL⟩:∃ L,subs.length=L:=⟨_,rfl⟩
 have HL:=hid hL
 rw [hL] at h8'
 rw [hL]
 obtain ⟨f,hf⟩:∃ f,W.heap.size=f:=⟨_,rfl⟩
 obtain ⟨w1,hw1⟩:∃ w1,W.alloc (.cells #[.pointer (some ⟨E.kw,0,none⟩)] 119)=w1:=⟨_,rfl⟩
 have g1:Grew W w1:=hw1▸grew_alloc W _
 have o1:Owns w1 f [E.ptr] 119:=hf▸hw1▸Owns.alloc W _ _
 have y1:w1.heap.size=f+1:=by rw [← hf,← hw1];exact World.size_alloc _ _
 obtain ⟨w2,hw2⟩:∃ w2,w1.alloc (.cells #[.int .u8 k,.string nm,.string tx,.slice sa set.length sc,.slice na L nc] 80)=w2:=⟨_,rfl⟩
 have g2:Grew w1 w2:=hw2▸grew_alloc w1 _
 have o2:Owns w2 (f+1) [.int .u8 k,.string nm,.string tx,.slice sa set.length sc,.slice na L nc] 80:=y1▸hw2▸Owns.alloc w1 _ _
 have y2:w2.heap.size=f+1+1:=by rw [← y1,← hw2];exact World.size_alloc _ _
 obtain ⟨w3,hw3⟩:∃ w3,w2.alloc (.cells #[.int .u64 z0,.int .u64 z1] 125)=w3:=⟨_,rfl⟩
 have g3:Grew w2 w3:=hw3▸grew_alloc w2 _
 have o3:Owns w3 (f+1+1) [.int .u64 z0,.int .u64 z1] 125:=y2▸hw3▸Owns.alloc w2 _ _
 have y3:w3.heap.size=f+1+1+1:=by rw [← y2,← hw3];exact World.size_alloc _ _
 obtain ⟨w4,hw4⟩:∃ w4,w3.alloc (.cells #[.int .u64 0,.int .u64 0] 125)=w4:=⟨_,rfl⟩
 have g4:Grew w3 w4:=hw4▸grew_alloc w3 _
 have o4:Owns w4 (f+1+1+1) [.int .u64 0,.int .u64 0] 125:=y3▸hw4▸Owns.alloc w3 _ _
 have hg:Grew W w4:=((g1.trans g2).trans g3).trans g4
 have HG:=hid hg
 have HR4:Hid (E.R W w4):=hid (SE.R.grew hg)
 have HA:=hid hA
 have hA4:=hA.keep HR4.out
 have HA4:=hid hA4
 have O1:=hid (o1.keep ((g2.trans g3).trans g4))
 have O2:=hid (o2.keep (g3.trans g4))
 have O3:=hid (o3.keep g4)
 have O4:=hid o4
 have HFS:=hid hf
 have HKB:=hid hA.kb_lt
 have H9:=hid h9
 have HV:=hid hV
 have HML:=hid hml
 have HZ:=hid hz
 have HM:=hid hm
 have H8:=hid h8'
 have c1:=O1.out.cell_at (i:=0) rfl
 unfold SE.ptr at c1
 have c1l:=O1.out.lt
 have n0:=O2.out.cell_at (i:=0) rfl
 have n1:=O2.out.cell_at (i:=1) rfl
 have n4:=O2.out.cell_at (i:=4) rfl
 have nl:=O2.out.lt
 have p0:=O3.out.cell_at (i:=0) rfl
 have p1:=O3.out.cell_at (i:=1) rfl
 have pl:=O3.out.lt
 obtain ⟨Q,hQ⟩:∃ Q,NodeRes E (From m (Der E.B E.wl (.mk k nm tx set subs))) W=Q:=⟨_,rfl⟩
 rw [hQ]
 have HQ:=hid hQ
 clear hA hml hz hm hV h9 hQ g1 g2 g3 g4 o1 o2 o3 o4 hg hL h8' hk
 have q6:(k == 6)=false:=beq_eq_false_iff_ne.2 (by omega)
 have q5:(k == 5)=false:=beq_eq_false_iff_ne.2 (by omega)
 have q4:(k == 4)=false:=beq_eq_false_iff_ne.2 (by omega)
 have q3:(k == 3)=false:=beq_eq_false_iff_ne.2 (by omega)
 have q2:(k == 2)=false:=beq_eq_false_iff_ne.2 (by omega)
 have q1:(k == 1)=false:=beq_eq_false_iff_ne.2 (by omega)
 have q0:(k == 0)=false:=beq_eq_false_iff_ne.2 (by omega)
 clear hA4
 unfold SE.ptr
 go_enter Tryz.func93,Tryz.ntmps93
 have ho5:=O4.out
 have r0:=ho5.cell_at (i:=0) rfl
 have r1:=ho5.cell_at (i:=1) rfl
 have rl:=ho5.lt
 have e0:=ho5.free 0
 have e1:=ho5.free 1
 obtain ⟨hbt,hot⟩:=set_two ho5 (.int .u64 z0) (.int .u64 z1)
 have HOT:=hid hot
 have HRR:=hid (SE.R.fresh HA.out (HR4.out) hbt (by have:=HFS.out;omega))
 clear ho5 hbt hot
 go_wp2_with fail
 refine bodyPost_ret (results_cell_row (d:=Tryz.prog.underlying 125 |>.getD default) rfl _ _ (f+1+1+1) 125 _ (0,0) rfl HOT.out rfl rfl rfl) rfl ?_
 rw [← HQ.out]
 refine ⟨_,z0,z1,rfl,HZ.out,(Bits.self HM.out).iff fun j=>?_,HRR.out⟩
 constructor
 ·intro h
  exact ⟨j,h,.other hko⟩
 ·rintro ⟨i,h1,h2⟩
  cases h2<;>first | exact h1 | omega
set_option maxHeartbeats 4000000 in
set_option maxRecDepth 20000 in
theorem sn_seq (E:SE) (nm tx:ByteArray) (set:List (Int × Int)) (subs:List Nd) (hno:∀ s∈subs,NodeOk E s):NodeOk E (.mk 1 nm tx set subs):=by
 intro m z0 z1 W v0 v1 v2 v3 v4 hz hm hml hA hN hV
 rw [NodeAt] at hN
 obtain ⟨hk,h1,h2,h3,h4,h5,⟨sa,sc,h6,h6',h7⟩,na,nc,h8,h8',h9⟩:=hN
 obtain rfl:=Option.some.inj h3
 obtain rfl:=Option.some.inj h4
 obtain rfl:=Option.some.inj h5
 obtain rfl:=Option.some.inj h6
 obtain rfl:=Option.some.inj h8
 clear h3 h4 h5 h6 h7 h8 h1 h2 h6'
 obtain ⟨L,hL⟩:∃ L,subs.length=L:=⟨_,rfl⟩
 have HL:=hid hL
 rw [hL] at h8'
 rw [hL]
 obtain ⟨f,hf⟩:∃ f,W.heap.size=f:=⟨_,rfl⟩
 obtain ⟨w1,hw1⟩:∃ w1,W.alloc (.cells #[.pointer (some ⟨E.kw,0,none⟩)] 119)=w1:=⟨_,rfl⟩
 have g1:Grew W w1:=hw1▸grew_alloc W _
 have o1:Owns w1 f [E.ptr] 119:=hf▸hw1▸Owns.alloc W _ _
 have y1:w1.heap.size=f+1:=by rw [← hf,← hw1];exact World.size_alloc _ _
 obtain ⟨w2,hw2⟩:∃ w2,w1.alloc (.cells #[.int .u8 1,.string nm,.string tx,.slice sa set.length sc,.slice na L nc] 80)=w2:=⟨_,rfl⟩
 have g2:Grew w1 w2:=hw2▸grew_alloc w1 _
 have o2:Owns w2 (f+1) [.int .u8 1,.string nm,.string tx,.slice sa set.length sc,.slice na L nc] 80:=y1▸hw2▸Owns.alloc w1 _ _
 have y2:w2.heap.size=f+1+1:=by rw [← y1,← hw2];exact World.size_alloc _ _
 obtain ⟨w3,hw3⟩:∃ w3,w2.alloc (.cells #[.int .u64 z0,.int .u64 z1] 125)=w3:=⟨_,rfl⟩
 have g3:Grew w2 w3:=hw3▸grew_alloc w2 _
 have o3:Owns w3 (f+1+1) [.int .u64 z0,.int .u64 z1] 125:=y2▸hw3▸Owns.alloc w2 _ _
 have y3:w3.heap.size=f+1+1+1:=by rw [← y2,← hw3];exact World.size_alloc _ _
 obtain ⟨w4,hw4⟩:∃ w4,w3.alloc (.cells #[.int .u64 0,.int .u64 0] 125)=w4:=⟨_,rfl⟩
 have g4:Grew w3 w4:=hw4▸grew_alloc w3 _
 have o4:Owns w4 (f+1+1+1) [.int .u64 0,.int .u64 0] 125:=y3▸hw4▸Owns.alloc w3 _ _
 have hg:Grew W w4:=((g1.trans g2).trans g3).trans g4
 have HG:=hid hg
 have HR4:Hid (E.R W w4):=hid (SE.R.grew hg)
 have HA:=hid hA
 have hA4:=hA.keep HR4.out
 have HA4:=hid hA4
 have O1:=hid (o1.keep ((g2.trans g3).trans g4))
 have O2:=hid (o2.keep (g3.trans g4))
 have O3:=hid (o3.keep g4)
 have O4:=hid o4
 have HFS:=hid hf
 have HKB:=hid hA.kb_lt
 have H9:=hid h9
 have HV:=hid hV
 have HML:=hid hml
 have HZ:=hid hz
 have HM:=hid hm
 have H8:=hid h8'
 have c1:=O1.out.cell_at (i:=0) rfl
 unfold SE.ptr at c1
 have c1l:=O1.out.lt
 have n0:=O2.out.cell_at (i:=0) rfl
 have n1:=O2.out.cell_at (i:=1) rfl
 have n4:=O2.out.cell_at (i:=4) rfl
 have nl:=O2.out.lt
 have p0:=O3.out.cell_at (i:=0) rfl
 have p1:=O3.out.cell_at (i:=1) rfl
 have pl:=O3.out.lt
 obtain ⟨Q,hQ⟩:∃ Q,NodeRes E (From m (Der E.B E.wl (.mk 1 nm tx set subs))) W=Q:=⟨_,rfl⟩
 rw [hQ]
 have HQ:=hid hQ
 clear hA hml hz hm hV h9 hQ g1 g2 g3 g4 o1 o2 o3 o4 hg hL h8' hk
 have HNO:=hid hno
 have hl9:L≤140737488355328:=Nat.le_trans H8.out (Nat.min_le_left _ _)
 have HKF:=hid (show f≠E.kb∧f+1≠E.kb∧f+1+1≠E.kb∧f+1+1+1≠E.kb∧f+1+1+1+1≠E.kb by have:=HKB.out;have:=HFS.out;omega)
 clear hA4 hno
 unfold SE.ptr
 go_enter Tryz.func93,Tryz.ntmps93
 go_wp2_with fail
 clear hf hw1 hw2 hw3 hw4 y1 y2 y3 c1 c1l n0 n1 n4 nl p0 p1 pl
 go_loopw [53] (fun c wr=>∃ (j q:Nat) (a0 a1:Int),c=.int .i64 j∧j≤L∧Hid (E.R W wr)∧Hid (Owns wr f [E.ptr] 119)∧Hid (Owns wr (f+1+1) [.int .u64 a0,.int .u64 a1] 125)∧Hid (Owns wr (f+1+1+1) [.int .u64 0,.int .u64 0] 125)∧Hid (W2 q a0 a1)∧Hid (Bits q (From m (DerL E.B E.wl (subs.take j))))) (fun c _=>L - (intOf c).toNat)
 case atStart=>exact ⟨0,m,z0,z1,rfl,by omega,HR4.out,O1.out,O3.out,O4.out,HZ.out,(Bits.self HM.out).iff fun j=>⟨fun h=>⟨j,h,.nil⟩,fun ⟨i,h1,h2⟩=>by cases h2;exact h1⟩⟩
 case round =>
  obtain ⟨j,q,a0,a1,rfl,hj,HR,HO1,HO3,HO4,HW,HB⟩:=hrel
  by_cases hlt:j < L
  ·as_aux_lemma =>
    have hlt':j < subs.length:=by rw [HL.out];exact hlt
    have hbl:Below E.lim W wr:=WR.below HR.out HA.out.1.book.low HA.out.1.lo.2
    have hsub:=(show NodesAt wr E.lim na 0 subs from H9.out.keep hbl)
    obtain ⟨b,off,rfl,hb,hnode⟩:=hsub.get hlt'
    simp only [Nat.zero_add] at hnode
    have HTK:=hid (take_snoc hlt')
    have HTD:=hid (take_drop_at hlt')
    have hjs:=List.getElem_mem hlt'
    obtain ⟨s,hs⟩:∃ s,subs[j]=s:=⟨_,rfl⟩
    rw [hs] at hnode HTK HTD hjs
    have HJS:=hid hjs
    clear hs hjs
    obtain ⟨u0,u1,u2,u3,u4,e0,e1,e2,e3,e4,hnode⟩:=hnode.vals
    obtain ⟨m0,m1,m2,m3,m4,m5,m6,m7,m8,rfl,rfl,rfl,rfl,rfl⟩:=hnode.forms
    have hlw:E.lim≤wr.heap.size:=Nat.le_trans HA.out.1.book.low hbl.size
    have hb':=Nat.lt_of_lt_of_le hb hlw
    obtain ⟨wa,hwa⟩:∃ wa,wr.alloc (.cells #[.int .u8 m0,.string m1,.string m2,.slice m3 m4 m5,.slice m6 m7 m8] 80)=wa:=⟨_,rfl⟩
    have ga:Grew wr wa:=hwa▸grew_alloc wr _
    have oa:Owns wa wr.heap.size [.int .u8 m0,.string m1,.string m2,.slice m3 m4 m5,.slice m6 m7 m8] 80:=hwa▸Owns.alloc wr _ _
    have HRA:=hid (HR.out.trans (SE.R.grew ga))
    have hNa:=hnode.keep (ga.mono hlw)
    have HOA:=hid oa
    have O1A:=hid (HO1.out.keep ga)
    have O3A:=hid (HO3.out.keep ga)
    have O4A:=hid (HO4.out.keep ga)
    have c1:=O1A.out.cell_at (i:=0) rfl
    unfold SE.ptr at c1
    have c1l:=O1A.out.lt
    have p0:=O3A.out.cell_at (i:=0) rfl
    have p1:=O3A.out.cell_at (i:=1) rfl
    have pl:=O3A.out.lt
    have t0:=oa.cell_at (i:=0) rfl
    have t1:=oa.cell_at (i:=1) rfl
    have t2:=oa.cell_at (i:=2) rfl
    have t3:=oa.cell_at (i:=3) rfl
    have t4:=oa.cell_at (i:=4) rfl
    have tl:=oa.lt
    have hwlen:∀ i,q.testBit i=true→i≤E.wl.length:=fun i hi=>by
     obtain ⟨i0,h1,h2⟩:=(HB.out.2 i).1 hi
     exact h2.le.2 (HML.out i0 h1)
    have HC:=hid (HNO.out s HJS.out q a0 a1 wa _ _ _ _ _ HW.out HB.out.1 hwlen (HA.out.keep HRA.out) hNa (fun i r a hi hv=>by
     obtain ⟨i0,h1,h2⟩:=(HB.out.2 i).1 hi
     refine HV.out i0 r a h1 (.seq ?_)
     have:=VisL.snoc (t:=subs.drop (j+1)) h2 hv
     rw [← HTD.out] at this
     exact this))
    unfold SE.ptr at HC
    clear hlt' hbl hsub hnode hlw ga oa hNa hwlen
    go_wp2_with fail
    refine HC.out.mono ?_
    rintro e w5 ⟨q',x0,x1,rfl,hx,hb2,hr⟩
    have HX:=hid hx
    have HB2:=hid hb2
    clear hwa c1 c1l p0 p1 pl t0 t1 t2 t3 t4 tl e0 e1 e2 e3 e4 HC hb hb'
    have ho5:=hr.owns O3A.out HKF.out.2.2.1
    have r0:=ho5.cell_at (i:=0) rfl
    have r1:=ho5.cell_at (i:=1) rfl
    have rl:=ho5.lt
    have e0:=ho5.free 0
    have e1:=ho5.free 1
    obtain ⟨hbt,hot⟩:=set_two ho5 (.int .u64 x0) (.int .u64 x1)
    have HOT:=hid hot
    have HRR:=hid (SE.R.fresh HA.out (HRA.out.trans hr) hbt (by have:=HFS.out;omega))
    have HO19:=hid (hbt.owns (hr.owns O1A.out HKF.out.1) (by omega))
    have HO49:=hid (hbt.owns (hr.owns O4A.out HKF.out.2.2.2.1) (by omega))
    clear ho5 hbt hot hr hx hb2
    go_wp2_with fail
    refine ⟨⟨j+1,q',x0,x1,by go_num,by omega,HRR.out,HO19.out,HOT.out,HO49.out,HX.out,HB2.out.iff fun k=>?_⟩,by simp [intOf];omega⟩
    rw [HTK.out]
    constructor
    ·rintro ⟨i,h1,h2⟩
     obtain ⟨i0,h3,h4⟩:=(HB.out.2 i).1 h1
     exact ⟨i0,h3,h4.snoc h2⟩
    ·rintro ⟨i0,h3,h4⟩
     obtain ⟨i,h5,h6⟩:=h4.unsnoc
     exact ⟨i,(HB.out.2 i).2 ⟨i0,h3,h5⟩,h6⟩
  ·obtain rfl:j=L:=by omega
   have p0:=HO3.out.cell_at (i:=0) rfl
   have p1:=HO3.out.cell_at (i:=1) rfl
   have pl:=HO3.out.lt
   have ho5:=HO4.out
   have r0:=ho5.cell_at (i:=0) rfl
   have r1:=ho5.cell_at (i:=1) rfl
   have rl:=ho5.lt
   have e0:=ho5.free 0
   have e1:=ho5.free 1
   obtain ⟨hbt,hot⟩:=set_two ho5 (.int .u64 a0) (.int .u64 a1)
   have HOT:=hid hot
   have HRR:=hid (SE.R.fresh HA.out (HR.out) hbt (by have:=HFS.out;omega))
   clear ho5 hbt hot
   go_wp2_with fail
   refine bodyPost_ret (results_cell_row (d:=Tryz.prog.underlying 125 |>.getD default) rfl _ _ (f+1+1+1) 125 _ (0,0) rfl HOT.out rfl rfl rfl) rfl ?_
   rw [← HQ.out]
   refine ⟨_,a0,a1,rfl,HW.out,HB.out.iff fun j=>?_,HRR.out⟩
   rw [List.take_of_length_le (by rw [HL.out];exact Nat.le_refl _)]
   constructor
   ·rintro ⟨i,h1,h2⟩
    exact ⟨i,h1,.seq h2⟩
   ·rintro ⟨i,h1,h2⟩
    cases h2 with
    | seq h=>exact ⟨i,h1,h⟩
    | other hk=>omega
set_option maxHeartbeats 4000000 in
set_option maxRecDepth 20000 in
theorem sn_alt (E:SE) (nm tx:ByteArray) (set:List (Int × Int)) (subs:List Nd) (hno:∀ s∈subs,NodeOk E s):NodeOk E (.mk 0 nm tx set subs):=by
 intro m z0 z1 W v0 v1 v2 v3 v4 hz hm hml hA hN hV
 rw [NodeAt] at hN
 obtain ⟨hk,h1,h2,h3,h4,h5,⟨sa,sc,h6,h6',h7⟩,na,nc,h8,h8',h9⟩:=hN
 obtain rfl:=Option.some.inj h3
 obtain rfl:=Option.some.inj h4
 obtain rfl:=Option.some.inj h5
 obtain rfl:=Option.some.inj h6
 obtain rfl:=Option.some.inj h8
 clear h3 h4 h5 h6 h7 h8 h1 h2 h6'
 obtain ⟨L,hL⟩:∃ L,subs.length=L:=⟨_,rfl⟩
 have HL:=hid hL
 rw [hL] at h8'
 rw [hL]
 obtain ⟨f,hf⟩:∃ f,W.heap.size=f:=⟨_,rfl⟩
 obtain ⟨w1,hw1⟩:∃ w1,W.alloc (.cells #[.pointer (some ⟨E.kw,0,none⟩)] 119)=w1:=⟨_,rfl⟩
 have g1:Grew W w1:=hw1▸grew_alloc W _
 have o1:Owns w1 f [E.ptr] 119:=hf▸hw1▸Owns.alloc W _ _
 have y1:w1.heap.size=f+1:=by rw [← hf,← hw1];exact World.size_alloc _ _
 obtain ⟨w2,hw2⟩:∃ w2,w1.alloc (.cells #[.int .u8 0,.string nm,.string tx,.slice sa set.length sc,.slice na L nc] 80)=w2:=⟨_,rfl⟩
 have g2:Grew w1 w2:=hw2▸grew_alloc w1 _
 have o2:Owns w2 (f+1) [.int .u8 0,.string nm,.string tx,.slice sa set.length sc,.slice na L nc] 80:=y1▸hw2▸Owns.alloc w1 _ _
 have y2:w2.heap.size=f+1+1:=by rw [← y1,← hw2];exact World.size_alloc _ _
 obtain ⟨w3,hw3⟩:∃ w3,w2.alloc (.cells #[.int .u64 z0,.int .u64 z1] 125)=w3:=⟨_,rfl⟩
 have g3:Grew w2 w3:=hw3▸grew_alloc w2 _
 have o3:Owns w3 (f+1+1) [.int .u64 z0,.int .u64 z1] 125:=y2▸hw3▸Owns.alloc w2 _ _
 have y3:w3.heap.size=f+1+1+1:=by rw [← y2,← hw3];exact World.size_alloc _ _
 obtain ⟨w4,hw4⟩:∃ w4,w3.alloc (.cells #[.int .u64 0,.int .u64 0] 125)=w4:=⟨_,rfl⟩
 have g4:Grew w3 w4:=hw4▸grew_alloc w3 _
 have o4:Owns w4 (f+1+1+1) [.int .u64 0,.int .u64 0] 125:=y3▸hw4▸Owns.alloc w3 _ _
 have hg:Grew W w4:=((g1.trans g2).trans g3).trans g4
 have HG:=hid hg
 have HR4:Hid (E.R W w4):=hid (SE.R.grew hg)
 have HA:=hid hA
 have hA4:=hA.keep HR4.out
 have HA4:=hid hA4
 have O1:=hid (o1.keep ((g2.trans g3).trans g4))
 have O2:=hid (o2.keep (g3.trans g4))
 have O3:=hid (o3.keep g4)
 have O4:=hid o4
 have HFS:=hid hf
 have HKB:=hid hA.kb_lt
 have H9:=hid h9
 have HV:=hid hV
 have HML:=hid hml
 have HZ:=hid hz
 have HM:=hid hm
 have H8:=hid h8'
 have c1:=O1.out.cell_at (i:=0) rfl
 unfold SE.ptr at c1
 have c1l:=O1.out.lt
 have n0:=O2.out.cell_at (i:=0) rfl
 have n1:=O2.out.cell_at (i:=1) rfl
 have n4:=O2.out.cell_at (i:=4) rfl
 have nl:=O2.out.lt
 have p0:=O3.out.cell_at (i:=0) rfl
 have p1:=O3.out.cell_at (i:=1) rfl
 have pl:=O3.out.lt
 obtain ⟨Q,hQ⟩:∃ Q,NodeRes E (From m (Der E.B E.wl (.mk 0 nm tx set subs))) W=Q:=⟨_,rfl⟩
 rw [hQ]
 have HQ:=hid hQ
 clear hA hml hz hm hV h9 hQ g1 g2 g3 g4 o1 o2 o3 o4 hg hL h8' hk
 have HNO:=hid hno
 have hl9:L≤140737488355328:=Nat.le_trans H8.out (Nat.min_le_left _ _)
 have HKF:=hid (show f≠E.kb∧f+1≠E.kb∧f+1+1≠E.kb∧f+1+1+1≠E.kb∧f+1+1+1+1≠E.kb by have:=HKB.out;have:=HFS.out;omega)
 clear hA4 hno
 unfold SE.ptr
 go_enter Tryz.func93,Tryz.ntmps93
 obtain ⟨w5,hw5⟩:∃ w5,w4.alloc (.cells #[.int .u64 0,.int .u64 0] 125)=w5:=⟨_,rfl⟩
 have g5:Grew w4 w5:=hw5▸grew_alloc w4 _
 have O5:=hid (show Owns w5 (f+1+1+1+1) [.int .u64 0,.int .u64 0] 125 by
  have y4:w4.heap.size=f+1+1+1+1:=by rw [← y3,← hw4];exact World.size_alloc _ _
  exact y4▸hw5▸Owns.alloc w4 _ _)
 have HG5:=hid g5
 have y4:w4.heap.size=f+1+1+1+1:=by rw [← y3,← hw4];exact World.size_alloc _ _
 have n45:=(O2.out.keep g5).cell_at (i:=4) rfl
 have nl5:=(O2.out.keep g5).lt
 clear g5
 go_wp2_with fail
 clear hf hw1 hw2 hw3 hw4 hw5 y1 y2 y3 y4 c1 c1l n0 n1 n4 nl p0 p1 pl n45 nl5
 go_loopw [67] (fun c wr=>∃ (j q:Nat) (a0 a1:Int),c=.int .i64 j∧j≤L∧Hid (E.R W wr)∧Hid (Owns wr f [E.ptr] 119)∧Hid (Owns wr (f+1+1) [.int .u64 z0,.int .u64 z1] 125)∧Hid (Owns wr (f+1+1+1) [.int .u64 0,.int .u64 0] 125)∧Hid (Owns wr (f+1+1+1+1) [.int .u64 a0,.int .u64 a1] 125)∧Hid (W2 q a0 a1)∧Hid (Bits q (fun i=>∃ s∈subs.take j,From m (Der E.B E.wl s) i))) (fun c _=>L - (intOf c).toNat)
 case atStart=>exact ⟨0,0,0,0,rfl,by omega,HR4.out.trans (SE.R.grew HG5.out),O1.out.keep HG5.out,O3.out.keep HG5.out,O4.out.keep HG5.out,O5.out,W2.zero,Bits.zero.iff fun j=>⟨fun h=>h.elim,fun ⟨s,h,_⟩=>by simp at h⟩⟩
 case round =>
  obtain ⟨j,q,a0,a1,rfl,hj,HR,HO1,HO3,HO4,HO5,HW,HB⟩:=hrel
  by_cases hlt:j < L
  ·as_aux_lemma =>
    have hlt':j < subs.length:=by rw [HL.out];exact hlt
    have hbl:Below E.lim W wr:=WR.below HR.out HA.out.1.book.low HA.out.1.lo.2
    have hsub:=(show NodesAt wr E.lim na 0 subs from H9.out.keep hbl)
    obtain ⟨b,off,rfl,hb,hnode⟩:=hsub.get hlt'
    simp only [Nat.zero_add] at hnode
    have HTK:=hid (take_snoc hlt')
    have HTD:=hid (take_drop_at hlt')
    have hjs:=List.getElem_mem hlt'
    obtain ⟨s,hs⟩:∃ s,subs[j]=s:=⟨_,rfl⟩
    rw [hs] at hnode HTK HTD hjs
    have HJS:=hid hjs
    clear hs hjs
    obtain ⟨u0,u1,u2,u3,u4,e0,e1,e2,e3,e4,hnode⟩:=hnode.vals
    obtain ⟨m0,m1,m2,m3,m4,m5,m6,m7,m8,rfl,rfl,rfl,rfl,rfl⟩:=hnode.forms
    have hlw:E.lim≤wr.heap.size:=Nat.le_trans HA.out.1.book.low hbl.size
    have hb':=Nat.lt_of_lt_of_le hb hlw
    obtain ⟨wa,hwa⟩:∃ wa,wr.alloc (.cells #[.int .u8 m0,.string m1,.string m2,.slice m3 m4 m5,.slice m6 m7 m8] 80)=wa:=⟨_,rfl⟩
    have ga:Grew wr wa:=hwa▸grew_alloc wr _
    have oa:Owns wa wr.heap.size [.int .u8 m0,.string m1,.string m2,.slice m3 m4 m5,.slice m6 m7 m8] 80:=hwa▸Owns.alloc wr _ _
    have HRA:=hid (HR.out.trans (SE.R.grew ga))
    have hNa:=hnode.keep (ga.mono hlw)
    have HOA:=hid oa
    have O1A:=hid (HO1.out.keep ga)
    have O3A:=hid (HO3.out.keep ga)
    have O4A:=hid (HO4.out.keep ga)
    have c1:=O1A.out.cell_at (i:=0) rfl
    unfold SE.ptr at c1
    have c1l:=O1A.out.lt
    have p0:=O3A.out.cell_at (i:=0) rfl
    have p1:=O3A.out.cell_at (i:=1) rfl
    have pl:=O3A.out.lt
    have t0:=oa.cell_at (i:=0) rfl
    have t1:=oa.cell_at (i:=1) rfl
    have t2:=oa.cell_at (i:=2) rfl
    have t3:=oa.cell_at (i:=3) rfl
    have t4:=oa.cell_at (i:=4) rfl
    have tl:=oa.lt
    have O5A:=hid (HO5.out.keep ga)
    have HLOW:Hid (∀ w,E.R wa w→Below E.lim W w):=hid fun w hw=>WR.below (HRA.out.trans hw) HA.out.1.book.low HA.out.1.lo.2
    have hNW:=hNa
    have HNA:=hid hNW
    have HLA:Hid (E.lim≤wa.heap.size):=hid (Nat.le_trans hlw ga.size)
    have HWRB:Hid (wr.heap.size≠E.kb):=hid (by have:=HKB.out;have:=HR.out.1.size;omega)
    have HFAC:Hid (∀ w,E.R wa w→(f < w.heap.size∧w.cell? ⟨f,0,none⟩=some (.pointer (some ⟨E.kw,0,none⟩))∧f+1+1 < w.heap.size∧w.cell? ⟨f+1+1,0,none⟩=some (.int .u64 z0)∧w.cell? ⟨f+1+1,1,none⟩=some (.int .u64 z1)∧f+1+1+1+1 < w.heap.size∧w.cell? ⟨f+1+1+1+1,0,none⟩=some (.int .u64 a0)∧w.cell? ⟨f+1+1+1+1,1,none⟩=some (.int .u64 a1)) ∧
      wr.heap.size < w.heap.size∧w.cell? ⟨wr.heap.size,0,none⟩=some (.int .u8 m0)∧w.cell? ⟨wr.heap.size,1,none⟩=some (.string m1)∧w.cell? ⟨wr.heap.size,2,none⟩=some (.string m2)∧w.cell? ⟨wr.heap.size,3,none⟩=some (.slice m3 m4 m5)∧w.cell? ⟨wr.heap.size,4,none⟩=some (.slice m6 m7 m8)):=hid fun w hw=>by
     have q1:=hw.owns O1A.out HKF.out.1
     have q3:=hw.owns O3A.out HKF.out.2.2.1
     have q5:=hw.owns O5A.out HKF.out.2.2.2.2
     have qa:=hw.owns HOA.out HWRB.out
     exact ⟨⟨q1.lt,q1.cell_at (i:=0) rfl,q3.lt,q3.cell_at (i:=0) rfl,q3.cell_at (i:=1) rfl,q5.lt,q5.cell_at (i:=0) rfl,q5.cell_at (i:=1) rfl⟩,qa.lt,qa.cell_at (i:=0) rfl,qa.cell_at (i:=1) rfl,qa.cell_at (i:=2) rfl,qa.cell_at (i:=3) rfl,qa.cell_at (i:=4) rfl⟩
    have HCALL:Hid (∀ w,E.R wa w→Calls Tryz.prog 93 #[E.ptr,.agg #[.int .u8 m0,.string m1,.string m2,.slice m3 m4 m5,.slice m6 m7 m8],.agg #[.int .u64 z0,.int .u64 z1]] w (NodeRes E (From m (Der E.B E.wl s)) w)):=hid fun w hw =>
     HNO.out s HJS.out m z0 z1 w _ _ _ _ _ HZ.out HM.out HML.out (HA.out.keep (HRA.out.trans hw)) (HNA.out.keep (WR.below hw HLA.out HA.out.1.lo.2)) fun i r a hi hv=>HV.out i r a hi (.alt HJS.out hv)
    unfold SE.ptr at HCALL
    clear hlt' hbl hsub hnode hlw ga oa hNa hNW t0 t1 t2 t3 t4 tl c1 c1l p0 p1 pl
    go_upto_region 19 with fail
    clear hwa hb hb' e0 e1 e2 e3 e4
    generalize wr.heap.size=u at *
    refine wp_region_hav_litX E.rel follows (by kernel_rfl) ?_
    iterate 4 ((first | refine HavX.skip (fun _=>rfl) ?_ | (refine HavX.val E.rel (fun _=>rfl) ?_ (fun x w hw _=>?_) ?_;rotate_left;(focus (obtain ⟨⟨y0,y1,y2,y3,y4,y5,y6,y6'⟩,y7,y8,y9,y10,y11,y12⟩:=HFAC.out w hw;clear hw;go_simp;first | done | rfl))));simp only [Act.put,sia,scz,scs])
    refine HavX.any (fun _=>rfl) (fun _ v _=>∃ q x0 x1,v=.agg #[.int .u64 x0,.int .u64 x1]∧W2 q x0 x1∧Bits q (From m (Der E.B E.wl s))) (fun _ _ _ _ _ h=>h) (fun _ _ _ _ _ h=>h) (fun x w hw hd=>?_) ?_
    ·clear hd
     have HW9:=hid hw
     clear hw
     go_simp
     refine (HCALL.out w HW9.out).mono ?_
     rintro e w' ⟨q,x0,x1,rfl,hx,hb,hr⟩
     exact ⟨hr,q,x0,x1,rfl,hx,hb⟩
    simp only [Act.put,sia,scz,scs]
    refine HavX.any (fun _=>rfl) (fun _ v _=>∃ q' y0 y1,v=.agg #[.int .u64 y0,.int .u64 y1]∧W2 q' y0 y1∧Bits q' (fun i=>(∃ s∈subs.take j,From m (Der E.B E.wl s) i)∨From m (Der E.B E.wl s) i)) (fun _ _ _ _ _ h=>h) (fun _ _ _ _ _ h=>h) (fun x w hw hd=>?_) ?_
    ·obtain ⟨q',x0,x1,hq',hy',hb'⟩:=hd _ (List.mem_append_right _ (List.mem_singleton.2 rfl)) (by kernel_rfl)
     dsimp only at hq'
     have HB':=hid hb'
     have HY':=hid hy'
     clear hd hb' hw hy'
     simp only [hq']
     go_simp
     refine (swith2 HB.out.lt128 HB'.out.lt128 HW.out HY'.out w).mono ?_
     rintro e w' ⟨⟨y0,y1,rfl,hx⟩,hg⟩
     exact ⟨SE.R.grew hg,_,y0,y1,rfl,hx,HB.out.or HB'.out⟩
    simp only [Act.put,sia,scz,scs]
    refine HavX.tail (by kernel_rfl) (by kernel_rfl) (fun x w hw hd=>?_)
    obtain ⟨q',x0,x1,hq',hy',hb'⟩:=hd _ (List.mem_append_right _ (List.mem_singleton.2 rfl))
    dsimp only at hq'
    have HB':=hid hb'
    have HX:=hid hy'
    have ho5:=hw.owns O5A.out HKF.out.2.2.2.2
    have r0:=ho5.cell_at (i:=0) rfl
    have r1:=ho5.cell_at (i:=1) rfl
    have rl:=ho5.lt
    have e0:=ho5.free 0
    have e1:=ho5.free 1
    obtain ⟨hbt,hot⟩:=set_two ho5 (.int .u64 x0) (.int .u64 x1)
    have HOT:=hid hot
    have HRR:=hid (SE.R.fresh HA.out (HRA.out.trans hw) hbt (by have:=HFS.out;omega))
    have HO19:=hid (hbt.owns (hw.owns O1A.out HKF.out.1) (by omega))
    have HO39:=hid (hbt.owns (hw.owns O3A.out HKF.out.2.2.1) (by omega))
    have HO49:=hid (hbt.owns (hw.owns O4A.out HKF.out.2.2.2.1) (by omega))
    clear hd ho5 hbt hot hb' hy' hw
    simp only [hq']
    clear hq'
    go_wp2_with fail
    refine ⟨⟨j+1,q',x0,x1,by go_num,by omega,HRR.out,HO19.out,HO39.out,HO49.out,HOT.out,HX.out,HB'.out.iff fun k=>?_⟩,by simp [intOf];omega⟩
    rw [HTK.out]
    simp only [List.mem_append,List.mem_singleton]
    constructor
    ·rintro (⟨s,h1,h2⟩ | h)
     ·exact ⟨s,.inl h1,h2⟩
     ·exact ⟨_,.inr rfl,h⟩
    ·rintro ⟨s,h1 | rfl,h2⟩
     ·exact .inl ⟨s,h1,h2⟩
     ·exact .inr h2
  ·obtain rfl:j=L:=by omega
   have p0:=HO5.out.cell_at (i:=0) rfl
   have p1:=HO5.out.cell_at (i:=1) rfl
   have pl:=HO5.out.lt
   have ho5:=HO4.out
   have r0:=ho5.cell_at (i:=0) rfl
   have r1:=ho5.cell_at (i:=1) rfl
   have rl:=ho5.lt
   have e0:=ho5.free 0
   have e1:=ho5.free 1
   obtain ⟨hbt,hot⟩:=set_two ho5 (.int .u64 a0) (.int .u64 a1)
   have HOT:=hid hot
   have HRR:=hid (SE.R.fresh HA.out (HR.out) hbt (by have:=HFS.out;omega))
   clear ho5 hbt hot
   go_wp2_with fail
   refine bodyPost_ret (results_cell_row (d:=Tryz.prog.underlying 125 |>.getD default) rfl _ _ (f+1+1+1) 125 _ (0,0) rfl HOT.out rfl rfl rfl) rfl ?_
   rw [← HQ.out]
   refine ⟨_,a0,a1,rfl,HW.out,HB.out.iff fun j=>?_,HRR.out⟩
   rw [List.take_of_length_le (by rw [HL.out];exact Nat.le_refl _)]
   constructor
   ·rintro ⟨s,hs,i,h1,h2⟩
    exact ⟨i,h1,.alt hs h2⟩
   ·rintro ⟨i,h1,h2⟩
    cases h2 with
    | alt hx h=>exact ⟨_,hx,i,h1,h⟩
    | other hk=>omega
mutual
def Nd.lp:Nd→Prop
 | .mk k _ _ _ subs=>((k=2∨k=3∨k=4)→subs≠[])∧Nd.lpL subs
def Nd.lpL:List Nd→Prop
 | []=>True
 | n::r=>n.lp∧Nd.lpL r
end
theorem Nd.lpL.mem:∀ {l:List Nd},Nd.lpL l→∀ n∈l,n.lp
 | [],_,n,h=>by cases h
 | x::r,h,n,hn=>by
  rw [Nd.lpL] at h
  rcases List.mem_cons.1 hn with rfl | hn
  ·exact h.1
  ·exact Nd.lpL.mem h.2 n hn
theorem snode_ok (E:SE):∀ n:Nd,n.lp→NodeOk E n:=by
 refine Nd.ind ?_
 intro k nm tx set subs ih hlp
 rw [Nd.lp] at hlp
 have hno:∀ s∈subs,NodeOk E s:=fun s hs=>by
  obtain ⟨i,hi,rfl⟩:=List.getElem_of_mem hs
  exact ih i hi (hlp.2.mem _ hs)
 by_cases k0:k=0
 ·subst k0;exact sn_alt E nm tx set subs hno
 by_cases k1:k=1
 ·subst k1;exact sn_seq E nm tx set subs hno
 by_cases k2:k=2
 ·subst k2;exact sn_opt E nm tx set subs (hlp.1 (by omega)) hno
 by_cases k3:k=3
 ·subst k3;exact sn_star E nm tx set subs (hlp.1 (by omega)) hno
 by_cases k4:k=4
 ·subst k4;exact sn_plus E nm tx set subs (hlp.1 (by omega)) hno
 by_cases k5:k=5
 ·subst k5;exact sn_ref E nm tx set subs
 by_cases k6:k=6
 ·subst k6;exact sn_tok E nm tx set subs
 exact sn_other E k nm tx set subs (by omega)
def Ranked (B:Bk) (w:List Int) (rank:Nat→Nat):Prop:=∀ r n a r' a',B.bodies[r]? = some n→a≤w.length→Vis B w n a r' a'→r' < B.bodies.length∧(a'=a→rank r' < rank r)
theorem ask_all (E:SE) (hlp:∀ n∈E.B.bodies,n.lp) (rank:Nat→Nat) (hr:Ranked E.B E.wl rank):∀ r a,r < E.B.bodies.length→a≤E.wl.length→AskOk E r a
 | r,a,h,ha=>by
  have hn:E.B.bodies[r]? = some E.B.bodies[r]:=List.getElem?_eq_getElem h
  have hW:E.wl.length≤64∨64 < E.wl.length:=by omega
  intro W hA
  have hfew:=hA.1.few
  have hb:∀ i,(2 ^ a).testBit i=true→i=a:=fun i hi=>by
   rw [Nat.testBit_two_pow,decide_eq_true_eq] at hi
   exact hi.symm
  refine sfrom_ok E r a ha _ hn (fun W v0 v1 v2 v3 v4 z0 z1 hA hN hz=>?_) W hA
  refine (snode_ok E _ (hlp _ (List.getElem_mem h)) (2 ^ a) z0 z1 W v0 v1 v2 v3 v4 hz (Nat.pow_lt_pow_right (by omega) (by omega)) (fun i hi=>by rw [hb i hi];exact ha) hA hN (fun i r' a' hi hv=>?_)).mono (fun e W' hres=>hres.iff fun j=>?_)
  ·rw [hb i hi] at hv
   obtain ⟨h1,h2⟩:=hr r _ a r' a' hn ha hv
   have h3:=hv.le
   exact ask_all E hlp rank hr r' a' h1 (h3.2 ha)
  ·constructor
   ·rintro ⟨i,hi,hd⟩
    obtain rfl:=hb i hi
    exact hd
   ·intro hd
    exact ⟨a,by rw [Nat.testBit_two_pow];simp,hd⟩
termination_by r a=>(E.wl.length - a,rank r)
decreasing_by
 have h4:=h3.2 ha
 by_cases e:a'=a
 ·rw [e]
  exact Prod.Lex.right _ (h2 e)
 ·exact Prod.Lex.left _ _ (by omega)
end Go.Proofs.YtppjmdanckdobaaGreatDoor
