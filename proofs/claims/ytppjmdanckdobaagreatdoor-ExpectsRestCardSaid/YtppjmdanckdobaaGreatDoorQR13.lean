/- The first list of a node. Printed by gensfirst.py. -/
import Derived.Test.YtppjmdanckdobaaGreatDoorQR12
import Derived.Test.YtppjmdanckdobaaGreatDoorQR9
namespace Go.Proofs.YtppjmdanckdobaaGreatDoor
open Go.RowKit
open Lib (hid)
def FirstOk (B:Bk) (n:Nd):Prop:=∀ (W:World) (lim bk:Nat) (V:BV) (v0 v1 v2 v3 v4:Value),BookAt W lim bk V B→NodeAt W lim (some v0) (some v1) (some v2) (some v3) (some v4) n →
 Calls Tryz.prog 33 #[.pointer (some ⟨bk,0,none⟩),.agg #[v0,v1,v2,v3,v4]] W (FstRes (B.firstN n) W)
set_option maxHeartbeats 4000000 in
set_option maxRecDepth 20000 in
theorem sfi_other (B:Bk) (k:Int) (nm tx:ByteArray) (set:List (Int × Int)) (subs:List Nd) (hko:k≠6∧k≠5∧k≠4∧k≠1∧k≠0):FirstOk B (.mk k nm tx set subs):=by
 intro W lim bk V v0 v1 v2 v3 v4 hB hN
 rw [NodeAt] at hN
 obtain ⟨hk,h1,h2,h3,h4,h5,⟨sa,sc,h6,h6',h7⟩,na,nc,h8,h8',h9⟩:=hN
 obtain rfl:=Option.some.inj h3
 obtain rfl:=Option.some.inj h4
 obtain rfl:=Option.some.inj h5
 obtain rfl:=Option.some.inj h6
 obtain rfl:=Option.some.inj h8
 clear h3 h4 h5 h6 h7 h8 h1 h2 h6'
 obtain ⟨L,hL⟩:∃ L,subs.length=L:=⟨_,rfl⟩
 have HL:=hid hL
 rw [hL] at h8'
 rw [hL]
 obtain ⟨f,hf⟩:∃ f,W.heap.size=f:=⟨_,rfl⟩
 obtain ⟨w1,hw1⟩:∃ w1,W.alloc (.cells #[.int .u8 k,.string nm,.string tx,.slice sa set.length sc,.slice na L nc] 80)=w1:=⟨_,rfl⟩
 have g1:Grew W w1:=hw1▸grew_alloc W _
 have o1:Owns w1 f [.int .u8 k,.string nm,.string tx,.slice sa set.length sc,.slice na L nc] 80:=hf▸hw1▸Owns.alloc W _ _
 have y1:w1.heap.size=f+1:=by rw [← hf,← hw1];exact World.size_alloc _ _
 obtain ⟨w2,hw2⟩:∃ w2,w1.alloc (.cells #[.int .i64 0,.slice none 0 0] 91)=w2:=⟨_,rfl⟩
 have g2:Grew w1 w2:=hw2▸grew_alloc w1 _
 have o2:Owns w2 (f+1) [.int .i64 0,.slice none 0 0] 91:=y1▸hw2▸Owns.alloc w1 _ _
 have y2:w2.heap.size=f+1+1:=by rw [← y1,← hw2];exact World.size_alloc _ _
 have HG:=hid (g1.trans g2)
 have O1:=hid (o1.keep g2)
 have O2:=hid o2
 have HFS:=hid hf
 have HB:=hid hB
 have HB2:=hid (hB.keep ((g1.trans g2).mono hB.low))
 have H9:=hid h9
 have H8:=hid h8'
 have n0:=O1.out.cell_at (i:=0) rfl
 have n1:=O1.out.cell_at (i:=1) rfl
 have n4:=O1.out.cell_at (i:=4) rfl
 have nl:=O1.out.lt
 have r0:=O2.out.cell_at (i:=0) rfl
 have r1:=O2.out.cell_at (i:=1) rfl
 have rl:=O2.out.lt
 have e0:=O2.out.free 0
 have e1:=O2.out.free 1
 obtain ⟨Q,hQ⟩:∃ Q,FstRes (B.firstN (.mk k nm tx set subs)) W=Q:=⟨_,rfl⟩
 rw [hQ]
 have HQ:=hid hQ
 clear hB h9 hQ g1 g2 o1 o2 hL h8' hk
 have q6:(k == 6)=false:=beq_eq_false_iff_ne.2 (by omega)
 have q5:(k == 5)=false:=beq_eq_false_iff_ne.2 (by omega)
 have q4:(k == 4)=false:=beq_eq_false_iff_ne.2 (by omega)
 have q1:(k == 1)=false:=beq_eq_false_iff_ne.2 (by omega)
 have q0:(k == 0)=false:=beq_eq_false_iff_ne.2 (by omega)
 obtain ⟨hbt,hot⟩:=set_two O2.out (.int .i64 0) (.slice none 0 0)
 have HOT:=hid hot
 have HG2:=hid (show Grew W _ from Below.trans HG.out (hbt.below HG.out.size fun q e=>by have:=HFS.out;omega))
 clear hbt hot
 go_enter Tryz.func33,Tryz.ntmps33
 go_wp2_with fail
 refine bodyPost_ret (results_cell_row (d:=Tryz.prog.underlying 91 |>.getD default) rfl _ _ (f+1) 91 _ (0,0) rfl HOT.out rfl rfl rfl) rfl ?_
 rw [← HQ.out]
 have e:B.firstN (.mk k nm tx set subs)=⟨0,[]⟩:=by rw [Bk.firstN,if_neg (by omega),if_neg (by omega),if_neg (by omega),if_neg (by omega),if_neg (by omega)]
 rw [e]
 exact ⟨_,rfl,nil_ints _ _,HG2.out⟩
set_option maxHeartbeats 4000000 in
set_option maxRecDepth 20000 in
theorem sfi_plus (B:Bk) (nm tx:ByteArray) (set:List (Int × Int)) (subs:List Nd) (hne:subs≠[]) (hno:∀ s∈subs,FirstOk B s):FirstOk B (.mk 4 nm tx set subs):=by
 have HNO:=hid hno
 clear hno
 intro W lim bk V v0 v1 v2 v3 v4 hB hN
 rw [NodeAt] at hN
 obtain ⟨hk,h1,h2,h3,h4,h5,⟨sa,sc,h6,h6',h7⟩,na,nc,h8,h8',h9⟩:=hN
 obtain rfl:=Option.some.inj h3
 obtain rfl:=Option.some.inj h4
 obtain rfl:=Option.some.inj h5
 obtain rfl:=Option.some.inj h6
 obtain rfl:=Option.some.inj h8
 clear h3 h4 h5 h6 h7 h8 h1 h2 h6'
 obtain ⟨L,hL⟩:∃ L,subs.length=L:=⟨_,rfl⟩
 have HL:=hid hL
 rw [hL] at h8'
 rw [hL]
 obtain ⟨f,hf⟩:∃ f,W.heap.size=f:=⟨_,rfl⟩
 obtain ⟨w1,hw1⟩:∃ w1,W.alloc (.cells #[.int .u8 4,.string nm,.string tx,.slice sa set.length sc,.slice na L nc] 80)=w1:=⟨_,rfl⟩
 have g1:Grew W w1:=hw1▸grew_alloc W _
 have o1:Owns w1 f [.int .u8 4,.string nm,.string tx,.slice sa set.length sc,.slice na L nc] 80:=hf▸hw1▸Owns.alloc W _ _
 have y1:w1.heap.size=f+1:=by rw [← hf,← hw1];exact World.size_alloc _ _
 obtain ⟨w2,hw2⟩:∃ w2,w1.alloc (.cells #[.int .i64 0,.slice none 0 0] 91)=w2:=⟨_,rfl⟩
 have g2:Grew w1 w2:=hw2▸grew_alloc w1 _
 have o2:Owns w2 (f+1) [.int .i64 0,.slice none 0 0] 91:=y1▸hw2▸Owns.alloc w1 _ _
 have y2:w2.heap.size=f+1+1:=by rw [← y1,← hw2];exact World.size_alloc _ _
 have HG:=hid (g1.trans g2)
 have O1:=hid (o1.keep g2)
 have O2:=hid o2
 have HFS:=hid hf
 have HB:=hid hB
 have HB2:=hid (hB.keep ((g1.trans g2).mono hB.low))
 have H9:=hid h9
 have H8:=hid h8'
 have n0:=O1.out.cell_at (i:=0) rfl
 have n1:=O1.out.cell_at (i:=1) rfl
 have n4:=O1.out.cell_at (i:=4) rfl
 have nl:=O1.out.lt
 have r0:=O2.out.cell_at (i:=0) rfl
 have r1:=O2.out.cell_at (i:=1) rfl
 have rl:=O2.out.lt
 have e0:=O2.out.free 0
 have e1:=O2.out.free 1
 obtain ⟨Q,hQ⟩:∃ Q,FstRes (B.firstN (.mk 4 nm tx set subs)) W=Q:=⟨_,rfl⟩
 rw [hQ]
 have HQ:=hid hQ
 clear hB h9 hQ g1 g2 o1 o2 hL h8' hk
 obtain ⟨s,rest,hsub⟩:∃ s rest,subs=s::rest:=List.exists_cons_of_ne_nil hne
 have HSUB:=hid hsub
 have hL0:(0:Int) < (L:Int):=by have:=HL.out;rw [hsub] at this;simp only [List.length_cons] at this;omega
 have hL1:0 < L:=by omega
 have hnodes:=H9.out
 rw [hsub,NodesAt] at hnodes
 obtain ⟨⟨b,off,rfl,hbl,hnode⟩,-⟩:=hnodes
 simp only [Nat.zero_mul,Nat.add_zero] at hnode
 obtain ⟨u0,u1,u2,u3,u4,q0,q1,q2,q3,q4,hnode⟩:=hnode.vals
 obtain ⟨m0,m1,m2,m3,m4,m5,m6,m7,m8,rfl,rfl,rfl,rfl,rfl⟩:=hnode.forms
 have hbl2:b < W.heap.size:=Nat.lt_of_lt_of_le hbl HB.out.low
 have hcs:=HG.out.cells
 have z0:=(hcs b off hbl2).trans q0
 have z1:=(hcs b (off+1) hbl2).trans q1
 have z2:=(hcs b (off+2) hbl2).trans q2
 have z3:=(hcs b (off+3) hbl2).trans q3
 have z4:=(hcs b (off+4) hbl2).trans q4
 have zl:b < w2.heap.size:=Nat.lt_of_lt_of_le hbl2 HG.out.size
 have HC:=hid (HNO.out s (by rw [hsub];exact List.mem_cons_self ..) w2 lim bk V _ _ _ _ _ HB2.out (hnode.keep (HG.out.mono HB.out.low)))
 clear hcs q0 q1 q2 q3 q4 hnode hbl hsub hbl2
 go_enter Tryz.func33,Tryz.ntmps33
 go_wp2_with fail
 refine HC.out.mono ?_
 rintro e w3 ⟨y,rfl,hy,hg⟩
 have HY:=hid hy
 have HG3:=hid (HG.out.trans hg)
 obtain ⟨fx,hfx⟩:∃ fx,B.firstN s=fx:=⟨_,rfl⟩
 have HFX:=hid hfx
 rw [hfx] at HY ⊢
 obtain ⟨ya,yc,hye⟩:=loose_form hy
 rw [hfx] at hye
 obtain ⟨yn,hyn⟩:∃ yn,fx.w.length=yn:=⟨_,rfl⟩
 rw [hyn] at hye
 subst hye
 have o23:=O2.out.keep hg
 clear r0 r1 rl e0 e1
 have r0:=o23.cell_at (i:=0) rfl
 have r1:=o23.cell_at (i:=1) rfl
 have rl:=o23.lt
 have e0:=o23.free 0
 have e1:=o23.free 1
 obtain ⟨hbt,hot⟩:=set_two o23 (.int .i64 fx.long) (.slice ya yn yc)
 have HOT:=hid hot
 have HG2:=hid (show Grew W _ from Below.trans HG3.out (hbt.below HG3.out.size fun q e=>by have:=HFS.out;omega))
 have HY2:=hid (hbt.row HY.out fun k hk e=>type_ne (row_type HY.out hk).2.2 (owns_type o23) (by decide) e)
 clear hbt hot o23 hg hy
 go_wp2_with fail
 refine bodyPost_ret (results_cell_row (d:=Tryz.prog.underlying 91 |>.getD default) rfl _ _ (f+1) 91 _ (0,0) rfl HOT.out rfl rfl rfl) rfl ?_
 rw [← HQ.out]
 have e:B.firstN (.mk 4 nm tx set subs)=fx:=by rw [Bk.firstN,if_neg (by omega),if_neg (by omega),if_neg (by omega),if_neg (by omega),if_pos rfl,HSUB.out,Bk.firstHd,HFX.out]
 rw [e]
 exact ⟨_,rfl,HY2.out,HG2.out⟩
set_option maxHeartbeats 4000000 in
set_option maxRecDepth 20000 in
theorem sfi_ref (B:Bk) (nm tx:ByteArray) (set:List (Int × Int)) (subs:List Nd) (hin:B.rule nm < B.firsts.length):FirstOk B (.mk 5 nm tx set subs):=by
 intro W lim bk V v0 v1 v2 v3 v4 hB hN
 rw [NodeAt] at hN
 obtain ⟨hk,h1,h2,h3,h4,h5,⟨sa,sc,h6,h6',h7⟩,na,nc,h8,h8',h9⟩:=hN
 obtain rfl:=Option.some.inj h3
 obtain rfl:=Option.some.inj h4
 obtain rfl:=Option.some.inj h5
 obtain rfl:=Option.some.inj h6
 obtain rfl:=Option.some.inj h8
 clear h3 h4 h5 h6 h7 h8 h1 h2 h6'
 obtain ⟨L,hL⟩:∃ L,subs.length=L:=⟨_,rfl⟩
 have HL:=hid hL
 rw [hL] at h8'
 rw [hL]
 obtain ⟨f,hf⟩:∃ f,W.heap.size=f:=⟨_,rfl⟩
 obtain ⟨w1,hw1⟩:∃ w1,W.alloc (.cells #[.int .u8 5,.string nm,.string tx,.slice sa set.length sc,.slice na L nc] 80)=w1:=⟨_,rfl⟩
 have g1:Grew W w1:=hw1▸grew_alloc W _
 have o1:Owns w1 f [.int .u8 5,.string nm,.string tx,.slice sa set.length sc,.slice na L nc] 80:=hf▸hw1▸Owns.alloc W _ _
 have y1:w1.heap.size=f+1:=by rw [← hf,← hw1];exact World.size_alloc _ _
 obtain ⟨w2,hw2⟩:∃ w2,w1.alloc (.cells #[.int .i64 0,.slice none 0 0] 91)=w2:=⟨_,rfl⟩
 have g2:Grew w1 w2:=hw2▸grew_alloc w1 _
 have o2:Owns w2 (f+1) [.int .i64 0,.slice none 0 0] 91:=y1▸hw2▸Owns.alloc w1 _ _
 have y2:w2.heap.size=f+1+1:=by rw [← y1,← hw2];exact World.size_alloc _ _
 have HG:=hid (g1.trans g2)
 have O1:=hid (o1.keep g2)
 have O2:=hid o2
 have HFS:=hid hf
 have HB:=hid hB
 have HB2:=hid (hB.keep ((g1.trans g2).mono hB.low))
 have H9:=hid h9
 have H8:=hid h8'
 have n0:=O1.out.cell_at (i:=0) rfl
 have n1:=O1.out.cell_at (i:=1) rfl
 have n4:=O1.out.cell_at (i:=4) rfl
 have nl:=O1.out.lt
 have r0:=O2.out.cell_at (i:=0) rfl
 have r1:=O2.out.cell_at (i:=1) rfl
 have rl:=O2.out.lt
 have e0:=O2.out.free 0
 have e1:=O2.out.free 1
 obtain ⟨Q,hQ⟩:∃ Q,FstRes (B.firstN (.mk 5 nm tx set subs)) W=Q:=⟨_,rfl⟩
 rw [hQ]
 have HQ:=hid hQ
 clear hB h9 hQ g1 g2 o1 o2 hL h8' hk
 have hb4:=HB2.out
 have b0:=hb4.box.cell_at (i:=0) rfl
 have b4:=hb4.box.cell_at (i:=4) rfl
 have bl:=hb4.box.lt
 obtain ⟨t0,ht0⟩:∃ t0,B.rule nm=t0:=⟨_,rfl⟩
 have HT0:=hid ht0
 rw [ht0] at hin
 have HLK:Hid (∀ w,Grew w2 w→(Instr.lookup 26 (.map (some V.rm)) (.string nm) false).run Tryz.prog w=.ok (.int .i64 (t0:Int)) w):=hid fun w hw=>by
  rw [← HT0.out]
  have:=HB2.out.rlo
  exact run_name (by rw [hw.block _ (by have:=HB2.out.low;omega)];exact HB2.out.rules) nm
 obtain ⟨x,off,e,xl,x0,v,x1,xr,xo⟩:=hb4.firsts t0 hin
 rw [e] at b4
 have hxl:x < w2.heap.size:=Nat.lt_of_lt_of_le xl hb4.low
 obtain ⟨fx,hfx⟩:∃ fx,B.firsts[t0]=fx:=⟨_,rfl⟩
 have HFX:Hid (B.firsts[t0]? = some fx):=hid (by rw [List.getElem?_eq_getElem hin,hfx])
 rw [hfx] at x0 xr
 obtain ⟨ya,yc,rfl⟩:=loose_form xr
 have HY:=hid xr
 obtain ⟨yn,hyn⟩:∃ yn,fx.w.length=yn:=⟨_,rfl⟩
 rw [hyn] at x1 HY
 have HYN:=hid hyn
 obtain ⟨fn,hfn⟩:∃ fn,B.firsts.length=fn:=⟨_,rfl⟩
 rw [hfn] at b4 hin
 have hini:(t0:Int) < (fn:Int):=by omega
 clear hb4 ht0 xr xo e hfx hyn xl hfn y2
 go_enter Tryz.func33,Tryz.ntmps33
 go_upto_region 5 with fail
 refine wp_region_hav_lit follows (by kernel_rfl) ?_
 iterate 13 ((first | refine HavG.skip (fun _=>rfl) ?_ | (refine HavG.val (fun _=>rfl) ?_ (fun x w hw _=>?_) ?_;rotate_left;(focus (have hc:=hw.cells;have hlk:=HLK.out w hw;clear hw;go_simp;first | done | rfl))));simp only [Act.put,sia,scz,scs])
 refine HavG.tail0 (by kernel_rfl) (by kernel_rfl) (by kernel_rfl) (fun _ _ d _ _ h=>by cases d<;>exact h) (by decide) (fun x w3 hg hd=>?_)
 clear hd b0 b4 bl x0 x1 hxl n0 n1 n4 nl r0 r1 rl e0 e1
 have HG3:=hid (HG.out.trans hg)
 have o23:=O2.out.keep hg
 have r0:=o23.cell_at (i:=0) rfl
 have r1:=o23.cell_at (i:=1) rfl
 have rl:=o23.lt
 have e0:=o23.free 0
 have e1:=o23.free 1
 have hy3:=(But.of_grew (F:=fun _=>False) hg).row HY.out (fun _ _ h=>h)
 obtain ⟨hbt,hot⟩:=set_two o23 (.int .i64 fx.long) (.slice ya yn yc)
 have HOT:=hid hot
 have HG2:=hid (show Grew W _ from Below.trans HG3.out (hbt.below HG3.out.size fun q e=>by have:=HFS.out;omega))
 have HY2:=hid (hbt.row hy3 fun k hk e=>type_ne (row_type hy3 hk).2.2 (owns_type o23) (by decide) e)
 clear hbt hot o23 hg hy3
 go_wp2_with fail
 refine bodyPost_ret (results_cell_row (d:=Tryz.prog.underlying 91 |>.getD default) rfl _ _ (f+1) 91 _ (0,0) rfl HOT.out rfl rfl rfl) rfl ?_
 rw [← HQ.out]
 have e:B.firstN (.mk 5 nm tx set subs)=fx:=by rw [Bk.firstN,if_neg (by omega),if_pos rfl,HT0.out,HFX.out];rfl
 rw [e,← HYN.out] at *
 exact ⟨_,rfl,HY2.out,HG2.out⟩
set_option maxHeartbeats 4000000 in
set_option maxRecDepth 20000 in
theorem sfi_tok (B:Bk) (nm tx:ByteArray) (set:List (Int × Int)) (subs:List Nd):FirstOk B (.mk 6 nm tx set subs):=by
 intro W lim bk V v0 v1 v2 v3 v4 hB hN
 rw [NodeAt] at hN
 obtain ⟨hk,h1,h2,h3,h4,h5,⟨sa,sc,h6,h6',h7⟩,na,nc,h8,h8',h9⟩:=hN
 obtain rfl:=Option.some.inj h3
 obtain rfl:=Option.some.inj h4
 obtain rfl:=Option.some.inj h5
 obtain rfl:=Option.some.inj h6
 obtain rfl:=Option.some.inj h8
 clear h3 h4 h5 h6 h7 h8 h1 h2 h6'
 obtain ⟨L,hL⟩:∃ L,subs.length=L:=⟨_,rfl⟩
 have HL:=hid hL
 rw [hL] at h8'
 rw [hL]
 obtain ⟨f,hf⟩:∃ f,W.heap.size=f:=⟨_,rfl⟩
 obtain ⟨w1,hw1⟩:∃ w1,W.alloc (.cells #[.int .u8 6,.string nm,.string tx,.slice sa set.length sc,.slice na L nc] 80)=w1:=⟨_,rfl⟩
 have g1:Grew W w1:=hw1▸grew_alloc W _
 have o1:Owns w1 f [.int .u8 6,.string nm,.string tx,.slice sa set.length sc,.slice na L nc] 80:=hf▸hw1▸Owns.alloc W _ _
 have y1:w1.heap.size=f+1:=by rw [← hf,← hw1];exact World.size_alloc _ _
 obtain ⟨w2,hw2⟩:∃ w2,w1.alloc (.cells #[.int .i64 0,.slice none 0 0] 91)=w2:=⟨_,rfl⟩
 have g2:Grew w1 w2:=hw2▸grew_alloc w1 _
 have o2:Owns w2 (f+1) [.int .i64 0,.slice none 0 0] 91:=y1▸hw2▸Owns.alloc w1 _ _
 have y2:w2.heap.size=f+1+1:=by rw [← y1,← hw2];exact World.size_alloc _ _
 have HG:=hid (g1.trans g2)
 have O1:=hid (o1.keep g2)
 have O2:=hid o2
 have HFS:=hid hf
 have HB:=hid hB
 have HB2:=hid (hB.keep ((g1.trans g2).mono hB.low))
 have H9:=hid h9
 have H8:=hid h8'
 have n0:=O1.out.cell_at (i:=0) rfl
 have n1:=O1.out.cell_at (i:=1) rfl
 have n4:=O1.out.cell_at (i:=4) rfl
 have nl:=O1.out.lt
 have r0:=O2.out.cell_at (i:=0) rfl
 have r1:=O2.out.cell_at (i:=1) rfl
 have rl:=O2.out.lt
 have e0:=O2.out.free 0
 have e1:=O2.out.free 1
 obtain ⟨Q,hQ⟩:∃ Q,FstRes (B.firstN (.mk 6 nm tx set subs)) W=Q:=⟨_,rfl⟩
 rw [hQ]
 have HQ:=hid hQ
 clear hB h9 hQ g1 g2 o1 o2 hL h8' hk
 have hb4:=HB2.out
 have b0:=hb4.box.cell_at (i:=1) rfl
 have bl:=hb4.box.lt
 obtain ⟨t0,ht0⟩:∃ t0,B.tok nm=t0:=⟨_,rfl⟩
 have HT0:=hid ht0
 have HLK:Hid (∀ w,Grew w2 w→(Instr.lookup 26 (.map (some V.tm)) (.string nm) false).run Tryz.prog w=.ok (.int .i64 (t0:Int)) w):=hid fun w hw=>by
  rw [← HT0.out]
  have:=HB2.out.rlo
  exact run_name (by rw [hw.block _ (by have:=HB2.out.low;omega)];exact HB2.out.tokens) nm
 clear hb4 ht0 y2
 go_enter Tryz.func33,Tryz.ntmps33
 go_upto_region 3 with fail
 refine wp_region_hav_lit follows (by kernel_rfl) ?_
 iterate 7 ((first | refine HavG.skip (fun _=>rfl) ?_ | (refine HavG.val (fun _=>rfl) ?_ (fun x w hw _=>?_) ?_;rotate_left;(focus (have hc:=hw.cells;have hlk:=HLK.out w hw;clear hw;go_simp;first | done | rfl))));simp only [Act.put,sia,scz,scs])
 refine HavG.any (fun _=>rfl) (fun v w=>∃ sb,v=.slice (some ⟨sb,0,none⟩) 1 1∧w2.heap.size≤sb∧Owns w sb [.int .i64 (t0:Int)] 3) (fun v w w' hg ⟨t,h1,h2,h3⟩=>⟨t,h1,h2,h3.keep hg⟩) (fun x w hw hd=>?_) ?_
 ·clear hd
  have HW:=hid hw
  clear hw
  go_simp
  exact ⟨grew_alloc w _,HW.out.size,Owns.alloc w _ _⟩
 simp only [Act.put,sia,scz,scs]
 refine HavG.any (fun _=>rfl) (fun v w=>∃ sb,v=.agg #[.int .i64 1,.slice (some ⟨sb,0,none⟩) 1 1]∧w2.heap.size≤sb∧Owns w sb [.int .i64 (t0:Int)] 3) (fun v w w' hg ⟨t,h1,h2,h3⟩=>⟨t,h1,h2,h3.keep hg⟩) (fun x w hw hd=>?_) ?_
 ·obtain ⟨t,ht1,ht2,ht3⟩:=hd _ (List.mem_append_right _ (List.mem_singleton.2 rfl)) (by kernel_rfl)
  dsimp only at ht1
  clear hd
  have HT:=hid ht3
  clear ht3 hw
  simp only [ht1]
  go_simp
  refine ⟨Grew.refl _,?_⟩
  first | exact HT.out | exact ⟨ht2,HT.out⟩
 simp only [Act.put,sia,scz,scs]
 refine HavG.tail (by kernel_rfl) (by kernel_rfl) (fun x w3 hg hd=>?_)
 obtain ⟨sb,hx,hsb,hos⟩:=hd _ (List.mem_append_right _ (List.mem_singleton.2 rfl))
 dsimp only at hx
 clear hd
 simp only [hx]
 clear hx b0 bl n0 n1 n4 nl r0 r1 rl e0 e1
 have HG3:=hid (HG.out.trans hg)
 have o23:=O2.out.keep hg
 have r0:=o23.cell_at (i:=0) rfl
 have r1:=o23.cell_at (i:=1) rfl
 have rl:=o23.lt
 have e0:=o23.free 0
 have e1:=o23.free 1
 have hy3:looseRow w3 0 3 1 (.slice (some ⟨sb,0,none⟩) 1 1) 1 (intVs [(t0:Int)]):=⟨rfl,.inr ⟨sb,1,_,rfl,Nat.zero_le _,hos,Nat.le_refl _,by decide,by simp,rfl⟩⟩
 obtain ⟨hbt,hot⟩:=set_two o23 (.int .i64 1) (.slice (some ⟨sb,0,none⟩) 1 1)
 have HOT:=hid hot
 have HG2:=hid (show Grew W _ from Below.trans HG3.out (hbt.below HG3.out.size fun q e=>by have:=HFS.out;omega))
 have HY2:=hid (hbt.row hy3 fun k hk e=>type_ne (row_type hy3 hk).2.2 (owns_type o23) (by decide) e)
 clear hbt hot o23 hg hy3 hos hsb
 go_wp2_with fail
 refine bodyPost_ret (results_cell_row (d:=Tryz.prog.underlying 91 |>.getD default) rfl _ _ (f+1) 91 _ (0,0) rfl HOT.out rfl rfl rfl) rfl ?_
 rw [← HQ.out]
 have e:B.firstN (.mk 6 nm tx set subs)=⟨1,[(t0:Int)]⟩:=by rw [Bk.firstN,if_pos rfl,HT0.out]
 rw [e]
 exact ⟨_,rfl,HY2.out,HG2.out⟩
set_option maxHeartbeats 4000000 in
set_option maxRecDepth 20000 in
theorem sfi_seq (B:Bk) (hfo:∀ f∈B.firsts,f.Ok) (nm tx:ByteArray) (set:List (Int × Int)) (subs:List Nd) (hno:∀ s∈subs,FirstOk B s):FirstOk B (.mk 1 nm tx set subs):=by
 intro W lim bk V v0 v1 v2 v3 v4 hB hN
 rw [NodeAt] at hN
 obtain ⟨hk,h1,h2,h3,h4,h5,⟨sa,sc,h6,h6',h7⟩,na,nc,h8,h8',h9⟩:=hN
 obtain rfl:=Option.some.inj h3
 obtain rfl:=Option.some.inj h4
 obtain rfl:=Option.some.inj h5
 obtain rfl:=Option.some.inj h6
 obtain rfl:=Option.some.inj h8
 clear h3 h4 h5 h6 h7 h8 h1 h2 h6'
 obtain ⟨L,hL⟩:∃ L,subs.length=L:=⟨_,rfl⟩
 have HL:=hid hL
 rw [hL] at h8'
 rw [hL]
 obtain ⟨f,hf⟩:∃ f,W.heap.size=f:=⟨_,rfl⟩
 obtain ⟨w1,hw1⟩:∃ w1,W.alloc (.cells #[.int .u8 1,.string nm,.string tx,.slice sa set.length sc,.slice na L nc] 80)=w1:=⟨_,rfl⟩
 have g1:Grew W w1:=hw1▸grew_alloc W _
 have o1:Owns w1 f [.int .u8 1,.string nm,.string tx,.slice sa set.length sc,.slice na L nc] 80:=hf▸hw1▸Owns.alloc W _ _
 have y1:w1.heap.size=f+1:=by rw [← hf,← hw1];exact World.size_alloc _ _
 obtain ⟨w2,hw2⟩:∃ w2,w1.alloc (.cells #[.int .i64 0,.slice none 0 0] 91)=w2:=⟨_,rfl⟩
 have g2:Grew w1 w2:=hw2▸grew_alloc w1 _
 have o2:Owns w2 (f+1) [.int .i64 0,.slice none 0 0] 91:=y1▸hw2▸Owns.alloc w1 _ _
 have y2:w2.heap.size=f+1+1:=by rw [← y1,← hw2];exact World.size_alloc _ _
 have HG:=hid (g1.trans g2)
 have O1:=hid (o1.keep g2)
 have O2:=hid o2
 have HFS:=hid hf
 have HB:=hid hB
 have HB2:=hid (hB.keep ((g1.trans g2).mono hB.low))
 have H9:=hid h9
 have H8:=hid h8'
 have n0:=O1.out.cell_at (i:=0) rfl
 have n1:=O1.out.cell_at (i:=1) rfl
 have n4:=O1.out.cell_at (i:=4) rfl
 have nl:=O1.out.lt
 have r0:=O2.out.cell_at (i:=0) rfl
 have r1:=O2.out.cell_at (i:=1) rfl
 have rl:=O2.out.lt
 have e0:=O2.out.free 0
 have e1:=O2.out.free 1
 obtain ⟨Q,hQ⟩:∃ Q,FstRes (B.firstN (.mk 1 nm tx set subs)) W=Q:=⟨_,rfl⟩
 rw [hQ]
 have HQ:=hid hQ
 clear hB h9 hQ g1 g2 o1 o2 hL h8' hk
 have HNO:=hid hno
 have HFO:=hid hfo
 have hl9:L≤140737488355328:=Nat.le_trans H8.out (Nat.min_le_left _ _)
 clear hno hfo
 go_enter Tryz.func33,Tryz.ntmps33
 go_wp2_with fail
 clear hf hw1 hw2 y1 y2 n0 n1 n4 nl r0 r1 rl e0 e1
 go_loopw [43] (fun c wr=>∃ (j:Nat) (o:Fst) (a:Option Addr) (cc:Nat),c=.int .i64 j∧j≤L∧Hid (Grew W wr)∧Hid (Owns wr (f+1) [.int .i64 o.long,.slice a o.w.length cc] 91)∧Hid (looseRow wr 0 3 1 (.slice a o.w.length cc) o.w.length (intVs o.w))∧Hid o.Ok∧Hid (B.firstSeq subs ⟨0,[]⟩=B.firstSeq (subs.drop j) o)) (fun c _=>L - (intOf c).toNat)
 case atStart=>exact ⟨0,⟨0,[]⟩,none,0,rfl,by omega,HG.out,O2.out,nil_ints _ _,ok_zero,rfl⟩
 case round =>
  obtain ⟨j,o,a,cc,rfl,hj,HGW,HOR,HRW,HOK,HEQ⟩:=hrel
  by_cases hlt:j < L
  ·as_aux_lemma =>
    have hlt':j < subs.length:=by rw [HL.out];exact hlt
    have hbl:Below lim W wr:=HGW.out.mono HB.out.low
    have hsub:=(show NodesAt wr lim na 0 subs from H9.out.keep hbl)
    obtain ⟨b,off,rfl,hb,hnode⟩:=hsub.get hlt'
    simp only [Nat.zero_add] at hnode
    have hdr:=List.drop_eq_getElem_cons hlt'
    have hjs:=List.getElem_mem hlt'
    obtain ⟨s,hs⟩:∃ s,subs[j]=s:=⟨_,rfl⟩
    rw [hs] at hnode hdr hjs
    have HDR:=hid hdr
    have HJS:=hid hjs
    clear hs hjs hdr
    obtain ⟨u0,u1,u2,u3,u4,e0,e1,e2,e3,e4,hnode⟩:=hnode.vals
    obtain ⟨m0,m1,m2,m3,m4,m5,m6,m7,m8,rfl,rfl,rfl,rfl,rfl⟩:=hnode.forms
    have hlw:lim≤wr.heap.size:=Nat.le_trans HB.out.low hbl.size
    have hb':=Nat.lt_of_lt_of_le hb hlw
    obtain ⟨wa,hwa⟩:∃ wa,wr.alloc (.cells #[.int .u8 m0,.string m1,.string m2,.slice m3 m4 m5,.slice m6 m7 m8] 80)=wa:=⟨_,rfl⟩
    have ga:Grew wr wa:=hwa▸grew_alloc wr _
    have oa:Owns wa wr.heap.size [.int .u8 m0,.string m1,.string m2,.slice m3 m4 m5,.slice m6 m7 m8] 80:=hwa▸Owns.alloc wr _ _
    have ya:wa.heap.size=wr.heap.size+1:=by rw [← hwa];exact World.size_alloc _ _
    have HGA:=hid (HGW.out.trans ga)
    have hNa:=hnode.keep (ga.mono hlw)
    have hla:lim≤wa.heap.size:=Nat.le_trans hlw ga.size
    have HOA:=hid oa
    have ORA:=hid (HOR.out.keep ga)
    have HRA:=hid ((But.of_grew (F:=fun _=>False) ga).row HRW.out (fun _ _ h=>h))
    have hBA:=HB.out.keep (HGA.out.mono HB.out.low)
    obtain ⟨fx,hfx⟩:∃ fx,B.firstN s=fx:=⟨_,rfl⟩
    have HFX:=hid hfx
    have HXO:=hid (show fx.Ok from hfx▸Bk.firstN_ok HFO.out s)
    have HCALL:Hid (∀ w,Grew wa w→Calls Tryz.prog 33 #[.pointer (some ⟨bk,0,none⟩),.agg #[.int .u8 m0,.string m1,.string m2,.slice m3 m4 m5,.slice m6 m7 m8]] w (FstRes fx w)):=hid fun w hw =>
     hfx▸HNO.out s HJS.out w lim bk V _ _ _ _ _ (hBA.keep (hw.mono hla)) (hNa.keep (hw.mono hla))
    have p0:=ORA.out.cell_at (i:=0) rfl
    have p1:=ORA.out.cell_at (i:=1) rfl
    have pl:=ORA.out.lt
    have t0:=oa.cell_at (i:=0) rfl
    have t1:=oa.cell_at (i:=1) rfl
    have t2:=oa.cell_at (i:=2) rfl
    have t3:=oa.cell_at (i:=3) rfl
    have t4:=oa.cell_at (i:=4) rfl
    have tl:=oa.lt
    clear hfx hBA hsub hnode hla hNa oa hlt' hbl
    go_upto_region 10 with fail
    clear hwa e0 e1 e2 e3 e4 hb hb' ya hlw
    generalize wr.heap.size=wz at *
    refine wp_region_hav_lit follows (by kernel_rfl) ?_
    iterate 3 ((first | refine HavG.skip (fun _=>rfl) ?_ | (refine HavG.val (fun _=>rfl) ?_ (fun x w hw _=>?_) ?_;rotate_left;(focus (have hc:=hw.cells;clear hw;go_simp;first | done | rfl))));simp only [Act.put,sia,scz,scs])
    refine HavG.any (fun _=>rfl) (fun v w=>∃ u,v=.agg #[.int .i64 fx.long,u]∧looseRow w 0 3 1 u fx.w.length (intVs fx.w)) (fun v w w' hg ⟨u,h1,h2⟩=>⟨u,h1,(But.of_grew (F:=fun _=>False) hg).row h2 (fun _ _ h=>h)⟩) (fun x w hw hd=>?_) ?_
    ·clear hd
     have HW:=hid hw
     clear hw
     go_simp
     refine (HCALL.out w HW.out).mono ?_
     rintro e w' ⟨u,rfl,hu,hg⟩
     exact ⟨hg,u,rfl,hu⟩
    simp only [Act.put,sia,scz,scs]
    refine HavG.any (fun _=>rfl) (fun v w=>∃ u,v=.agg #[.int .i64 (joinF o fx).long,u]∧looseRow w 0 3 1 u (joinF o fx).w.length (intVs (joinF o fx).w)) (fun v w w' hg ⟨u,h1,h2⟩=>⟨u,h1,(But.of_grew (F:=fun _=>False) hg).row h2 (fun _ _ h=>h)⟩) (fun x w hw hd=>?_) ?_
    ·obtain ⟨u,hx,hu⟩:=hd _ (List.mem_append_right _ (List.mem_singleton.2 rfl)) (by kernel_rfl)
     dsimp only at hx
     have HU:=hid hu
     have HW:=hid hw
     clear hd hw hu
     simp only [hx]
     go_simp
     refine (sjoined_ok o fx HOK.out.fine HXO.out.fine w _ u (loose_ints ((But.of_grew (F:=fun _=>False) HW.out).row HRA.out (fun _ _ h=>h))) (loose_ints HU.out)).mono ?_
     rintro e w' ⟨u,rfl,hu,hg⟩
     exact ⟨hg,u,rfl,hu⟩
    simp only [Act.put,sia,scz,scs]
    refine HavG.tail (by kernel_rfl) (by kernel_rfl) (fun x w3 hg hd=>?_)
    obtain ⟨u,hx,hu⟩:=hd _ (List.mem_append_right _ (List.mem_singleton.2 rfl))
    dsimp only at hx
    clear hd
    simp only [hx]
    clear hx p0 p1 pl t0 t1 t2 t3 t4 tl
    obtain ⟨jf,hjf⟩:∃ jf,joinF o fx=jf:=⟨_,rfl⟩
    have HJF:=hid hjf
    rw [hjf] at hu ⊢
    obtain ⟨ja,jc,rfl⟩:=loose_form hu
    have o23:=ORA.out.keep hg
    have r0:=o23.cell_at (i:=0) rfl
    have r1:=o23.cell_at (i:=1) rfl
    have rl:=o23.lt
    have e0:=o23.free 0
    have e1:=o23.free 1
    obtain ⟨hbt,hot⟩:=set_two o23 (.int .i64 jf.long) (.slice ja jf.w.length jc)
    have HOT:=hid hot
    have HG9:=hid (show Grew W _ from Below.trans (HGA.out.trans hg) (hbt.below (HGA.out.trans hg).size fun q e=>by have:=HFS.out;omega))
    have HY9:=hid (hbt.row hu fun k hk e=>type_ne (row_type hu hk).2.2 (owns_type o23) (by decide) e)
    clear hbt hot o23
    clear hg hu hjf
    go_wp2_with fail
    refine ⟨⟨j+1,jf,ja,jc,by go_num,by omega,HG9.out,HOT.out,HY9.out,HJF.out▸joinF_ok HOK.out HXO.out,?_⟩,by simp [intOf];omega⟩
    refine hid ?_
    rw [HEQ.out,HDR.out,Bk.firstSeq,HFX.out,HJF.out]
  ·obtain rfl:j=L:=by omega
   have r0:=HOR.out.cell_at (i:=0) rfl
   have r1:=HOR.out.cell_at (i:=1) rfl
   have rl:=HOR.out.lt
   have e0:=HOR.out.free 0
   have e1:=HOR.out.free 1
   go_wp2_with fail
   rw [setCell_same HOR.out (i:=0) (v:=.int .i64 o.long) rfl,setCell_same HOR.out (i:=1) (v:=.slice a o.w.length cc) rfl]
   refine bodyPost_ret (results_cell_row (d:=Tryz.prog.underlying 91 |>.getD default) rfl _ _ (f+1) 91 _ (0,0) rfl HOR.out rfl rfl rfl) rfl ?_
   rw [← HQ.out]
   have e:B.firstN (.mk 1 nm tx set subs)=o:=by
    rw [Bk.firstN,if_neg (by omega),if_neg (by omega),if_pos rfl,HEQ.out,List.drop_of_length_le (by rw [HL.out];exact Nat.le_refl _),Bk.firstSeq]
   rw [e]
   exact ⟨_,rfl,HRW.out,HGW.out⟩
set_option maxHeartbeats 4000000 in
set_option maxRecDepth 20000 in
theorem sfi_alt (B:Bk) (hfo:∀ f∈B.firsts,f.Ok) (nm tx:ByteArray) (set:List (Int × Int)) (subs:List Nd) (hno:∀ s∈subs,FirstOk B s):FirstOk B (.mk 0 nm tx set subs):=by
 intro W lim bk V v0 v1 v2 v3 v4 hB hN
 rw [NodeAt] at hN
 obtain ⟨hk,h1,h2,h3,h4,h5,⟨sa,sc,h6,h6',h7⟩,na,nc,h8,h8',h9⟩:=hN
 obtain rfl:=Option.some.inj h3
 obtain rfl:=Option.some.inj h4
 obtain rfl:=Option.some.inj h5
 obtain rfl:=Option.some.inj h6
 obtain rfl:=Option.some.inj h8
 clear h3 h4 h5 h6 h7 h8 h1 h2 h6'
 obtain ⟨L,hL⟩:∃ L,subs.length=L:=⟨_,rfl⟩
 have HL:=hid hL
 rw [hL] at h8'
 rw [hL]
 obtain ⟨f,hf⟩:∃ f,W.heap.size=f:=⟨_,rfl⟩
 obtain ⟨w1,hw1⟩:∃ w1,W.alloc (.cells #[.int .u8 0,.string nm,.string tx,.slice sa set.length sc,.slice na L nc] 80)=w1:=⟨_,rfl⟩
 have g1:Grew W w1:=hw1▸grew_alloc W _
 have o1:Owns w1 f [.int .u8 0,.string nm,.string tx,.slice sa set.length sc,.slice na L nc] 80:=hf▸hw1▸Owns.alloc W _ _
 have y1:w1.heap.size=f+1:=by rw [← hf,← hw1];exact World.size_alloc _ _
 obtain ⟨w2,hw2⟩:∃ w2,w1.alloc (.cells #[.int .i64 0,.slice none 0 0] 91)=w2:=⟨_,rfl⟩
 have g2:Grew w1 w2:=hw2▸grew_alloc w1 _
 have o2:Owns w2 (f+1) [.int .i64 0,.slice none 0 0] 91:=y1▸hw2▸Owns.alloc w1 _ _
 have y2:w2.heap.size=f+1+1:=by rw [← y1,← hw2];exact World.size_alloc _ _
 have HG:=hid (g1.trans g2)
 have O1:=hid (o1.keep g2)
 have O2:=hid o2
 have HFS:=hid hf
 have HB:=hid hB
 have HB2:=hid (hB.keep ((g1.trans g2).mono hB.low))
 have H9:=hid h9
 have H8:=hid h8'
 have n0:=O1.out.cell_at (i:=0) rfl
 have n1:=O1.out.cell_at (i:=1) rfl
 have n4:=O1.out.cell_at (i:=4) rfl
 have nl:=O1.out.lt
 have r0:=O2.out.cell_at (i:=0) rfl
 have r1:=O2.out.cell_at (i:=1) rfl
 have rl:=O2.out.lt
 have e0:=O2.out.free 0
 have e1:=O2.out.free 1
 obtain ⟨Q,hQ⟩:∃ Q,FstRes (B.firstN (.mk 0 nm tx set subs)) W=Q:=⟨_,rfl⟩
 rw [hQ]
 have HQ:=hid hQ
 clear hB h9 hQ g1 g2 o1 o2 hL h8' hk
 have HNO:=hid hno
 have HFO:=hid hfo
 have hl9:L≤140737488355328:=Nat.le_trans H8.out (Nat.min_le_left _ _)
 clear hno hfo
 go_enter Tryz.func33,Tryz.ntmps33
 have hb3:=set_but (i:=0) (v:=.int .i64 (-1)) O2.out
 have O3:=hid (show Owns _ (f+1) [.int .i64 (-1),.slice none 0 0] 91 from O2.out.set 0 (.int .i64 (-1)))
 have HG3:=hid (show Grew W _ from Below.trans HG.out (hb3.below HG.out.size fun q e=>by have:=HFS.out;omega))
 clear hb3
 go_wp2_with fail
 clear hf hw1 hw2 y1 y2 n0 n1 n4 nl r0 r1 rl e0 e1
 generalize w2.setCell ⟨f+1,0,none⟩ (.int .i64 (-1))=w2' at *
 go_loopw [59] (fun c wr=>∃ (j:Nat) (o:Fst) (a:Option Addr) (cc:Nat),c=.int .i64 j∧j≤L∧Hid (Grew W wr)∧Hid (Owns wr (f+1) [.int .i64 o.long,.slice a o.w.length cc] 91)∧Hid (looseRow wr 0 3 1 (.slice a o.w.length cc) o.w.length (intVs o.w))∧Hid o.Ok∧Hid (B.firstAlt subs ⟨-1,[]⟩=B.firstAlt (subs.drop j) o)) (fun c _=>L - (intOf c).toNat)
 case atStart=>exact ⟨0,⟨-1,[]⟩,none,0,rfl,by omega,HG3.out,O3.out,nil_ints _ _,ok_none,rfl⟩
 case round =>
  obtain ⟨j,o,a,cc,rfl,hj,HGW,HOR,HRW,HOK,HEQ⟩:=hrel
  by_cases hlt:j < L
  ·as_aux_lemma =>
    have hlt':j < subs.length:=by rw [HL.out];exact hlt
    have hbl:Below lim W wr:=HGW.out.mono HB.out.low
    have hsub:=(show NodesAt wr lim na 0 subs from H9.out.keep hbl)
    obtain ⟨b,off,rfl,hb,hnode⟩:=hsub.get hlt'
    simp only [Nat.zero_add] at hnode
    have hdr:=List.drop_eq_getElem_cons hlt'
    have hjs:=List.getElem_mem hlt'
    obtain ⟨s,hs⟩:∃ s,subs[j]=s:=⟨_,rfl⟩
    rw [hs] at hnode hdr hjs
    have HDR:=hid hdr
    have HJS:=hid hjs
    clear hs hjs hdr
    obtain ⟨u0,u1,u2,u3,u4,e0,e1,e2,e3,e4,hnode⟩:=hnode.vals
    obtain ⟨m0,m1,m2,m3,m4,m5,m6,m7,m8,rfl,rfl,rfl,rfl,rfl⟩:=hnode.forms
    have hlw:lim≤wr.heap.size:=Nat.le_trans HB.out.low hbl.size
    have hb':=Nat.lt_of_lt_of_le hb hlw
    obtain ⟨wa,hwa⟩:∃ wa,wr.alloc (.cells #[.int .u8 m0,.string m1,.string m2,.slice m3 m4 m5,.slice m6 m7 m8] 80)=wa:=⟨_,rfl⟩
    have ga:Grew wr wa:=hwa▸grew_alloc wr _
    have oa:Owns wa wr.heap.size [.int .u8 m0,.string m1,.string m2,.slice m3 m4 m5,.slice m6 m7 m8] 80:=hwa▸Owns.alloc wr _ _
    have ya:wa.heap.size=wr.heap.size+1:=by rw [← hwa];exact World.size_alloc _ _
    have HGA:=hid (HGW.out.trans ga)
    have hNa:=hnode.keep (ga.mono hlw)
    have hla:lim≤wa.heap.size:=Nat.le_trans hlw ga.size
    have HOA:=hid oa
    have ORA:=hid (HOR.out.keep ga)
    have HRA:=hid ((But.of_grew (F:=fun _=>False) ga).row HRW.out (fun _ _ h=>h))
    have hBA:=HB.out.keep (HGA.out.mono HB.out.low)
    obtain ⟨fx,hfx⟩:∃ fx,B.firstN s=fx:=⟨_,rfl⟩
    have HFX:=hid hfx
    have HXO:=hid (show fx.Ok from hfx▸Bk.firstN_ok HFO.out s)
    have HCALL:Hid (∀ w,Grew wa w→Calls Tryz.prog 33 #[.pointer (some ⟨bk,0,none⟩),.agg #[.int .u8 m0,.string m1,.string m2,.slice m3 m4 m5,.slice m6 m7 m8]] w (FstRes fx w)):=hid fun w hw =>
     hfx▸HNO.out s HJS.out w lim bk V _ _ _ _ _ (hBA.keep (hw.mono hla)) (hNa.keep (hw.mono hla))
    have p0:=ORA.out.cell_at (i:=0) rfl
    have p1:=ORA.out.cell_at (i:=1) rfl
    have pl:=ORA.out.lt
    have t0:=oa.cell_at (i:=0) rfl
    have t1:=oa.cell_at (i:=1) rfl
    have t2:=oa.cell_at (i:=2) rfl
    have t3:=oa.cell_at (i:=3) rfl
    have t4:=oa.cell_at (i:=4) rfl
    have tl:=oa.lt
    clear hfx hBA hsub hnode hla hNa oa hlt' hbl
    go_wp2_with fail
    refine (HCALL.out wa (Grew.refl _)).mono ?_
    rintro e w3 ⟨u,rfl,hu,hg⟩
    obtain ⟨xa,xc,rfl⟩:=loose_form hu
    clear hwa e0 e1 e2 e3 e4 hb hb' ya hlw p0 p1 pl t0 t1 t2 t3 t4 tl
    obtain ⟨w4,hw4⟩:∃ w4,w3.alloc (.cells #[.int .i64 fx.long,.slice xa fx.w.length xc] 91)=w4:=⟨_,rfl⟩
    have g4:Grew w3 w4:=hw4▸grew_alloc w3 _
    have o4:Owns w4 w3.heap.size [.int .i64 fx.long,.slice xa fx.w.length xc] 91:=hw4▸Owns.alloc w3 _ _
    have HG4:=hid ((HGA.out.trans hg).trans g4)
    have OR4:=hid (ORA.out.keep (hg.trans g4))
    have HR4:=hid ((But.of_grew (F:=fun _=>False) (hg.trans g4)).row HRA.out (fun _ _ h=>h))
    have HU4:=hid ((But.of_grew (F:=fun _=>False) g4).row hu (fun _ _ h=>h))
    have O4:=hid o4
    have p0:=OR4.out.cell_at (i:=0) rfl
    have p1:=OR4.out.cell_at (i:=1) rfl
    have pl:=OR4.out.lt
    have x0:=o4.cell_at (i:=0) rfl
    have x1:=o4.cell_at (i:=1) rfl
    have xl:=o4.lt
    have HC:=hid (sbefore_ok fx o (by have:=HXO.out.fine.2.2;omega) (by have:=HOK.out.fine.2.2;omega) w4 _ _ (loose_ints HU4.out) (loose_ints HR4.out))
    clear g4 o4 hu hg
    go_wp2_with fail
    refine HC.out.mono ?_
    rintro e w5 ⟨rfl,hg5⟩
    clear p0 p1 pl x0 x1 xl hw4 HC
    have HG5:=hid (HG4.out.trans hg5)
    have OR5:=hid (OR4.out.keep hg5)
    have HR5:=hid ((But.of_grew (F:=fun _=>False) hg5).row HR4.out (fun _ _ h=>h))
    have HU5:=hid ((But.of_grew (F:=fun _=>False) hg5).row HU4.out (fun _ _ h=>h))
    have O5:=O4.out.keep hg5
    have x0:=O5.cell_at (i:=0) rfl
    have x1:=O5.cell_at (i:=1) rfl
    have xl:=O5.lt
    obtain ⟨tst,htst⟩:∃ t,firstLt fx o=t:=⟨_,rfl⟩
    have HT:=hid htst
    rw [htst]
    clear htst hg5 O5
    cases tst
    ·go_wp2_with fail
     refine ⟨⟨j+1,o,a,cc,by go_num,by omega,HG5.out,OR5.out,HR5.out,HOK.out,?_⟩,by simp [intOf];omega⟩
     refine hid ?_
     rw [HEQ.out,HDR.out,Bk.firstAlt,HFX.out,HT.out]
     rfl
    ·obtain ⟨ja,hja⟩:∃ ja,xa=ja:=⟨_,rfl⟩
     obtain ⟨jc,hjc⟩:∃ jc,xc=jc:=⟨_,rfl⟩
     subst hja hjc
     have o23:=OR5.out
     have r0:=o23.cell_at (i:=0) rfl
     have r1:=o23.cell_at (i:=1) rfl
     have rl:=o23.lt
     have e0:=o23.free 0
     have e1:=o23.free 1
     obtain ⟨hbt,hot⟩:=set_two o23 (.int .i64 fx.long) (.slice xa fx.w.length xc)
     have HOT:=hid hot
     have HG9:=hid (show Grew W _ from Below.trans (HG5.out) (hbt.below (HG5.out).size fun q e=>by have:=HFS.out;omega))
     have HY9:=hid (hbt.row HU5.out fun k hk e=>type_ne (row_type HU5.out hk).2.2 (owns_type o23) (by decide) e)
     clear hbt hot o23
     go_wp2_with fail
     refine ⟨⟨j+1,fx,xa,xc,by go_num,by omega,HG9.out,HOT.out,HY9.out,HXO.out,?_⟩,by simp [intOf];omega⟩
     refine hid ?_
     rw [HEQ.out,HDR.out,Bk.firstAlt,HFX.out,HT.out]
     rfl
  ·obtain rfl:j=L:=by omega
   have r0:=HOR.out.cell_at (i:=0) rfl
   have r1:=HOR.out.cell_at (i:=1) rfl
   have rl:=HOR.out.lt
   have e0:=HOR.out.free 0
   have e1:=HOR.out.free 1
   go_wp2_with fail
   rw [setCell_same HOR.out (i:=0) (v:=.int .i64 o.long) rfl,setCell_same HOR.out (i:=1) (v:=.slice a o.w.length cc) rfl]
   refine bodyPost_ret (results_cell_row (d:=Tryz.prog.underlying 91 |>.getD default) rfl _ _ (f+1) 91 _ (0,0) rfl HOR.out rfl rfl rfl) rfl ?_
   rw [← HQ.out]
   have e:B.firstN (.mk 0 nm tx set subs)=o:=by
    rw [Bk.firstN,if_neg (by omega),if_neg (by omega),if_neg (by omega),if_pos rfl,HEQ.out,List.drop_of_length_le (by rw [HL.out];exact Nat.le_refl _),Bk.firstAlt]
   rw [e]
   exact ⟨_,rfl,HRW.out,HGW.out⟩
theorem sfirst_ok (B:Bk) (hfo:∀ f∈B.firsts,f.Ok) (hin:∀ nm,B.rule nm < B.firsts.length):∀ n:Nd,n.lp→FirstOk B n:=by
 refine Nd.ind ?_
 intro k nm tx set subs ih hlp
 rw [Nd.lp] at hlp
 have hno:∀ s∈subs,FirstOk B s:=fun s hs=>by
  obtain ⟨i,hi,rfl⟩:=List.getElem_of_mem hs
  exact ih i hi (hlp.2.mem _ hs)
 by_cases k0:k=0
 ·subst k0;exact sfi_alt B hfo nm tx set subs hno
 by_cases k1:k=1
 ·subst k1;exact sfi_seq B hfo nm tx set subs hno
 by_cases k4:k=4
 ·subst k4;exact sfi_plus B nm tx set subs (hlp.1 (by omega)) hno
 by_cases k5:k=5
 ·subst k5;exact sfi_ref B nm tx set subs (hin nm)
 by_cases k6:k=6
 ·subst k6;exact sfi_tok B nm tx set subs
 exact sfi_other B k nm tx set subs (by omega)
end Go.Proofs.YtppjmdanckdobaaGreatDoor
