/- harbingerlaw27.Grammar: the example's grammar in memory. Printed by gensagram.py. -/
import Derived.Test.YtppjmdanckdobaaGreatDoorQR41
import Derived.Test.YtppjmdanckdobaaGreatDoorQR44
import Derived.Test.YtppjmdanckdobaaGreatDoorQR10
namespace Go.Proofs.YtppjmdanckdobaaGreatDoor
open Go.RowKit
open Lib (hid)
theorem set_four {w:World} {b T:Nat} {x0 x1 x2 x3:Value} (h:Owns w b [x0,x1,x2,x3] T) (y0 y1 y2 y3:Value) :
  But (fun q=>q=b) w ((((w.setCell ⟨b,0,none⟩ y0).setCell ⟨b,1,none⟩ y1).setCell ⟨b,2,none⟩ y2).setCell ⟨b,3,none⟩ y3)∧Owns ((((w.setCell ⟨b,0,none⟩ y0).setCell ⟨b,1,none⟩ y1).setCell ⟨b,2,none⟩ y2).setCell ⟨b,3,none⟩ y3) b [y0,y1,y2,y3] T:=by
 have h1:=h.set 0 y0
 have h2:=h1.set 1 y1
 have h3:=h2.set 2 y2
 exact ⟨(((set_but h).trans (set_but h1) fun _ _ e=>e).trans (set_but h2) fun _ _ e=>e).trans (set_but h3) fun _ _ e=>e,h3.set 3 y3⟩
def Gram27 (W:World) (e:Ending) (W':World):Prop:=∃ v3,e=.returned (.agg #[.string { data:=#[71] },.int .i64 1,.int .i64 9,v3])∧GrAt W' W'.heap.size (some (.string { data:=#[71] })) (some (.int .i64 1)) (some (.int .i64 9)) (some v3) g27∧Grew W W'
set_option maxHeartbeats 4000000 in
set_option maxRecDepth 40000 in
theorem gram27_at {w:World} {f:Nat} (h3:Owns w (f+1+1+1) [.int .u8 5,.string { data:=#[98] },.string { data:=#[] },.slice none 0 0,.slice none 0 0] 80) (h4:Owns w (f+1+1+1+1) [.int .u8 6,.string { data:=#[65] },.string { data:=#[] },.slice none 0 0,.slice none 0 0,.int .u8 2,.string { data:=#[] },.string { data:=#[] },.slice none 0 0,.slice (some ⟨f+1+1+1,0,none⟩) 1 1] 80) (h6:Owns w (f+1+1+1+1+1+1) [.int .u8 6,.string { data:=#[65] },.string { data:=#[] },.slice none 0 0,.slice none 0 0,.int .u8 5,.string { data:=#[97] },.string { data:=#[] },.slice none 0 0,.slice none 0 0] 80) (h9:Owns w (f+1+1+1+1+1+1+1+1+1) [.int .u8 1,.string { data:=#[] },.string { data:=#[] },.slice none 0 0,.slice (some ⟨f+1+1+1+1,0,none⟩) 2 2,.int .u8 6,.string { data:=#[66] },.string { data:=#[] },.slice none 0 0,.slice none 0 0] 80) (h10:Owns w (f+1+1+1+1+1+1+1+1+1+1) [.string { data:=#[97] },.int .u8 0,.int .u8 0,.string { data:=#[] },.string { data:=#[] },.slice none 0 0,.slice (some ⟨f+1+1+1+1+1+1+1+1+1,0,none⟩) 2 2,.int .i64 0,.int .i64 0,.int .i64 0,.string { data:=#[98] },.int .u8 0,.int .u8 1,.string { data:=#[] },.string { data:=#[] },.slice none 0 0,.slice (some ⟨f+1+1+1+1+1+1,0,none⟩) 2 2,.int .i64 0,.int .i64 0,.int .i64 0,.string { data:=#[65] },.int .u8 1,.int .u8 8,.string { data:=#[] },.string { data:=#[120] },.slice none 0 0,.slice none 0 0,.int .i64 0,.int .i64 0,.int .i64 0,.string { data:=#[66] },.int .u8 1,.int .u8 8,.string { data:=#[] },.string { data:=#[121] },.slice none 0 0,.slice none 0 0,.int .i64 0,.int .i64 0,.int .i64 0] 84):GrAt w w.heap.size (some (.string { data:=#[71] })) (some (.int .i64 1)) (some (.int .i64 9)) (some (.slice (some ⟨f+1+1+1+1+1+1+1+1+1+1,0,none⟩) 4 4)) g27:=by
 have c3_0:=h3.cell_at (i:=0) rfl
 have c3_1:=h3.cell_at (i:=1) rfl
 have c3_2:=h3.cell_at (i:=2) rfl
 have c3_3:=h3.cell_at (i:=3) rfl
 have c3_4:=h3.cell_at (i:=4) rfl
 have l3:=h3.lt
 clear h3
 have c4_0:=h4.cell_at (i:=0) rfl
 have c4_1:=h4.cell_at (i:=1) rfl
 have c4_2:=h4.cell_at (i:=2) rfl
 have c4_3:=h4.cell_at (i:=3) rfl
 have c4_4:=h4.cell_at (i:=4) rfl
 have c4_5:=h4.cell_at (i:=5) rfl
 have c4_6:=h4.cell_at (i:=6) rfl
 have c4_7:=h4.cell_at (i:=7) rfl
 have c4_8:=h4.cell_at (i:=8) rfl
 have c4_9:=h4.cell_at (i:=9) rfl
 have l4:=h4.lt
 clear h4
 have c6_0:=h6.cell_at (i:=0) rfl
 have c6_1:=h6.cell_at (i:=1) rfl
 have c6_2:=h6.cell_at (i:=2) rfl
 have c6_3:=h6.cell_at (i:=3) rfl
 have c6_4:=h6.cell_at (i:=4) rfl
 have c6_5:=h6.cell_at (i:=5) rfl
 have c6_6:=h6.cell_at (i:=6) rfl
 have c6_7:=h6.cell_at (i:=7) rfl
 have c6_8:=h6.cell_at (i:=8) rfl
 have c6_9:=h6.cell_at (i:=9) rfl
 have l6:=h6.lt
 clear h6
 have c9_0:=h9.cell_at (i:=0) rfl
 have c9_1:=h9.cell_at (i:=1) rfl
 have c9_2:=h9.cell_at (i:=2) rfl
 have c9_3:=h9.cell_at (i:=3) rfl
 have c9_4:=h9.cell_at (i:=4) rfl
 have c9_5:=h9.cell_at (i:=5) rfl
 have c9_6:=h9.cell_at (i:=6) rfl
 have c9_7:=h9.cell_at (i:=7) rfl
 have c9_8:=h9.cell_at (i:=8) rfl
 have c9_9:=h9.cell_at (i:=9) rfl
 have l9:=h9.lt
 clear h9
 have c10_0:=h10.cell_at (i:=0) rfl
 have c10_1:=h10.cell_at (i:=1) rfl
 have c10_2:=h10.cell_at (i:=2) rfl
 have c10_3:=h10.cell_at (i:=3) rfl
 have c10_4:=h10.cell_at (i:=4) rfl
 have c10_5:=h10.cell_at (i:=5) rfl
 have c10_6:=h10.cell_at (i:=6) rfl
 have c10_7:=h10.cell_at (i:=7) rfl
 have c10_8:=h10.cell_at (i:=8) rfl
 have c10_9:=h10.cell_at (i:=9) rfl
 have c10_10:=h10.cell_at (i:=10) rfl
 have c10_11:=h10.cell_at (i:=11) rfl
 have c10_12:=h10.cell_at (i:=12) rfl
 have c10_13:=h10.cell_at (i:=13) rfl
 have c10_14:=h10.cell_at (i:=14) rfl
 have c10_15:=h10.cell_at (i:=15) rfl
 have c10_16:=h10.cell_at (i:=16) rfl
 have c10_17:=h10.cell_at (i:=17) rfl
 have c10_18:=h10.cell_at (i:=18) rfl
 have c10_19:=h10.cell_at (i:=19) rfl
 have c10_20:=h10.cell_at (i:=20) rfl
 have c10_21:=h10.cell_at (i:=21) rfl
 have c10_22:=h10.cell_at (i:=22) rfl
 have c10_23:=h10.cell_at (i:=23) rfl
 have c10_24:=h10.cell_at (i:=24) rfl
 have c10_25:=h10.cell_at (i:=25) rfl
 have c10_26:=h10.cell_at (i:=26) rfl
 have c10_27:=h10.cell_at (i:=27) rfl
 have c10_28:=h10.cell_at (i:=28) rfl
 have c10_29:=h10.cell_at (i:=29) rfl
 have c10_30:=h10.cell_at (i:=30) rfl
 have c10_31:=h10.cell_at (i:=31) rfl
 have c10_32:=h10.cell_at (i:=32) rfl
 have c10_33:=h10.cell_at (i:=33) rfl
 have c10_34:=h10.cell_at (i:=34) rfl
 have c10_35:=h10.cell_at (i:=35) rfl
 have c10_36:=h10.cell_at (i:=36) rfl
 have c10_37:=h10.cell_at (i:=37) rfl
 have c10_38:=h10.cell_at (i:=38) rfl
 have c10_39:=h10.cell_at (i:=39) rfl
 have l10:=h10.lt
 clear h10
 simp [GrAt,g27,a27,b27,t27,r27,x27,n27,RulesAt,RuleAt,NodesAt,NodeAt,RangesAt,reachN,InI64,ByteArray.size,and_assoc, *]
set_option maxHeartbeats 4000000 in
set_option maxRecDepth 40000 in
theorem grammar27_ok (W:World):Calls Tryz.prog 27 #[] W (Gram27 W):=by
 obtain ⟨Q,hQ⟩:∃ Q,Gram27 W=Q:=⟨_,rfl⟩
 rw [hQ]
 have HQ:=hid hQ
 clear hQ
 obtain ⟨f,hf⟩:∃ f,W.heap.size=f:=⟨_,rfl⟩
 have HFS:=hid hf
 have hs0:=hid hf
 go_enter Tryz.func27,Tryz.ntmps27
 go_upto_region 3 with fail
 obtain ⟨w1,hw1⟩:∃ w1,W.alloc (.cells #[.string { data:=#[] },.int .i64 0,.int .i64 0,.slice none 0 0] 44)=w1:=⟨_,rfl⟩
 have G1:=hid (show Grew W w1 from hw1▸grew_alloc W _)
 have O0:=hid (show Owns w1 (f) [.string { data:=#[] },.int .i64 0,.int .i64 0,.slice none 0 0] 44 from hf▸hw1▸Owns.alloc W _ _)
 have Y1:=hid (show w1.heap.size=f+1 by rw [← hf,← hw1];exact World.size_alloc _ _)
 rw [hw1]
 clear hw1
 clear hf
 obtain ⟨w2,hw2⟩:∃ w2,w1.alloc (.cells #[.int .u8 6,.string { data:=#[65] },.string { data:=#[] },.slice none 0 0,.slice none 0 0] 80)=w2:=⟨_,rfl⟩
 have G2:=hid (show Grew w1 w2 from hw2▸grew_alloc w1 _)
 have O1:=hid (show Owns w2 (f+1) [.int .u8 6,.string { data:=#[65] },.string { data:=#[] },.slice none 0 0,.slice none 0 0] 80 from Y1.out▸hw2▸Owns.alloc w1 _ _)
 have Y2:=hid (show w2.heap.size=f+1+1 by rw [← Y1.out,← hw2];exact World.size_alloc _ _)
 rw [hw2]
 clear hw2
 obtain ⟨w3,hw3⟩:∃ w3,w2.alloc (.cells #[.int .u8 6,.string { data:=#[66] },.string { data:=#[] },.slice none 0 0,.slice none 0 0] 80)=w3:=⟨_,rfl⟩
 have G3:=hid (show Grew w2 w3 from hw3▸grew_alloc w2 _)
 have O2:=hid (show Owns w3 (f+1+1) [.int .u8 6,.string { data:=#[66] },.string { data:=#[] },.slice none 0 0,.slice none 0 0] 80 from Y2.out▸hw3▸Owns.alloc w2 _ _)
 have Y3:=hid (show w3.heap.size=f+1+1+1 by rw [← Y2.out,← hw3];exact World.size_alloc _ _)
 rw [hw3]
 clear hw3
 have u1_h:=hid (O1.out.keep G3.out)
 have u1_0:=u1_h.out.cell_at (i:=0) rfl
 have u1_1:=u1_h.out.cell_at (i:=1) rfl
 have u1_2:=u1_h.out.cell_at (i:=2) rfl
 have u1_3:=u1_h.out.cell_at (i:=3) rfl
 have u1_4:=u1_h.out.cell_at (i:=4) rfl
 have u1_l:=u1_h.out.lt
 have hs3:=Y3.out
 go_upto_region 4 with fail
 clear u1_0 u1_1 u1_2 u1_3 u1_4 u1_l
 clear hs3
 obtain ⟨w4,hw4⟩:∃ w4,w3.alloc (.cells #[.int .u8 5,.string { data:=#[98] },.string { data:=#[] },.slice none 0 0,.slice none 0 0] 80)=w4:=⟨_,rfl⟩
 have G4:=hid (show Grew w3 w4 from hw4▸grew_alloc w3 _)
 have O3:=hid (show Owns w4 (f+1+1+1) [.int .u8 5,.string { data:=#[98] },.string { data:=#[] },.slice none 0 0,.slice none 0 0] 80 from Y3.out▸hw4▸Owns.alloc w3 _ _)
 have Y4:=hid (show w4.heap.size=f+1+1+1+1 by rw [← Y3.out,← hw4];exact World.size_alloc _ _)
 rw [hw4]
 clear hw4
 obtain ⟨w5,hw5⟩:∃ w5,w4.alloc (.cells #[.int .u8 6,.string { data:=#[65] },.string { data:=#[] },.slice none 0 0,.slice none 0 0,.int .u8 2,.string { data:=#[] },.string { data:=#[] },.slice none 0 0,.slice (some ⟨f+1+1+1,0,none⟩) 1 1] 80)=w5:=⟨_,rfl⟩
 have G5:=hid (show Grew w4 w5 from hw5▸grew_alloc w4 _)
 have O4:=hid (show Owns w5 (f+1+1+1+1) [.int .u8 6,.string { data:=#[65] },.string { data:=#[] },.slice none 0 0,.slice none 0 0,.int .u8 2,.string { data:=#[] },.string { data:=#[] },.slice none 0 0,.slice (some ⟨f+1+1+1,0,none⟩) 1 1] 80 from Y4.out▸hw5▸Owns.alloc w4 _ _)
 have Y5:=hid (show w5.heap.size=f+1+1+1+1+1 by rw [← Y4.out,← hw5];exact World.size_alloc _ _)
 rw [hw5]
 clear hw5
 obtain ⟨w6,hw6⟩:∃ w6,w5.alloc (.cells #[.int .u8 1,.string { data:=#[] },.string { data:=#[] },.slice none 0 0,.slice (some ⟨f+1+1+1+1,0,none⟩) 2 2] 80)=w6:=⟨_,rfl⟩
 have G6:=hid (show Grew w5 w6 from hw6▸grew_alloc w5 _)
 have O5:=hid (show Owns w6 (f+1+1+1+1+1) [.int .u8 1,.string { data:=#[] },.string { data:=#[] },.slice none 0 0,.slice (some ⟨f+1+1+1+1,0,none⟩) 2 2] 80 from Y5.out▸hw6▸Owns.alloc w5 _ _)
 have Y6:=hid (show w6.heap.size=f+1+1+1+1+1+1 by rw [← Y5.out,← hw6];exact World.size_alloc _ _)
 rw [hw6]
 clear hw6
 have u2_h:=hid (O1.out.keep (((G3.out.trans G4.out).trans G5.out).trans G6.out))
 have u2_0:=u2_h.out.cell_at (i:=0) rfl
 have u2_1:=u2_h.out.cell_at (i:=1) rfl
 have u2_2:=u2_h.out.cell_at (i:=2) rfl
 have u2_3:=u2_h.out.cell_at (i:=3) rfl
 have u2_4:=u2_h.out.cell_at (i:=4) rfl
 have u2_l:=u2_h.out.lt
 have hs6:=Y6.out
 go_upto_region 5 with fail
 clear u2_0 u2_1 u2_2 u2_3 u2_4 u2_l
 clear hs6
 obtain ⟨w7,hw7⟩:∃ w7,w6.alloc (.cells #[.int .u8 6,.string { data:=#[65] },.string { data:=#[] },.slice none 0 0,.slice none 0 0,.int .u8 5,.string { data:=#[97] },.string { data:=#[] },.slice none 0 0,.slice none 0 0] 80)=w7:=⟨_,rfl⟩
 have G7:=hid (show Grew w6 w7 from hw7▸grew_alloc w6 _)
 have O6:=hid (show Owns w7 (f+1+1+1+1+1+1) [.int .u8 6,.string { data:=#[65] },.string { data:=#[] },.slice none 0 0,.slice none 0 0,.int .u8 5,.string { data:=#[97] },.string { data:=#[] },.slice none 0 0,.slice none 0 0] 80 from Y6.out▸hw7▸Owns.alloc w6 _ _)
 have Y7:=hid (show w7.heap.size=f+1+1+1+1+1+1+1 by rw [← Y6.out,← hw7];exact World.size_alloc _ _)
 rw [hw7]
 clear hw7
 obtain ⟨w8,hw8⟩:∃ w8,w7.alloc (.cells #[.int .u8 1,.string { data:=#[] },.string { data:=#[] },.slice none 0 0,.slice (some ⟨f+1+1+1+1+1+1,0,none⟩) 2 2] 80)=w8:=⟨_,rfl⟩
 have G8:=hid (show Grew w7 w8 from hw8▸grew_alloc w7 _)
 have O7:=hid (show Owns w8 (f+1+1+1+1+1+1+1) [.int .u8 1,.string { data:=#[] },.string { data:=#[] },.slice none 0 0,.slice (some ⟨f+1+1+1+1+1+1,0,none⟩) 2 2] 80 from Y7.out▸hw8▸Owns.alloc w7 _ _)
 have Y8:=hid (show w8.heap.size=f+1+1+1+1+1+1+1+1 by rw [← Y7.out,← hw8];exact World.size_alloc _ _)
 rw [hw8]
 clear hw8
 have hs8:=Y8.out
 go_upto_region 6 with fail
 clear hs8
 obtain ⟨w9,hw9⟩:∃ w9,w8.alloc (.cells #[.string { data:=#[71] },.int .i64 1,.int .i64 9,.slice none 0 0] 44)=w9:=⟨_,rfl⟩
 have G9:=hid (show Grew w8 w9 from hw9▸grew_alloc w8 _)
 have O8:=hid (show Owns w9 (f+1+1+1+1+1+1+1+1) [.string { data:=#[71] },.int .i64 1,.int .i64 9,.slice none 0 0] 44 from Y8.out▸hw9▸Owns.alloc w8 _ _)
 have Y9:=hid (show w9.heap.size=f+1+1+1+1+1+1+1+1+1 by rw [← Y8.out,← hw9];exact World.size_alloc _ _)
 rw [hw9]
 clear hw9
 have u3_h:=hid (O5.out.keep ((G7.out.trans G8.out).trans G9.out))
 have u3_0:=u3_h.out.cell_at (i:=0) rfl
 have u3_1:=u3_h.out.cell_at (i:=1) rfl
 have u3_2:=u3_h.out.cell_at (i:=2) rfl
 have u3_3:=u3_h.out.cell_at (i:=3) rfl
 have u3_4:=u3_h.out.cell_at (i:=4) rfl
 have u3_l:=u3_h.out.lt
 have u4_h:=hid (O2.out.keep (((((G4.out.trans G5.out).trans G6.out).trans G7.out).trans G8.out).trans G9.out))
 have u4_0:=u4_h.out.cell_at (i:=0) rfl
 have u4_1:=u4_h.out.cell_at (i:=1) rfl
 have u4_2:=u4_h.out.cell_at (i:=2) rfl
 have u4_3:=u4_h.out.cell_at (i:=3) rfl
 have u4_4:=u4_h.out.cell_at (i:=4) rfl
 have u4_l:=u4_h.out.lt
 have hs9:=Y9.out
 obtain ⟨w10,hw10⟩:∃ w10,w9.alloc (.cells #[.int .u8 1,.string { data:=#[] },.string { data:=#[] },.slice none 0 0,.slice (some ⟨f+1+1+1+1,0,none⟩) 2 2,.int .u8 6,.string { data:=#[66] },.string { data:=#[] },.slice none 0 0,.slice none 0 0] 80)=w10:=⟨_,rfl⟩
 have G10:=hid (show Grew w9 w10 from hw10▸grew_alloc w9 _)
 have O9:=hid (show Owns w10 (f+1+1+1+1+1+1+1+1+1) [.int .u8 1,.string { data:=#[] },.string { data:=#[] },.slice none 0 0,.slice (some ⟨f+1+1+1+1,0,none⟩) 2 2,.int .u8 6,.string { data:=#[66] },.string { data:=#[] },.slice none 0 0,.slice none 0 0] 80 from Y9.out▸hw10▸Owns.alloc w9 _ _)
 have Y10:=hid (show w10.heap.size=f+1+1+1+1+1+1+1+1+1+1 by rw [← Y9.out,← hw10];exact World.size_alloc _ _)
 have u5_h:=hid (O7.out.keep (G9.out.trans G10.out))
 have u5_0:=u5_h.out.cell_at (i:=0) rfl
 have u5_1:=u5_h.out.cell_at (i:=1) rfl
 have u5_2:=u5_h.out.cell_at (i:=2) rfl
 have u5_3:=u5_h.out.cell_at (i:=3) rfl
 have u5_4:=u5_h.out.cell_at (i:=4) rfl
 have u5_l:=u5_h.out.lt
 have hs10:=Y10.out
 obtain ⟨w11,hw11⟩:∃ w11,w10.alloc (.cells #[.string { data:=#[97] },.int .u8 0,.int .u8 0,.string { data:=#[] },.string { data:=#[] },.slice none 0 0,.slice (some ⟨f+1+1+1+1+1+1+1+1+1,0,none⟩) 2 2,.int .i64 0,.int .i64 0,.int .i64 0,.string { data:=#[98] },.int .u8 0,.int .u8 1,.string { data:=#[] },.string { data:=#[] },.slice none 0 0,.slice (some ⟨f+1+1+1+1+1+1,0,none⟩) 2 2,.int .i64 0,.int .i64 0,.int .i64 0,.string { data:=#[65] },.int .u8 1,.int .u8 8,.string { data:=#[] },.string { data:=#[120] },.slice none 0 0,.slice none 0 0,.int .i64 0,.int .i64 0,.int .i64 0,.string { data:=#[66] },.int .u8 1,.int .u8 8,.string { data:=#[] },.string { data:=#[121] },.slice none 0 0,.slice none 0 0,.int .i64 0,.int .i64 0,.int .i64 0] 84)=w11:=⟨_,rfl⟩
 have G11:=hid (show Grew w10 w11 from hw11▸grew_alloc w10 _)
 have O10:=hid (show Owns w11 (f+1+1+1+1+1+1+1+1+1+1) [.string { data:=#[97] },.int .u8 0,.int .u8 0,.string { data:=#[] },.string { data:=#[] },.slice none 0 0,.slice (some ⟨f+1+1+1+1+1+1+1+1+1,0,none⟩) 2 2,.int .i64 0,.int .i64 0,.int .i64 0,.string { data:=#[98] },.int .u8 0,.int .u8 1,.string { data:=#[] },.string { data:=#[] },.slice none 0 0,.slice (some ⟨f+1+1+1+1+1+1,0,none⟩) 2 2,.int .i64 0,.int .i64 0,.int .i64 0,.string { data:=#[65] },.int .u8 1,.int .u8 8,.string { data:=#[] },.string { data:=#[120] },.slice none 0 0,.slice none 0 0,.int .i64 0,.int .i64 0,.int .i64 0,.string { data:=#[66] },.int .u8 1,.int .u8 8,.string { data:=#[] },.string { data:=#[121] },.slice none 0 0,.slice none 0 0,.int .i64 0,.int .i64 0,.int .i64 0] 84 from Y10.out▸hw11▸Owns.alloc w10 _ _)
 have Y11:=hid (show w11.heap.size=f+1+1+1+1+1+1+1+1+1+1+1 by rw [← Y10.out,← hw11];exact World.size_alloc _ _)
 have v8:=O8.out.keep (G10.out.trans G11.out)
 have v8_l:=v8.lt
 have v8_f:=v8.free 3
 have v8_c:=v8.cell_at (i:=3) rfl
 have V8:=hid v8
 clear v8
 go_upto_region 7 with fail
 clear u3_0 u3_1 u3_2 u3_3 u3_4 u3_l u4_0 u4_1 u4_2 u4_3 u4_4 u4_l u5_0 u5_1 u5_2 u5_3 u5_4 u5_l v8_l v8_f v8_c hs9 hs10
 clear hw10 hw11
 have k3:=O3.out.keep ((((((G5.out.trans G6.out).trans G7.out).trans G8.out).trans G9.out).trans G10.out).trans G11.out)
 have k4:=O4.out.keep (((((G6.out.trans G7.out).trans G8.out).trans G9.out).trans G10.out).trans G11.out)
 have k6:=O6.out.keep (((G8.out.trans G9.out).trans G10.out).trans G11.out)
 have k9:=O9.out.keep G11.out
 have k10:=O10.out.keep (Grew.refl w11)
 have v0:=O0.out.keep (((((((((G2.out.trans G3.out).trans G4.out).trans G5.out).trans G6.out).trans G7.out).trans G8.out).trans G9.out).trans G10.out).trans G11.out)
 have hbA:=set_but (i:=3) (v:=.slice (some ⟨f+1+1+1+1+1+1+1+1+1+1,0,none⟩) 4 4) V8.out
 have oA:=show Owns _ (f+1+1+1+1+1+1+1+1) [.string { data:=#[71] },.int .i64 1,.int .i64 9,.slice (some ⟨f+1+1+1+1+1+1+1+1+1+1,0,none⟩) 4 4] 44 from V8.out.set 3 (.slice (some ⟨f+1+1+1+1+1+1+1+1+1+1,0,none⟩) 4 4)
 have oB:=hbA.owns v0 (by omega)
 have hgr:=((((((((((G1.out.trans G2.out).trans G3.out).trans G4.out).trans G5.out).trans G6.out).trans G7.out).trans G8.out).trans G9.out).trans G10.out).trans G11.out)
 have k3:=hid (hbA.owns k3 (by omega))
 have k4:=hid (hbA.owns k4 (by omega))
 have k6:=hid (hbA.owns k6 (by omega))
 have k9:=hid (hbA.owns k9 (by omega))
 have k10:=hid (hbA.owns k10 (by omega))
 have hgA:=hid (show Grew W _ from Below.trans hgr (hbA.below hgr.size fun q e=>by have:=HFS.out;omega))
 clear v0 hbA hgr G1 G2 G3 G4 G5 G6 G7 G8 G9 G10 G11 O0 O1 O2 O3 O4 O5 O6 O7 O8 O9 O10 Y1 Y2 Y3 Y4 Y5 Y6 Y7 Y8 Y9 Y10 Y11 V8 hs0 u1_h u2_h u3_h u4_h u5_h
 generalize w11.setCell ⟨f+1+1+1+1+1+1+1+1,3,none⟩ (.slice (some ⟨f+1+1+1+1+1+1+1+1+1+1,0,none⟩) 4 4)=wA at *
 have a_0:=oA.cell_at (i:=0) rfl
 have b_0:=oB.cell_at (i:=0) rfl
 have e_0:=oB.free 0
 have a_1:=oA.cell_at (i:=1) rfl
 have b_1:=oB.cell_at (i:=1) rfl
 have e_1:=oB.free 1
 have a_2:=oA.cell_at (i:=2) rfl
 have b_2:=oB.cell_at (i:=2) rfl
 have e_2:=oB.free 2
 have a_3:=oA.cell_at (i:=3) rfl
 have b_3:=oB.cell_at (i:=3) rfl
 have e_3:=oB.free 3
 have a_l:=oA.lt
 have b_l:=oB.lt
 obtain ⟨hbC,oC⟩:=set_four oB (.string { data:=#[71] }) (.int .i64 1) (.int .i64 9) (.slice (some ⟨f+1+1+1+1+1+1+1+1+1+1,0,none⟩) 4 4)
 have k3:=hbC.owns k3.out (by omega)
 have k4:=hbC.owns k4.out (by omega)
 have k6:=hbC.owns k6.out (by omega)
 have k9:=hbC.owns k9.out (by omega)
 have k10:=hbC.owns k10.out (by omega)
 have HAT:=hid (gram27_at k3 k4 k6 k9 k10)
 have HGR:=hid (show Grew W _ from Below.trans hgA.out (hbC.below hgA.out.size fun q e=>by have:=HFS.out;omega))
 have OC:=hid oC
 clear oA oB oC hbC k3 k4 k6 k9 k10
 go_wp2_with fail
 refine bodyPost_ret (results_cell_row (d:=Tryz.prog.underlying 44 |>.getD default) rfl _ _ f 44 _ (0,0) rfl OC.out rfl rfl rfl) rfl ?_
 rw [← HQ.out]
 exact ⟨_,rfl,HAT.out,HGR.out⟩
end Go.Proofs.YtppjmdanckdobaaGreatDoor

/- SameNums;same of chapter 27: are lists of lists one? -/
namespace Go.Proofs.YtppjmdanckdobaaGreatDoor
open Go.RowKit
open Lib (hid)
set_option maxHeartbeats 1000000 in
set_option maxRecDepth 20000 in
theorem ssameI_ok (l m:List Int) (W:World) (v u:Value) (hl:l.length≤1000000) (hm:m.length≤1000000) (hv:IntsV W W.heap.size v l) (hu:IntsV W W.heap.size u m) :
  Calls Tryz.prog 37 #[v,u] W fun e W'=>e=.returned (.bool (decide (l=m)))∧Grew W W':=by
 obtain ⟨a,cap,rfl,hA⟩:=hv
 obtain ⟨b,cap',rfl,hB⟩:=hu
 go_enter Tryz.func37,Tryz.ntmps37
 by_cases hlen:l.length=m.length
 ·have hne:((l.length:Int) != (m.length:Int))=false:=by rw [hlen];simp
  have HLN:=hid hlen
  rw [hlen]
  rw [hlen] at hne
  clear hlen
  go_wp2
  go_loopw [5] (fun i wr=>∃ (j:Nat),i=.int .i64 j∧j≤m.length∧Hid (∀ i (h1:i < l.length) (h2:i < m.length),i < j→l[i]=m[i])∧Hid (Grew W wr)) (fun i _=>m.length - (intOf i).toNat)
  case atStart=>exact ⟨0,rfl,by omega,fun i _ _ h=>absurd h (by omega),Grew.refl W⟩
  case round =>
   obtain ⟨j,rfl,hj,hf,hbw⟩:=hrel
   by_cases hlt:j < m.length
   ·have hlt':j < l.length:=by rw [HLN.out];exact hlt
    obtain ⟨b1,o1,rfl,hb1,hc1⟩:=hA j hlt'
    obtain ⟨b2,o2,rfl,hb2,hc2⟩:=hB j hlt
    have hz:=hbw.out.size
    have d1:wr.cell? ⟨b1,o1+j,none⟩=some (.int .i64 l[j]):=by rw [hbw.out.cells _ _ hb1];exact hc1
    have d2:wr.cell? ⟨b2,o2+j,none⟩=some (.int .i64 m[j]):=by rw [hbw.out.cells _ _ hb2];exact hc2
    have l1:b1 < wr.heap.size:=by omega
    have l2:b2 < wr.heap.size:=by omega
    clear hA hB hc1 hc2 hb1 hb2 hz
    by_cases heq:l[j]=m[j]
    ·have HEQ:=hid heq
     rw [heq] at d1
     have hne2:(m[j] != m[j])=false:=by simp
     clear heq
     go_wp2_with fail
     refine wp_region_hav_lit follows (by kernel_rfl) ?_
     repeat ((first | refine HavG.skip (fun _=>rfl) ?_ | (refine HavG.val (fun _=>rfl) ?_ (fun x w hw _=>?_) ?_;rotate_left;(focus (have hc:=hw.cells;clear hw;go_simp;first | done | rfl))));simp only [Act.put,sia,scz,scs])
     refine HavG.tail (by kernel_rfl) (by kernel_rfl) (fun x w2 hw _=>?_)
     have HW:=hid hw
     clear hw
     go_wp2_with fail
     go_round
     case rel=>exact ⟨j+1,by go_num,by omega,fun i h1 h2 h3=>(by
      by_cases e:i=j
      ·subst e;exact HEQ.out
      ·exact hf.out i h1 h2 (by omega)),hbw.out.trans HW.out⟩
     case measure=>simp [intOf];omega
    ·have hne2:(l[j] != m[j])=true:=by simpa using heq
     have HEQ:=hid heq
     clear heq
     go_wp2_with fail
     refine wp_region_hav_lit follows (by kernel_rfl) ?_
     repeat ((first | refine HavG.skip (fun _=>rfl) ?_ | (refine HavG.val (fun _=>rfl) ?_ (fun x w hw _=>?_) ?_;rotate_left;(focus (have hc:=hw.cells;clear hw;go_simp;first | done | rfl))));simp only [Act.put,sia,scz,scs])
     refine HavG.tail (by kernel_rfl) (by kernel_rfl) (fun x w2 hw _=>?_)
     have HW:=hid hw
     clear hw
     go_wp2_with fail
     go_ret
     refine ⟨ret_bool ?_,hbw.out.trans HW.out⟩
     symm
     rw [decide_eq_false_iff_not]
     intro e
     subst e
     exact HEQ.out rfl
   ·go_wp2_with fail
    go_ret
    refine ⟨ret_bool ?_,hbw.out⟩
    symm
    rw [decide_eq_true_eq]
    exact List.ext_getElem HLN.out fun i h1 h2=>hf.out i h1 h2 (by omega)
 ·have hne:((l.length:Int) != (m.length:Int))=true:=by simp;omega
  have HLN:=hid hlen
  clear hlen
  go_wp2
  go_ret
  refine ⟨ret_bool ?_,Grew.refl W⟩
  symm
  rw [decide_eq_false_iff_not]
  exact fun e=>HLN.out (by rw [e])
theorem ssameNums_ok (l m:List Int) (W:World) (v u:Value) (hl:l.length≤1000000) (hm:m.length≤1000000) (hv:IntsV W W.heap.size v l) (hu:IntsV W W.heap.size u m) :
  Calls Tryz.prog 14 #[v,u] W fun e W'=>e=.returned (.bool (decide (l=m)))∧Grew W W':=by
 have HS:=hid (ssameI_ok l m W v u hl hm hv hu)
 obtain ⟨a,cap,rfl,hA⟩:=hv
 obtain ⟨b,cap',rfl,hB⟩:=hu
 clear hA hB
 go_enter Tryz.func14,Tryz.ntmps14
 go_wp2_with (go_at_call 37;refine HS.out.mono ?_;rintro e w' ⟨rfl,hb⟩)
 go_ret
 exact ⟨rfl,hb⟩
end Go.Proofs.YtppjmdanckdobaaGreatDoor
