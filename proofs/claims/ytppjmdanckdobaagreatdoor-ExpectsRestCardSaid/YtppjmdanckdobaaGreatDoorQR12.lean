/- cmp.Or, slices.Compare, before. -/
import Derived.Test.YtppjmdanckdobaaGreatDoorShelf
import Derived.Test.YtppjmdanckdobaaGreatDoorQR10
import Derived.Test.YtppjmdanckdobaaGreatDoorQR11
namespace Go.Proofs.YtppjmdanckdobaaGreatDoor
open Go.RowKit
open Lib (hid)
def cmpL:List Int→List Int→Int
 | [],[]=>0
 | [],_::_=>-1
 | _::_,[]=>1
 | x::r,y::s=>if Lib.compareInt x y≠0 then Lib.compareInt x y else cmpL r s
theorem cmpL_drop {l m:List Int} {j:Nat} (h1:j < l.length) (h2:j < m.length):cmpL (l.drop j) (m.drop j)=if Lib.compareInt l[j] m[j]≠0 then Lib.compareInt l[j] m[j] else cmpL (l.drop (j+1)) (m.drop (j+1)):=by
 rw [List.drop_eq_getElem_cons h1,List.drop_eq_getElem_cons h2,cmpL]
theorem cmpL_out {l m:List Int} {j:Nat} (h1:j < l.length) (h2:m.length≤j):cmpL (l.drop j) (m.drop j)=1:=by
 rw [List.drop_eq_getElem_cons h1,List.drop_eq_nil_of_le h2];rfl
theorem cmpL_end {l m:List Int} (h2:l.length≤m.length):cmpL (l.drop l.length) (m.drop l.length)=if l.length < m.length then -1 else 0:=by
 rw [List.drop_length]
 by_cases h:l.length < m.length
 ·rw [if_pos h,List.drop_eq_getElem_cons h];rfl
 ·rw [if_neg h,List.drop_eq_nil_of_le (by omega)];rfl
set_option maxHeartbeats 2000000 in
set_option maxRecDepth 20000 in
theorem slCompare_ok (l m:List Int) (hl:l.length≤1000000) (hm:m.length≤1000000) (W:World) (v u:Value) (hv:IntsV W W.heap.size v l) (hu:IntsV W W.heap.size u m) :
  Calls Tryz.prog 92 #[v,u] W fun e W'=>e=.returned (.int .i64 (cmpL l m))∧W'=W:=by
 obtain ⟨va,vc,rfl,hv⟩:=hv
 obtain ⟨ua,uc,rfl,hu⟩:=hu
 have HCMP:=hid (fun x y w=>Tryz.cmp_Compare_int x y w)
 obtain ⟨R,hR⟩:∃ R,cmpL l m=R:=⟨_,rfl⟩
 rw [hR]
 have HR:=hid hR
 have HV:=hid hv
 have HU:=hid hu
 obtain ⟨ln,hln⟩:∃ ln,l.length=ln:=⟨_,rfl⟩
 obtain ⟨mn,hmn⟩:∃ mn,m.length=mn:=⟨_,rfl⟩
 have HLN:=hid hln
 have HMN:=hid hmn
 rw [hln] at hl ⊢
 rw [hmn] at hm ⊢
 clear hR hv hu hln hmn
 go_enter Tryz.func92,Tryz.ntmps92
 go_wp2_with fail
 go_loopw [11] (fun c wr=>∃ (j:Nat),c=.int .i64 j∧j≤ln∧j≤mn∧Hid (cmpL (l.drop j) (m.drop j)=R)∧wr=W) (fun c _=>ln - (intOf c).toNat)
 case atStart=>exact ⟨0,rfl,by omega,by omega,HR.out,rfl⟩
 case round =>
  obtain ⟨j,rfl,hj,hjm,HC,rfl⟩:=hrel
  by_cases hlt:j < ln
  ·have h1:j < l.length:=by rw [HLN.out];exact hlt
   obtain ⟨b,off,rfl,hb,hc⟩:=HV.out j h1
   obtain ⟨x,hx⟩:∃ x,l[j]=x:=⟨_,rfl⟩
   rw [hx] at hc
   by_cases hlm:j < mn
   ·have h2:j < m.length:=by rw [HMN.out];exact hlm
    have hlmi:¬ (mn:Int)≤(j:Int):=by omega
    obtain ⟨b',off',rfl,hb',hc'⟩:=HU.out j h2
    obtain ⟨y,hy⟩:∃ y,m[j]=y:=⟨_,rfl⟩
    rw [hy] at hc'
    have hcm:=HC.out
    rw [cmpL_drop h1 h2,hx,hy] at hcm
    have HX:=hid (HCMP.out x y wr)
    obtain ⟨c,hcc⟩:∃ c,Lib.compareInt x y=c:=⟨_,rfl⟩
    rw [hcc] at hcm HX
    clear h1 h2 hx hy hcc
    by_cases h0:c=0
    ·subst h0
     rw [if_neg (by simp)] at hcm
     have HCM:=hid hcm
     clear hcm
     go_wp2_with fail
     refine HX.out.mono ?_
     rintro e w ⟨rfl,rfl⟩
     go_wp2_with fail
     exact ⟨⟨j+1,by go_num,by omega,by omega,HCM.out,by first | rfl | trivial⟩,by simp [intOf];omega⟩
    ·rw [if_pos h0] at hcm
     have q0:(c == 0)=false:=beq_eq_false_iff_ne.2 h0
     have q1:(c != 0)=true:=by simp [h0]
     have HCM:=hid hcm
     clear hcm
     go_wp2_with fail
     refine HX.out.mono ?_
     rintro e w ⟨rfl,rfl⟩
     go_wp2_with fail
     go_ret
     exact ⟨ret_int HCM.out,by first | rfl | trivial⟩
   ·have hlmi:(mn:Int)≤(j:Int):=by omega
    have hcm:=HC.out
    rw [cmpL_out h1 (by rw [HMN.out];omega)] at hcm
    have HCM:=hid hcm
    clear hcm h1 hx
    go_wp2_with fail
    go_ret
    exact ⟨ret_int HCM.out,by first | rfl | trivial⟩
  ·obtain rfl:j=ln:=by omega
   have hcm:=HC.out
   have e:=cmpL_end (l:=l) (m:=m) (by rw [HLN.out,HMN.out];exact hjm)
   rw [HLN.out,HMN.out] at e
   rw [e] at hcm
   clear e
   by_cases hmj:j < mn
   ·have hmji:(j:Int) < (mn:Int):=by omega
    rw [if_pos hmj] at hcm
    have HCM:=hid hcm
    clear hcm
    go_wp2_with fail
    go_ret
    exact ⟨ret_int HCM.out,by first | rfl | trivial⟩
   ·have hmji:¬ (j:Int) < (mn:Int):=by omega
    rw [if_neg hmj] at hcm
    have HCM:=hid hcm
    clear hcm
    go_wp2_with fail
    go_ret
    exact ⟨ret_int HCM.out,by first | rfl | trivial⟩
set_option maxHeartbeats 2000000 in
set_option maxRecDepth 20000 in
theorem cmpOr_ok (a c:Int) (b:Nat) (W:World) (h:Owns W b [.int .i64 a,.int .i64 c] 3):Calls Tryz.prog 90 #[.slice (some ⟨b,0,none⟩) 2 2] W fun e W'=>e=.returned (.int .i64 (if a≠0 then a else c))∧W'=W:=by
 have c0:=h.cell_at (i:=0) rfl
 have c1:=h.cell_at (i:=1) rfl
 have cl:=h.lt
 clear h
 go_enter Tryz.func90,Tryz.ntmps90
 go_wp2_with fail
 go_loopw [8] (fun x wr=>∃ (j:Nat),x=.int .i64 j∧j≤2∧(0 < j→a=0)∧(1 < j→c=0)∧wr=W) (fun x _=>2 - (intOf x).toNat)
 case atStart=>exact ⟨0,rfl,by omega,by omega,by omega,rfl⟩
 case round =>
  obtain ⟨j,rfl,hj,ha,hc,rfl⟩:=hrel
  have h3:j=0∨j=1∨j=2:=by omega
  rcases h3 with rfl | rfl | rfl
  ·by_cases h0:a=0
   ·subst h0
    go_wp2_with fail
    exact ⟨⟨1,rfl,by omega,by simp,by omega,by first | rfl | trivial⟩,by simp [intOf]⟩
   ·have q1:(a != 0)=true:=by simp [h0]
    go_wp2_with fail
    go_ret
    exact ⟨ret_int (by simp),by first | rfl | trivial⟩
  ·obtain rfl:=ha (by omega)
   by_cases h0:c=0
   ·subst h0
    go_wp2_with fail
    exact ⟨⟨2,rfl,by omega,by simp,by simp,by first | rfl | trivial⟩,by simp [intOf]⟩
   ·have q1:(c != 0)=true:=by simp [h0]
    go_wp2_with fail
    go_ret
    exact ⟨ret_int (by simp),by first | rfl | trivial⟩
  ·obtain rfl:=ha (by omega)
   obtain rfl:=hc (by omega)
   go_wp2_with fail
   go_ret
   exact ⟨ret_int (by simp),by first | rfl | trivial⟩
def firstLt (f g:Fst):Bool :=
 if f.long = -1∨g.long = -1 then decide (f.long≠-1)
 else decide ((if Lib.compareInt f.long g.long≠0 then Lib.compareInt f.long g.long else cmpL f.w g.w) < 0)
def NewTwo (lim:Nat) (a c:Int) (v:Value) (w:World):Prop:=∃ b,v=.slice (some ⟨b,0,none⟩) 2 2∧lim≤b∧Owns w b [.int .i64 a,.int .i64 c] 3
theorem NewTwo.keep {lim:Nat} {a c:Int} {v:Value} {w w':World} (hg:Grew w w') (h:NewTwo lim a c v w):NewTwo lim a c v w':=by
 obtain ⟨b,h1,h2,h3⟩:=h
 exact ⟨b,h1,h2,h3.keep hg⟩
set_option maxHeartbeats 4000000 in
set_option maxRecDepth 20000 in
theorem sbefore_ok (f g:Fst) (hf:f.w.length≤1000000) (hg:g.w.length≤1000000) (W:World) (v u:Value) (hv:IntsV W W.heap.size v f.w) (hu:IntsV W W.heap.size u g.w) :
  Calls Tryz.prog 57 #[.agg #[.int .i64 f.long,v],.agg #[.int .i64 g.long,u]] W fun e W'=>e=.returned (.bool (firstLt f g))∧Grew W W':=by
 obtain ⟨fl,fw⟩:=f
 obtain ⟨gl,gw⟩:=g
 dsimp only at hf hg hv hu ⊢
 unfold firstLt
 dsimp only
 obtain ⟨w1,hw1⟩:∃ w1,W.alloc (.cells #[.int .i64 fl,v] 91)=w1:=⟨_,rfl⟩
 have g1:Grew W w1:=hw1▸grew_alloc W _
 have o1:Owns w1 W.heap.size [.int .i64 fl,v] 91:=hw1▸Owns.alloc W _ _
 have y1:w1.heap.size=W.heap.size+1:=by rw [← hw1];exact World.size_alloc _ _
 obtain ⟨w2,hw2⟩:∃ w2,w1.alloc (.cells #[.int .i64 gl,u] 91)=w2:=⟨_,rfl⟩
 have g2:Grew w1 w2:=hw2▸grew_alloc w1 _
 have o2:Owns w2 (W.heap.size+1) [.int .i64 gl,u] 91:=y1▸hw2▸Owns.alloc w1 _ _
 have o12:=o1.keep g2
 have f0:=o12.cell_at (i:=0) rfl
 have f1:=o12.cell_at (i:=1) rfl
 have fl1:=o12.lt
 have q0:=o2.cell_at (i:=0) rfl
 have q1:=o2.cell_at (i:=1) rfl
 have ql:=o2.lt
 have HG:=hid (g1.trans g2)
 have HV:=hid hv
 have HU:=hid hu
 obtain ⟨va,vc,rfl,-⟩:=hv
 obtain ⟨ua,uc,rfl,-⟩:=hu
 have hg1:=HG.out
 clear g1 g2 o1 o2 o12 hg1
 by_cases hx:fl = -1
 ·subst hx
  rw [if_pos (.inl rfl)]
  go_enter Tryz.func57,Tryz.ntmps57
  go_wp2_with fail
  go_ret
  exact ⟨by first | rfl | simp,HG.out⟩
 ·have e1:(fl == -1)=false:=beq_eq_false_iff_ne.2 hx
  by_cases hy:gl = -1
  ·subst hy
   rw [if_pos (.inr rfl)]
   go_enter Tryz.func57,Tryz.ntmps57
   go_wp2_with fail
   go_ret
   exact ⟨by first | rfl | simp [hx],HG.out⟩
  ·have e2:(gl == -1)=false:=beq_eq_false_iff_ne.2 hy
   rw [if_neg (fun h=>h.elim hx hy)]
   have HCMP:=hid (fun w=>Tryz.cmp_Compare_int fl gl w)
   have HSL:Hid (∀ w,Grew w2 w→Calls Tryz.prog 92 #[.slice va fw.length vc,.slice ua gw.length uc] w fun e W'=>e=.returned (.int .i64 (cmpL fw gw))∧W'=w):=hid fun w hw =>
    slCompare_ok fw gw hf hg w _ _ ((HV.out.keep (HG.out.trans hw)).mono (HG.out.trans hw).size) ((HU.out.keep (HG.out.trans hw)).mono (HG.out.trans hw).size)
   obtain ⟨c1,hc1⟩:∃ c,Lib.compareInt fl gl=c:=⟨_,rfl⟩
   obtain ⟨c2,hc2⟩:∃ c,cmpL fw gw=c:=⟨_,rfl⟩
   rw [hc1] at HCMP ⊢
   rw [hc2] at HSL ⊢
   clear hc1 hc2 HV HU hf hg
   generalize fw.length=n1 at *
   generalize gw.length=n2 at *
   obtain ⟨R,hR⟩:∃ R,(if c1≠0 then c1 else c2)=R:=⟨_,rfl⟩
   rw [hR]
   have HR:=hid hR
   clear hR
   go_enter Tryz.func57,Tryz.ntmps57
   go_upto_region 3 with fail
   refine wp_region_hav_lit follows (by kernel_rfl) ?_
   iterate 4 ((first | refine HavG.skip (fun _=>rfl) ?_ | (refine HavG.val (fun _=>rfl) ?_ (fun x w hw _=>?_) ?_;rotate_left;(focus (have hc:=hw.cells;clear hw;go_simp;first | done | rfl))));simp only [Act.put,sia,scz,scs])
   refine HavG.det (fun _=>rfl) (.int .i64 c1) (fun x w hw hd=>?_) ?_
   ·clear hd hw
    go_simp
    refine (HCMP.out w).mono ?_
    rintro e w' ⟨rfl,rfl⟩
    exact ⟨rfl,Grew.refl _⟩
   simp only [Act.put,sia,scz,scs]
   iterate 4 ((first | refine HavG.skip (fun _=>rfl) ?_ | (refine HavG.val (fun _=>rfl) ?_ (fun x w hw _=>?_) ?_;rotate_left;(focus (have hc:=hw.cells;clear hw;go_simp;first | done | rfl))));simp only [Act.put,sia,scz,scs])
   refine HavG.det (fun _=>rfl) (.int .i64 c2) (fun x w hw hd=>?_) ?_
   ·have HW:=hid hw
    clear hd hw
    go_simp
    refine (HSL.out w HW.out).mono ?_
    rintro e w' ⟨rfl,rfl⟩
    exact ⟨rfl,Grew.refl _⟩
   simp only [Act.put,sia,scz,scs]
   refine HavG.any (fun _=>rfl) (NewTwo w2.heap.size c1 c2) (fun _ _ _ hg h=>h.keep hg) (fun x w hw _=>?_) ?_
   ·have HW:=hid hw
    clear hw
    go_simp
    exact ⟨grew_alloc w _,_,rfl,HW.out.size,Owns.alloc w _ _⟩
   simp only [Act.put,sia,scz,scs]
   refine HavG.det (fun _=>rfl) (.int .i64 R) (fun x w hw hd=>?_) ?_
   ·obtain ⟨b,hx,-,hob⟩:=hd _ (List.mem_append_right _ (List.mem_singleton.2 rfl)) (by kernel_rfl)
    dsimp only at hx
    have HO:=hid (cmpOr_ok c1 c2 b w hob)
    rw [HR.out] at HO
    clear hd hw hob
    simp only [hx]
    go_simp
    refine HO.out.mono ?_
    rintro e w' ⟨rfl,rfl⟩
    exact ⟨rfl,Grew.refl _⟩
   simp only [Act.put,sia,scz,scs]
   repeat ((first | refine HavG.skip (fun _=>rfl) ?_ | (refine HavG.val (fun _=>rfl) ?_ (fun x w hw _=>?_) ?_;rotate_left;(focus (have hc:=hw.cells;clear hw;go_simp;first | done | rfl))));simp only [Act.put,sia,scz,scs])
   refine HavG.tail (by kernel_rfl) (by kernel_rfl) (fun x w hw _=>?_)
   have HW:=hid (HG.out.trans hw)
   clear hw
   go_wp2_with fail
   go_ret
   exact ⟨rfl,HW.out⟩
end Go.Proofs.YtppjmdanckdobaaGreatDoor

/- joined. -/
namespace Go.Proofs.YtppjmdanckdobaaGreatDoor
open Go.RowKit
open Lib (hid)
theorem setCell_same {w:World} {b T i:Nat} {cs:List Value} {v:Value} (h:Owns w b cs T) (hi:cs[i]? = some v):w.setCell ⟨b,i,none⟩ v=w:=by
 rw [setCell_put h]
 have e:cs.set i v=cs:=by
  obtain ⟨h1,h2⟩:=List.getElem?_eq_some_iff.1 hi
  rw [← h2,List.set_getElem_self]
 rw [e]
 unfold Owns at h
 unfold putObj
 have hset:w.heap.setIfInBounds b (.cells cs.toArray T (0,0))=w.heap:=by
  apply Array.ext
  ·simp
  ·intro k h4 h5
   rw [Array.getElem_setIfInBounds]
   split
   ·rename_i e
    subst e
    exact (Array.getElem?_eq_some_iff.1 h).2.symm
   ·rfl
 rw [hset]
def joinF (f g:Fst):Fst:=if f.long = -1∨g.long = -1∨1073741824 < f.long+g.long then ⟨-1,[]⟩ else ⟨f.long+g.long,if f.long+g.long≤256 then f.w++g.w else []⟩
def Fst.Fine (f:Fst):Prop:=-1≤f.long∧f.long≤1073741824∧f.w.length≤256
def FstRes (f:Fst) (W:World) (e:Ending) (W':World):Prop:=∃ v,e=.returned (.agg #[.int .i64 f.long,v])∧looseRow W' 0 3 1 v f.w.length (intVs f.w)∧Grew W W'
theorem nil_ints (W:World) (base:Nat):looseRow W base 3 1 (.slice none 0 0) ([]:List Int).length (intVs []):=⟨rfl,.inl ⟨rfl,rfl⟩⟩
set_option maxHeartbeats 4000000 in
set_option maxRecDepth 20000 in
theorem sjoined_ok (f g:Fst) (hf:f.Fine) (hg:g.Fine) (W:World) (v u:Value) (hv:IntsV W W.heap.size v f.w) (hu:IntsV W W.heap.size u g.w) :
  Calls Tryz.prog 56 #[.agg #[.int .i64 f.long,v],.agg #[.int .i64 g.long,u]] W (FstRes (joinF f g) W):=by
 obtain ⟨fl,fw⟩:=f
 obtain ⟨gl,gw⟩:=g
 obtain ⟨f1,f2,f3⟩:=hf
 obtain ⟨g1',g2',g3'⟩:=hg
 dsimp only at f1 f2 f3 g1' g2' g3' hv hu ⊢
 unfold joinF
 dsimp only
 obtain ⟨b,hb⟩:∃ b,W.heap.size=b:=⟨_,rfl⟩
 obtain ⟨w1,hw1⟩:∃ w1,W.alloc (.cells #[.int .i64 fl,v] 91)=w1:=⟨_,rfl⟩
 have g1:Grew W w1:=hw1▸grew_alloc W _
 have o1:Owns w1 b [.int .i64 fl,v] 91:=hb▸hw1▸Owns.alloc W _ _
 have y1:w1.heap.size=b+1:=by rw [← hb,← hw1];exact World.size_alloc _ _
 obtain ⟨w2,hw2⟩:∃ w2,w1.alloc (.cells #[.int .i64 gl,u] 91)=w2:=⟨_,rfl⟩
 have g2:Grew w1 w2:=hw2▸grew_alloc w1 _
 have o2:Owns w2 (b+1) [.int .i64 gl,u] 91:=y1▸hw2▸Owns.alloc w1 _ _
 have y2:w2.heap.size=b+1+1:=by rw [← y1,← hw2];exact World.size_alloc _ _
 obtain ⟨w3,hw3⟩:∃ w3,w2.alloc (.cells #[.int .i64 0,.slice none 0 0] 91)=w3:=⟨_,rfl⟩
 have g3:Grew w2 w3:=hw3▸grew_alloc w2 _
 have o3:Owns w3 (b+1+1) [.int .i64 0,.slice none 0 0] 91:=y2▸hw3▸Owns.alloc w2 _ _
 have y3:w3.heap.size=b+1+1+1:=by rw [← y2,← hw3];exact World.size_alloc _ _
 have O1:=hid (o1.keep (g2.trans g3))
 have O2:=hid (o2.keep g3)
 have O3:=hid o3
 have HG:=hid ((g1.trans g2).trans g3)
 have HB:=hid hb
 have HV:=hid hv
 have HU:=hid hu
 obtain ⟨va,vc,rfl,-⟩:=hv
 obtain ⟨ua,uc,rfl,-⟩:=hu
 have a0:=O1.out.cell_at (i:=0) rfl
 have a1:=O1.out.cell_at (i:=1) rfl
 have al:=O1.out.lt
 have c0:=O2.out.cell_at (i:=0) rfl
 have c1:=O2.out.cell_at (i:=1) rfl
 have cl:=O2.out.lt
 clear g1 g2 g3 o1 o2 o3
 by_cases hbad:fl = -1∨gl = -1∨1073741824 < fl+gl
 ·rw [if_pos hbad]
  have e0:=O3.out.free 0
  have e1:=O3.out.free 1
  have d0:=O3.out.cell_at (i:=0) rfl
  have d1:=O3.out.cell_at (i:=1) rfl
  have dl:=O3.out.lt
  obtain ⟨hbt,hot⟩:=set_two O3.out (.int .i64 (-1)) (.slice none 0 0)
  have HOT:=hid hot
  have HG2:=hid (show Grew W _ from Below.trans HG.out (hbt.below HG.out.size fun q e=>by have:=HB.out;omega))
  clear hbt hot
  by_cases hx:fl = -1
  ·subst hx
   clear hbad
   go_enter Tryz.func56,Tryz.ntmps56
   go_wp2_with fail
   refine bodyPost_ret (results_cell_row (d:=Tryz.prog.underlying 91 |>.getD default) rfl _ _ (b+1+1) 91 _ (0,0) rfl HOT.out rfl rfl rfl) rfl ?_
   exact ⟨_,rfl,nil_ints _ _,HG2.out⟩
  ·have q1:(fl == -1)=false:=beq_eq_false_iff_ne.2 hx
   by_cases hy:gl = -1
   ·subst hy
    clear hbad
    go_enter Tryz.func56,Tryz.ntmps56
    go_wp2_with fail
    refine bodyPost_ret (results_cell_row (d:=Tryz.prog.underlying 91 |>.getD default) rfl _ _ (b+1+1) 91 _ (0,0) rfl HOT.out rfl rfl rfl) rfl ?_
    exact ⟨_,rfl,nil_ints _ _,HG2.out⟩
   ·have q2:(gl == -1)=false:=beq_eq_false_iff_ne.2 hy
    have hsum:IntKind.i64.wrap (fl+gl)=fl+gl:=wrap_small _ (by omega) (by omega)
    have hgt:1073741824 < fl+gl:=by omega
    have hgt2:fl+gl > 1073741824:=by omega
    clear hbad
    go_enter Tryz.func56,Tryz.ntmps56
    go_wp2_with fail
    refine bodyPost_ret (results_cell_row (d:=Tryz.prog.underlying 91 |>.getD default) rfl _ _ (b+1+1) 91 _ (0,0) rfl HOT.out rfl rfl rfl) rfl ?_
    exact ⟨_,rfl,nil_ints _ _,HG2.out⟩
 ·rw [if_neg hbad]
  have hx:fl≠-1:=fun e=>hbad (.inl e)
  have hy:gl≠-1:=fun e=>hbad (.inr (.inl e))
  have q1:(fl == -1)=false:=beq_eq_false_iff_ne.2 hx
  have q2:(gl == -1)=false:=beq_eq_false_iff_ne.2 hy
  have hsum:IntKind.i64.wrap (fl+gl)=fl+gl:=wrap_small _ (by omega) (by omega)
  have hgt:¬ 1073741824 < fl+gl:=fun e=>hbad (.inr (.inr e))
  obtain ⟨S,hS⟩:∃ S,fl+gl=S:=⟨_,rfl⟩
  have hsum2:IntKind.i64.wrap (fl+gl)=S:=hsum.trans hS
  rw [hS] at hgt ⊢
  clear hsum
  obtain ⟨w4,hw4⟩:∃ w4,w3.alloc (.cells #[.int .i64 S,.slice none 0 0] 91)=w4:=⟨_,rfl⟩
  have g4:Grew w3 w4:=hw4▸grew_alloc w3 _
  have o4:Owns w4 (b+1+1+1) [.int .i64 S,.slice none 0 0] 91:=y3▸hw4▸Owns.alloc w3 _ _
  have y4:w4.heap.size=b+1+1+1+1:=by rw [← y3,← hw4];exact World.size_alloc _ _
  have HG4:=hid (HG.out.trans g4)
  have O14:=O1.out.keep g4
  have O24:=O2.out.keep g4
  have O34:=hid (O3.out.keep g4)
  have O4:=hid o4
  have a04:=O14.cell_at (i:=0) rfl
  have a14:=O14.cell_at (i:=1) rfl
  have al4:=O14.lt
  have c14:=O24.cell_at (i:=1) rfl
  have cl4:=O24.lt
  have d0:=o4.cell_at (i:=0) rfl
  have d1:=o4.cell_at (i:=1) rfl
  have dl:=o4.lt
  have df:=o4.free 1
  have dsame:=setCell_same o4 (i:=1) (v:=.slice none 0 0) rfl
  have dx:S≤256∨¬ S≤256:=by omega
  clear hbad O14 O24 g4 o4
  by_cases h256:S≤256
  ·rw [if_pos h256]
   obtain ⟨n1,hn1⟩:∃ n,fw.length=n:=⟨_,rfl⟩
   obtain ⟨n2,hn2⟩:∃ n,gw.length=n:=⟨_,rfl⟩
   rw [hn1] at HV a14 a1 f3 ⊢
   rw [hn2] at HU c14 c1 g3' ⊢
   rw [hn1] at hw1
   rw [hn2] at hw2
   obtain ⟨w5,hw5⟩:∃ w5,w4.alloc (.cells #[.slice va n1 vc,.slice ua n2 uc] 22)=w5:=⟨_,rfl⟩
   have g5:Grew w4 w5:=hw5▸grew_alloc w4 _
   have o5:Owns w5 (b+1+1+1+1) [.slice va n1 vc,.slice ua n2 uc] 22:=y4▸hw5▸Owns.alloc w4 _ _
   have HG5:=hid (HG4.out.trans g5)
   have HC:=hid (concatInts_ok [fw,gw] [.slice va n1 vc,.slice ua n2 uc] rfl (by simp [lens];omega) (by simp) w5 (b+1+1+1+1) 2 o5.lt (fun k hk=>by
    have hk2:k=0∨k=1:=by simp at hk;omega
    rcases hk2 with rfl | rfl
    ·exact o5.cell_at rfl
    ·exact o5.cell_at rfl) (fun k hk hk2=>by
    have hk3:k=0∨k=1:=by simp at hk;omega
    rcases hk3 with rfl | rfl
    ·exact (HV.out.keep HG5.out).mono HG5.out.size
    ·exact (HU.out.keep HG5.out).mono HG5.out.size))
   have HW5:=hid o5.lt
   have O35:=hid (O34.out.keep g5)
   have O45:=hid (O4.out.keep g5)
   simp only [List.length_cons,List.length_nil,Nat.zero_add,Nat.reduceAdd,List.flatten_cons,List.flatten_nil,List.append_nil] at HC
   clear g5 o5 hn1 hn2
   go_enter Tryz.func56,Tryz.ntmps56
   go_wp2_with fail
   refine HC.out.mono ?_
   rintro e w6 ⟨y,rfl,hy,hg⟩
   have HY:=hid hy
   obtain ⟨ya,yc,hye⟩:=loose_form hy
   have hbw:b+1+1+1+1 < w5.heap.size:=HW5.out
   obtain ⟨n3,hn3⟩:∃ n3,(fw++gw).length=n3:=⟨_,rfl⟩
   rw [hn3] at hye
   subst hye
   have HG6:=hid (HG5.out.trans hg)
   have o46:=O45.out.keep hg
   have o36:=O35.out.keep hg
   have z0:=o46.cell_at (i:=0) rfl
   have z1:=o46.cell_at (i:=1) rfl
   have zl:=o46.lt
   have zf:=o46.free 1
   have hs4:=o46.set 1 (.slice ya n3 yc)
   have hb4:=set_but (i:=1) (v:=.slice ya n3 yc) o46
   have ho3:=hb4.owns o36 (by omega)
   have r0:=ho3.cell_at (i:=0) rfl
   have r1:=ho3.cell_at (i:=1) rfl
   have rl:=ho3.lt
   have rf0:=ho3.free 0
   have rf1:=ho3.free 1
   obtain ⟨hbt,hot⟩:=set_two ho3 (.int .i64 S) (.slice ya n3 yc)
   have HOT:=hid hot
   have hG7:Grew W _:=Below.trans HG6.out ((hb4.below HG6.out.size fun q e=>by have:=HB.out;omega))
   have HG8:=hid (show Grew W _ from Below.trans hG7 (hbt.below hG7.size fun q e=>by have:=HB.out;omega))
   have hrow2:=hbt.row (hb4.row HY.out (fun k hk e=>by have:=(row_type HY.out hk).1;omega)) (fun k hk e=>by have:=(row_type HY.out hk).1;omega)
   have HWF:=hid (hrow2.weak (Nat.zero_le _))
   clear hs4 hb4 hbt hot o46 o36 ho3 hy hg hrow2
   go_wp2_with fail
   refine bodyPost_ret (results_cell_row (d:=Tryz.prog.underlying 91 |>.getD default) rfl _ _ (b+1+1) 91 _ (0,0) rfl HOT.out rfl rfl rfl) rfl ?_
   exact ⟨_,rfl,HWF.out,HG8.out⟩
  ·rw [if_neg h256]
   have O35:=hid O34.out
   have rf0:=O34.out.free 0
   have rf1:=O34.out.free 1
   have r0:=O34.out.cell_at (i:=0) rfl
   have r1:=O34.out.cell_at (i:=1) rfl
   have rl:=O34.out.lt
   obtain ⟨hbt,hot⟩:=set_two O34.out (.int .i64 S) (.slice none 0 0)
   have HOT:=hid hot
   have HG8:=hid (show Grew W _ from Below.trans HG4.out (hbt.below HG4.out.size fun q e=>by have:=HB.out;omega))
   clear hbt hot
   go_enter Tryz.func56,Tryz.ntmps56
   go_wp2_with fail
   refine bodyPost_ret (results_cell_row (d:=Tryz.prog.underlying 91 |>.getD default) rfl _ _ (b+1+1) 91 _ (0,0) rfl HOT.out rfl rfl rfl) rfl ?_
   exact ⟨_,rfl,nil_ints _ _,HG8.out⟩
end Go.Proofs.YtppjmdanckdobaaGreatDoor

/- The first list of a node,plain. -/
namespace Go.Proofs.YtppjmdanckdobaaGreatDoor
open Lib (hid)
def Fst.Ok (f:Fst):Prop:=(f.long = -1∧f.w=[])∨(0≤f.long∧f.long≤1073741824∧(f.long≤256→(f.w.length:Int)=f.long)∧(256 < f.long→f.w=[]))
theorem Fst.Ok.fine {f:Fst} (h:f.Ok):f.Fine:=by
 rcases h with ⟨h1,h2⟩ | ⟨h1,h2,h3,h4⟩
 ·exact ⟨by omega,by omega,by rw [h2];simp⟩
 ·refine ⟨by omega,h2,?_⟩
  by_cases h:f.long≤256
  ·have:=h3 h
   omega
  ·rw [h4 (by omega)];simp
theorem joinF_ok {f g:Fst} (hf:f.Ok) (hg:g.Ok):(joinF f g).Ok:=by
 unfold joinF
 split
 ·exact .inl ⟨rfl,rfl⟩
 ·rename_i h
  rcases hf with ⟨h1,-⟩ | ⟨f1,f2,f3,f4⟩
  ·exact absurd (.inl h1) h
  ·rcases hg with ⟨h1,-⟩ | ⟨g1,g2,g3,g4⟩
   ·exact absurd (.inr (.inl h1)) h
   ·have h5:¬ 1073741824 < f.long+g.long:=fun e=>h (.inr (.inr e))
    refine .inr ⟨by show (0:Int)≤f.long+g.long;omega,by show f.long+g.long≤1073741824;omega,fun h6=>?_,fun h6=>?_⟩
    ·dsimp only at h6 ⊢
     have a1:=f3 (by omega)
     have a2:=g3 (by omega)
     rw [if_pos h6,List.length_append]
     omega
    ·dsimp only at h6 ⊢
     rw [if_neg (by omega)]
mutual
def Bk.firstN (B:Bk):Nd→Fst
 | .mk k nm _ _ subs =>
  if k=6 then ⟨1,[(B.tok nm:Int)]⟩
  else if k=5 then (B.firsts[B.rule nm]?).getD ⟨-1,[]⟩
  else if k=1 then B.firstSeq subs ⟨0,[]⟩
  else if k=0 then B.firstAlt subs ⟨-1,[]⟩
  else if k=4 then B.firstHd subs
  else ⟨0,[]⟩
def Bk.firstHd (B:Bk):List Nd→Fst
 | []=>⟨0,[]⟩
 | s::_=>B.firstN s
def Bk.firstSeq (B:Bk):List Nd→Fst→Fst
 | [],o=>o
 | s::r,o=>B.firstSeq r (joinF o (B.firstN s))
def Bk.firstAlt (B:Bk):List Nd→Fst→Fst
 | [],o=>o
 | s::r,o=>B.firstAlt r (if firstLt (B.firstN s) o then B.firstN s else o)
end
theorem ok_zero:Fst.Ok ⟨0,[]⟩:=.inr ⟨by simp,by simp,by simp,by simp⟩
theorem ok_none:Fst.Ok ⟨-1,[]⟩:=.inl ⟨rfl,rfl⟩
mutual
theorem Bk.firstN_ok {B:Bk} (hB:∀ f∈B.firsts,f.Ok):∀ n:Nd,(B.firstN n).Ok
 | .mk k nm _ _ subs=>by
  rw [Bk.firstN]
  split
  ·exact .inr ⟨by simp,by simp,by simp,by simp⟩
  split
  ·cases h:B.firsts[B.rule nm]? with
   | none=>exact ok_none
   | some f=>exact hB f (List.mem_of_getElem? h)
  split
  ·exact Bk.firstSeq_ok hB subs _ ok_zero
  split
  ·exact Bk.firstAlt_ok hB subs _ ok_none
  split
  ·exact Bk.firstHd_ok hB subs
  ·exact ok_zero
theorem Bk.firstHd_ok {B:Bk} (hB:∀ f∈B.firsts,f.Ok):∀ l:List Nd,(B.firstHd l).Ok
 | []=>by rw [Bk.firstHd];exact ok_zero
 | s::_=>by rw [Bk.firstHd];exact Bk.firstN_ok hB s
theorem Bk.firstSeq_ok {B:Bk} (hB:∀ f∈B.firsts,f.Ok):∀ (l:List Nd) (o:Fst),o.Ok→(B.firstSeq l o).Ok
 | [],o,h=>by rw [Bk.firstSeq];exact h
 | s::r,o,h=>by rw [Bk.firstSeq];exact Bk.firstSeq_ok hB r _ (joinF_ok h (Bk.firstN_ok hB s))
theorem Bk.firstAlt_ok {B:Bk} (hB:∀ f∈B.firsts,f.Ok):∀ (l:List Nd) (o:Fst),o.Ok→(B.firstAlt l o).Ok
 | [],o,h=>by rw [Bk.firstAlt];exact h
 | s::r,o,h=>by
  rw [Bk.firstAlt]
  refine Bk.firstAlt_ok hB r _ ?_
  split
  ·exact Bk.firstN_ok hB s
  ·exact h
end
end Go.Proofs.YtppjmdanckdobaaGreatDoor
