/- checks.rule's third question of a node: is it a loop of what may be empty? -/
import Derived.OrdersIn
import Derived.RangeFuncCalls
import Derived.RangeFuncLeaves
import Derived.Test.YtppjmdanckdobaaGreatDoorQR20
import Derived.Test.YtppjmdanckdobaaGreatDoorQR21
import Derived.Test.YtppjmdanckdobaaGreatDoorQR2
namespace Go.Proofs.YtppjmdanckdobaaGreatDoor
open Go.RowKit
open Lib (hid)
theorem loopBad_nil (g:Gr) (es:List Bool) (r:Rl) (k:Int) (nm tx:ByteArray) (set:List (Int × Int)):g.loopBad es r (.mk k nm tx set [])=false:=by
 unfold Gr.loopBad
 simp [Nd.subs]
theorem loopBad_cons (g:Gr) (es:List Bool) (r:Rl) (k:Int) (nm tx:ByteArray) (set:List (Int × Int)) (s:Nd) (l:List Nd):g.loopBad es r (.mk k nm tx set (s::l))=((k == 3 || k == 4)&&g.may es r.token s):=rfl
set_option maxHeartbeats 2000000 in
set_option maxRecDepth 20000 in
theorem rule3_ok (g:Gr) (es:List Bool) (hes:g.IsEmpty es) (i:Nat) (hi:i < g.rules.length) (n:Nd) (W:World) (cb pc pi:Nat) (v0 v1 v2 v3 v4:Value) (hG:GrCell W cb g) (hp:W.cell? ⟨pc,0,none⟩=some (.pointer (some ⟨cb,0,none⟩)))
  (hI:W.cell? ⟨pi,0,none⟩=some (.int .i64 (i:Int))) (hN:NodeAt W W.heap.size (some v0) (some v1) (some v2) (some v3) (some v4) n) :
  Calls Tryz.prog 127 (#[.agg #[v0,v1,v2,v3,v4]]++#[.pointer (some ⟨pc,0,none⟩),.pointer (some ⟨pi,0,none⟩)]) W fun e W'=>e=.returned (.bool (g.loopBad es g.rules[i] n))∧Grew W W':=by
 obtain ⟨k,nm,tx,set,subs⟩:=n
 rw [NodeAt] at hN
 obtain ⟨hk,h1,h2,h3,h4,h5,⟨sa,sc,h6,-,-⟩,na,nc,h7,h8,h9⟩:=hN
 obtain rfl:=Option.some.inj h3
 obtain rfl:=Option.some.inj h4
 obtain rfl:=Option.some.inj h5
 obtain rfl:=Option.some.inj h6
 obtain rfl:=Option.some.inj h7
 clear h3 h4 h5 h6 h7 hk
 unfold reachN at h1 h2 h8
 have hgr:=grew_alloc W (.cells #[.int .u8 k,.string nm,.string tx,.slice sa set.length sc,.slice na subs.length nc] 80)
 have ho:=Owns.alloc W [.int .u8 k,.string nm,.string tx,.slice sa set.length sc,.slice na subs.length nc] 80
 have hpl:=lt_of_cell hp
 have hil:=lt_of_cell hI
 have hp':(W.alloc (.cells #[.int .u8 k,.string nm,.string tx,.slice sa set.length sc,.slice na subs.length nc] 80)).cell? ⟨pc,0,none⟩=some (.pointer (some ⟨cb,0,none⟩)):=by rw [hgr.cells _ _ hpl];exact hp
 have hI':(W.alloc (.cells #[.int .u8 k,.string nm,.string tx,.slice sa set.length sc,.slice na subs.length nc] 80)).cell? ⟨pi,0,none⟩=some (.int .i64 (i:Int)):=by rw [hgr.cells _ _ hil];exact hI
 obtain ⟨hcl,g0,g1,g2,g3,d0,d1,d2,d3,hGA⟩:=hG.grew hgr
 have b0:=ho.cell_at (i:=0) rfl
 have b4:=ho.cell_at (i:=4) rfl
 have bl:=ho.lt
 have hpl':pc < (W.alloc (.cells #[.int .u8 k,.string nm,.string tx,.slice sa set.length sc,.slice na subs.length nc] 80)).heap.size:=by have:=hgr.size;omega
 have hil':pi < (W.alloc (.cells #[.int .u8 k,.string nm,.string tx,.slice sa set.length sc,.slice na subs.length nc] 80)).heap.size:=by have:=hgr.size;omega
 have HGR:=hid hgr
 have HG:=hid hGA
 have H9:=hid ((h9.keep hgr).mono hgr.size)
 clear hgr ho hp hG hI hGA h9
 simp only [List.append_toArray,List.cons_append,List.nil_append]
 cases subs with
 | nil =>
  rw [loopBad_nil]
  by_cases hk3:k=3
  ·subst hk3
   go_enter Tryz.func127,Tryz.ntmps127
   go_wp2_with fail
   refine wp_region_hav_lit follows (by kernel_rfl) ?_
   repeat ((first | refine HavG.skip (fun _=>rfl) ?_ | (refine HavG.val (fun _=>rfl) ?_ (fun x w hw _=>?_) ?_;rotate_left;(focus (have hc:=hw.cells;clear hw;go_simp;first | done | rfl))));simp only [Act.put,sia,scz,scs])
   refine HavG.tail (by kernel_rfl) (by kernel_rfl) (fun x w hw _=>?_)
   go_wp2
   go_ret
   exact ⟨rfl,HGR.out.trans hw⟩
  ·by_cases hk4:k=4
   ·subst hk4
    go_enter Tryz.func127,Tryz.ntmps127
    go_wp2_with fail
    refine wp_region_hav_lit follows (by kernel_rfl) ?_
    repeat ((first | refine HavG.skip (fun _=>rfl) ?_ | (refine HavG.val (fun _=>rfl) ?_ (fun x w hw _=>?_) ?_;rotate_left;(focus (have hc:=hw.cells;clear hw;go_simp;first | done | rfl))));simp only [Act.put,sia,scz,scs])
    refine HavG.tail (by kernel_rfl) (by kernel_rfl) (fun x w hw _=>?_)
    go_wp2
    go_ret
    exact ⟨rfl,HGR.out.trans hw⟩
   ·have e3:(k == 3)=false:=beq_eq_false_iff_ne.2 hk3
    have e4:(k == 4)=false:=beq_eq_false_iff_ne.2 hk4
    go_enter Tryz.func127,Tryz.ntmps127
    go_wp2_with fail
    refine wp_region_hav_lit follows (by kernel_rfl) ?_
    repeat ((first | refine HavG.skip (fun _=>rfl) ?_ | (refine HavG.val (fun _=>rfl) ?_ (fun x w hw _=>?_) ?_;rotate_left;(focus (have hc:=hw.cells;clear hw;go_simp;first | done | rfl))));simp only [Act.put,sia,scz,scs])
    refine HavG.tail (by kernel_rfl) (by kernel_rfl) (fun x w hw _=>?_)
    go_wp2
    go_ret
    exact ⟨rfl,HGR.out.trans hw⟩
 | cons s l =>
  rw [loopBad_cons]
  rw [NodesAt] at H9
  obtain ⟨⟨sb,so,rfl,hsb,hs⟩,-⟩:=H9.out
  clear H9
  simp only [Nat.zero_mul,Nat.add_zero] at hs
  obtain ⟨u0,u1,u2,u3,u4,q0,q1,q2,q3,q4,hs⟩:=hs.vals
  have HM:=hid (fun w (hw:Grew (W.alloc (.cells #[.int .u8 k,.string nm,.string tx,.slice sa set.length sc,.slice (some ⟨sb,so,none⟩) (s::l).length nc] 80)) w)=>nmay_ok g es hes i hi s w g0 g1 g2 g3 u0 u1 u2 u3 u4 ((HG.out.keep hw).mono hw.size) ((hs.keep hw).mono hw.size))
  clear hs HG
  have hpos:0 < (s::l).length:=by simp
  generalize g.may es g.rules[i].token s=mb at *
  generalize (s::l).length=ln at *
  by_cases hk3:k=3
  ·subst hk3
   go_enter Tryz.func127,Tryz.ntmps127
   go_wp2_with fail
   generalize W.alloc (.cells #[.int .u8 3,.string nm,.string tx,.slice sa set.length sc,.slice (some ⟨sb,so,none⟩) ln nc] 80)=w1 at *
   refine wp_region_hav_lit follows (by kernel_rfl) ?_
   repeat ((first | refine HavG.skip (fun _=>rfl) ?_ | (refine HavG.val (fun _=>rfl) ?_ (fun x w hw _=>?_) ?_;rotate_left;(focus (have hc:=hw.cells;clear hw;go_simp;first | done | rfl))));simp only [Act.put,sia,scz,scs])
   refine HavG.det (fun _=>rfl) (.bool mb) (fun x w hw _=>?_) ?_
   ·have HW:=hid hw
    clear hw
    go_simp
    refine (HM.out _ HW.out).mono ?_
    rintro e w' ⟨rfl,hb⟩
    exact ⟨rfl,hb⟩
   simp only [Act.put,sia,scz,scs]
   repeat ((first | refine HavG.skip (fun _=>rfl) ?_ | (refine HavG.val (fun _=>rfl) ?_ (fun x w hw _=>?_) ?_;rotate_left;(focus (have hc:=hw.cells;clear hw;go_simp;first | done | rfl))));simp only [Act.put,sia,scz,scs])
   refine HavG.tail (by kernel_rfl) (by kernel_rfl) (fun x w hw _=>?_)
   go_wp2
   go_ret
   exact ⟨by simp,HGR.out.trans hw⟩
  ·by_cases hk4:k=4
   ·subst hk4
    go_enter Tryz.func127,Tryz.ntmps127
    go_wp2_with fail
    generalize W.alloc (.cells #[.int .u8 4,.string nm,.string tx,.slice sa set.length sc,.slice (some ⟨sb,so,none⟩) ln nc] 80)=w1 at *
    refine wp_region_hav_lit follows (by kernel_rfl) ?_
    repeat ((first | refine HavG.skip (fun _=>rfl) ?_ | (refine HavG.val (fun _=>rfl) ?_ (fun x w hw _=>?_) ?_;rotate_left;(focus (have hc:=hw.cells;clear hw;go_simp;first | done | rfl))));simp only [Act.put,sia,scz,scs])
    refine HavG.det (fun _=>rfl) (.bool mb) (fun x w hw _=>?_) ?_
    ·have HW:=hid hw
     clear hw
     go_simp
     refine (HM.out _ HW.out).mono ?_
     rintro e w' ⟨rfl,hb⟩
     exact ⟨rfl,hb⟩
    simp only [Act.put,sia,scz,scs]
    repeat ((first | refine HavG.skip (fun _=>rfl) ?_ | (refine HavG.val (fun _=>rfl) ?_ (fun x w hw _=>?_) ?_;rotate_left;(focus (have hc:=hw.cells;clear hw;go_simp;first | done | rfl))));simp only [Act.put,sia,scz,scs])
    refine HavG.tail (by kernel_rfl) (by kernel_rfl) (fun x w hw _=>?_)
    go_wp2
    go_ret
    exact ⟨by simp,HGR.out.trans hw⟩
   ·have e3:(k == 3)=false:=beq_eq_false_iff_ne.2 hk3
    have e4:(k == 4)=false:=beq_eq_false_iff_ne.2 hk4
    go_enter Tryz.func127,Tryz.ntmps127
    go_wp2_with fail
    refine wp_region_hav_lit follows (by kernel_rfl) ?_
    repeat ((first | refine HavG.skip (fun _=>rfl) ?_ | (refine HavG.val (fun _=>rfl) ?_ (fun x w hw _=>?_) ?_;rotate_left;(focus (have hc:=hw.cells;clear hw;go_simp;first | done | rfl))));simp only [Act.put,sia,scz,scs])
    refine HavG.tail (by kernel_rfl) (by kernel_rfl) (fun x w hw _=>?_)
    go_wp2
    go_ret
    exact ⟨by simp [e3,e4],HGR.out.trans hw⟩
end Go.Proofs.YtppjmdanckdobaaGreatDoor

/- checks.rule's second question of a node: does it name a rule of a sort that may not be named there? -/
namespace Go.Proofs.YtppjmdanckdobaaGreatDoor
open Go.RowKit
open Lib (hid)
def RuleBox (W:World) (pr:Nat) (r:Rl):Prop:=∃ v2 v3 v4 v5 v6,Owns W pr [.string r.name,.int .u8 r.sort,v2,v3,v4,v5,v6,.int .i64 r.p0,.int .i64 r.p1,.int .i64 r.p2] 84
theorem RuleBox.grew {W W':World} {pr:Nat} {r:Rl} (h:RuleBox W pr r) (hg:Grew W W'):RuleBox W' pr r:=by
 obtain ⟨v2,v3,v4,v5,v6,h⟩:=h
 exact ⟨v2,v3,v4,v5,v6,h.keep hg⟩
set_option maxHeartbeats 2000000 in
set_option maxRecDepth 20000 in
theorem rule2_ok (g:Gr) (r:Rl) (n:Nd) (W:World) (cb pc pr:Nat) (v0 v1 v2 v3 v4:Value) (hG:GrCell W cb g) (hp:W.cell? ⟨pc,0,none⟩=some (.pointer (some ⟨cb,0,none⟩))) (hR:RuleBox W pr r) (hN:NodeAt W W.heap.size (some v0) (some v1) (some v2) (some v3) (some v4) n) :
  Calls Tryz.prog 125 (#[.agg #[v0,v1,v2,v3,v4]]++#[.pointer (some ⟨pc,0,none⟩),.pointer (some ⟨pr,0,none⟩)]) W fun e W'=>e=.returned (.bool (g.sortBad r n))∧Grew W W':=by
 obtain ⟨k,nm,tx,set,subs⟩:=n
 rw [NodeAt] at hN
 obtain ⟨hk,h1,h2,h3,h4,h5,⟨sa,sc,h6,-,-⟩,na,nc,h7,-,-⟩:=hN
 obtain rfl:=Option.some.inj h3
 obtain rfl:=Option.some.inj h4
 obtain rfl:=Option.some.inj h5
 obtain rfl:=Option.some.inj h6
 obtain rfl:=Option.some.inj h7
 clear h3 h4 h5 h6 h7 hk
 unfold reachN at h1 h2
 have hgr:=grew_alloc W (.cells #[.int .u8 k,.string nm,.string tx,.slice sa set.length sc,.slice na subs.length nc] 80)
 have ho:=Owns.alloc W [.int .u8 k,.string nm,.string tx,.slice sa set.length sc,.slice na subs.length nc] 80
 have hpl:=lt_of_cell hp
 have hp':(W.alloc (.cells #[.int .u8 k,.string nm,.string tx,.slice sa set.length sc,.slice na subs.length nc] 80)).cell? ⟨pc,0,none⟩=some (.pointer (some ⟨cb,0,none⟩)):=by rw [hgr.cells _ _ hpl];exact hp
 obtain ⟨hcl,g0,g1,g2,g3,d0,d1,d2,d3,hGA⟩:=hG.grew hgr
 obtain ⟨u2,u3,u4,u5,u6,hrb⟩:=hR.grew hgr
 have b0:=ho.cell_at (i:=0) rfl
 have b1:=ho.cell_at (i:=1) rfl
 have b2:=ho.cell_at (i:=2) rfl
 have b3:=ho.cell_at (i:=3) rfl
 have b4:=ho.cell_at (i:=4) rfl
 have bl:=ho.lt
 have hpl':pc < (W.alloc (.cells #[.int .u8 k,.string nm,.string tx,.slice sa set.length sc,.slice na subs.length nc] 80)).heap.size:=by have:=hgr.size;omega
 have r0:=hrb.cell_at (i:=0) rfl
 have r1:=hrb.cell_at (i:=1) rfl
 have r2:=hrb.cell_at (i:=2) rfl
 have r3:=hrb.cell_at (i:=3) rfl
 have r4:=hrb.cell_at (i:=4) rfl
 have r5:=hrb.cell_at (i:=5) rfl
 have r6:=hrb.cell_at (i:=6) rfl
 have r7:=hrb.cell_at (i:=7) rfl
 have r8:=hrb.cell_at (i:=8) rfl
 have r9:=hrb.cell_at (i:=9) rfl
 have rl:=hrb.lt
 have HNm:=hid (fun w=>names_ok (.mk k nm tx set subs) w (.int .u8 k) (.string nm) (.string tx) (.slice sa set.length sc) (.slice na subs.length nc) rfl)
 have HSo:=hid (fun o w=>sorted_ok r (.mk k nm tx set subs) o w (.string r.name) (.int .u8 r.sort) u2 u3 u4 u5 u6 (.int .i64 r.p0) (.int .i64 r.p1) (.int .i64 r.p2) (.int .u8 k) (.string nm) (.string tx) (.slice sa set.length sc) (.slice na subs.length nc) rfl rfl)
 have HF:=hid (fun w hg'=>find_ok g nm w g0 g1 g2 g3 hg')
 have hfin:Hid (g.sortBad r (.mk k nm tx set subs)=((Nd.mk k nm tx set subs).isName&&(decide (0≤g.find nm)&&!sortedB r (.mk k nm tx set subs) (g.sortAt (g.find nm))))):=rfl
 have HG:=hid hGA
 have HGR:=hid hgr
 generalize hisn:(Nd.mk k nm tx set subs).isName=isn at *
 clear hGA hgr ho hp hG hisn hrb hR
 simp only [List.append_toArray,List.cons_append,List.nil_append]
 rcases ixOf_cases g.rules (fun r=>sameB r.name nm) with ⟨hi,_⟩ | ⟨j,hj,hi,_,_⟩
 ·change g.find nm = -1 at hi
  rw [hi] at HF hfin
  clear hi
  go_enter Tryz.func125,Tryz.ntmps125
  go_wp2_with fail
  generalize W.alloc (.cells #[.int .u8 k,.string nm,.string tx,.slice sa set.length sc,.slice na subs.length nc] 80)=w1 at *
  refine wp_region_hav_lit follows (by kernel_rfl) ?_
  repeat ((first | refine HavG.skip (fun _=>rfl) ?_ | (refine HavG.val (fun _=>rfl) ?_ (fun x w hw _=>?_) ?_;rotate_left;(focus (have hc:=hw.cells;clear hw;go_simp;first | done | rfl))));simp only [Act.put,sia,scz,scs])
  refine HavG.det (fun _=>rfl) (.int .i64 (-1)) (fun x w hw _=>?_) ?_
  ·have HW:=hid hw
   clear hw
   go_simp
   refine (HF.out _ ((HG.out.keep HW.out).mono HW.out.size)).mono ?_
   rintro e w' ⟨rfl,hb⟩
   exact ⟨rfl,hb⟩
  simp only [Act.put,sia,scz,scs]
  repeat ((first | refine HavG.skip (fun _=>rfl) ?_ | (refine HavG.val (fun _=>rfl) ?_ (fun x w hw _=>?_) ?_;rotate_left;(focus (have hc:=hw.cells;clear hw;go_simp;first | done | rfl))));simp only [Act.put,sia,scz,scs])
  refine HavG.tail (by kernel_rfl) (by kernel_rfl) (fun x w hw _=>?_)
  have hc1:=hw.cells
  have HW1:=hid hw
  have hwz:=hw.size
  clear hw
  go_wp2_with fail
  cases isn
  ·refine wp_region_hav_lit follows (by kernel_rfl) ?_
   repeat ((first | refine HavG.skip (fun _=>rfl) ?_ | (refine HavG.val (fun _=>rfl) ?_ (fun x w hw _=>?_) ?_;rotate_left;(focus (have hc:=(HW1.out.trans hw).cells;clear hw;go_simp;first | done | rfl))));simp only [Act.put,sia,scz,scs])
   refine HavG.det (fun _=>rfl) (.bool false) (fun x w hw _=>?_) ?_
   ·have HW:=hid hw
    clear hw
    go_simp
    refine (HNm.out _).mono ?_
    rintro e w' ⟨rfl,hb⟩
    exact ⟨rfl,hb⟩
   simp only [Act.put,sia,scz,scs]
   repeat ((first | refine HavG.skip (fun _=>rfl) ?_ | (refine HavG.val (fun _=>rfl) ?_ (fun x w hw _=>?_) ?_;rotate_left;(focus (have hc:=(HW1.out.trans hw).cells;clear hw;go_simp;first | done | rfl))));simp only [Act.put,sia,scz,scs])
   refine HavG.tail (by kernel_rfl) (by kernel_rfl) (fun x w hw _=>?_)
   go_wp2
   go_ret
   exact ⟨by rw [hfin.out];rfl,HGR.out.trans (HW1.out.trans hw)⟩
  ·refine wp_region_hav_lit follows (by kernel_rfl) ?_
   repeat ((first | refine HavG.skip (fun _=>rfl) ?_ | (refine HavG.val (fun _=>rfl) ?_ (fun x w hw _=>?_) ?_;rotate_left;(focus (have hc:=(HW1.out.trans hw).cells;clear hw;go_simp;first | done | rfl))));simp only [Act.put,sia,scz,scs])
   refine HavG.det (fun _=>rfl) (.bool true) (fun x w hw _=>?_) ?_
   ·have HW:=hid hw
    clear hw
    go_simp
    refine (HNm.out _).mono ?_
    rintro e w' ⟨rfl,hb⟩
    exact ⟨rfl,hb⟩
   simp only [Act.put,sia,scz,scs]
   repeat ((first | refine HavG.skip (fun _=>rfl) ?_ | (refine HavG.val (fun _=>rfl) ?_ (fun x w hw _=>?_) ?_;rotate_left;(focus (have hc:=(HW1.out.trans hw).cells;clear hw;go_simp;first | done | rfl))));simp only [Act.put,sia,scz,scs])
   refine HavG.tail (by kernel_rfl) (by kernel_rfl) (fun x w hw _=>?_)
   go_wp2
   go_ret
   exact ⟨by rw [hfin.out];rfl,HGR.out.trans (HW1.out.trans hw)⟩
 ·change g.find nm=(j:Int) at hi
  rw [hi,sortAt_nat g j hj] at hfin
  rw [hi] at HF
  clear hi
  have hG':=HG.out
  obtain ⟨q1,q2,q3,q4,q5,q6,ra,rc,q7,q8,q9⟩:=hG'
  obtain rfl:=Option.some.inj q1
  obtain rfl:=Option.some.inj q3
  obtain rfl:=Option.some.inj q4
  obtain rfl:=Option.some.inj q7
  obtain ⟨rb,rof,rfl,hrb,hrule⟩:=q9.get hj
  simp only [Nat.zero_add] at hrule
  obtain ⟨-,-,e1,hs,-⟩:=hrule
  unfold reachN at q8 q2
  clear q1 q3 q4 q5 q6 q7 q9
  generalize g.rules[j].sort=srt at *
  have HSo':=hid (HSo.out srt)
  generalize sortedB r (Nd.mk k nm tx set subs) srt=sb at *
  clear HSo
  go_enter Tryz.func125,Tryz.ntmps125
  go_wp2_with fail
  generalize W.alloc (.cells #[.int .u8 k,.string nm,.string tx,.slice sa set.length sc,.slice na subs.length nc] 80)=w1 at *
  refine wp_region_hav_lit follows (by kernel_rfl) ?_
  repeat ((first | refine HavG.skip (fun _=>rfl) ?_ | (refine HavG.val (fun _=>rfl) ?_ (fun x w hw _=>?_) ?_;rotate_left;(focus (have hc:=hw.cells;clear hw;go_simp;first | done | rfl))));simp only [Act.put,sia,scz,scs])
  refine HavG.det (fun _=>rfl) (.int .i64 (j:Int)) (fun x w hw _=>?_) ?_
  ·have HW:=hid hw
   clear hw
   go_simp
   refine (HF.out _ ((HG.out.keep HW.out).mono HW.out.size)).mono ?_
   rintro e w' ⟨rfl,hb⟩
   exact ⟨rfl,hb⟩
  simp only [Act.put,sia,scz,scs]
  repeat ((first | refine HavG.skip (fun _=>rfl) ?_ | (refine HavG.val (fun _=>rfl) ?_ (fun x w hw _=>?_) ?_;rotate_left;(focus (have hc:=hw.cells;clear hw;go_simp;first | done | rfl))));simp only [Act.put,sia,scz,scs])
  refine HavG.tail (by kernel_rfl) (by kernel_rfl) (fun x w hw _=>?_)
  have hc1:=hw.cells
  have HW1:=hid hw
  have hwz:=hw.size
  clear hw
  go_wp2_with fail
  cases isn
  ·refine wp_region_hav_lit follows (by kernel_rfl) ?_
   repeat ((first | refine HavG.skip (fun _=>rfl) ?_ | (refine HavG.val (fun _=>rfl) ?_ (fun x w hw _=>?_) ?_;rotate_left;(focus (have hc:=(HW1.out.trans hw).cells;clear hw;go_simp;first | done | rfl))));simp only [Act.put,sia,scz,scs])
   refine HavG.det (fun _=>rfl) (.bool false) (fun x w hw _=>?_) ?_
   ·have HW:=hid hw
    clear hw
    go_simp
    refine (HNm.out _).mono ?_
    rintro e w' ⟨rfl,hb⟩
    exact ⟨rfl,hb⟩
   simp only [Act.put,sia,scz,scs]
   repeat ((first | refine HavG.skip (fun _=>rfl) ?_ | (refine HavG.val (fun _=>rfl) ?_ (fun x w hw _=>?_) ?_;rotate_left;(focus (have hc:=(HW1.out.trans hw).cells;clear hw;go_simp;first | done | rfl))));simp only [Act.put,sia,scz,scs])
   refine HavG.tail (by kernel_rfl) (by kernel_rfl) (fun x w hw _=>?_)
   go_wp2
   go_ret
   exact ⟨by rw [hfin.out];rfl,HGR.out.trans (HW1.out.trans hw)⟩
  ·refine wp_region_hav_lit follows (by kernel_rfl) ?_
   repeat ((first | refine HavG.skip (fun _=>rfl) ?_ | (refine HavG.val (fun _=>rfl) ?_ (fun x w hw _=>?_) ?_;rotate_left;(focus (have hc:=(HW1.out.trans hw).cells;clear hw;go_simp;first | done | rfl))));simp only [Act.put,sia,scz,scs])
   refine HavG.det (fun _=>rfl) (.bool true) (fun x w hw _=>?_) ?_
   ·have HW:=hid hw
    clear hw
    go_simp
    refine (HNm.out _).mono ?_
    rintro e w' ⟨rfl,hb⟩
    exact ⟨rfl,hb⟩
   simp only [Act.put,sia,scz,scs]
   repeat ((first | refine HavG.skip (fun _=>rfl) ?_ | (refine HavG.val (fun _=>rfl) ?_ (fun x w hw _=>?_) ?_;rotate_left;(focus (have hc:=(HW1.out.trans hw).cells;clear hw;go_simp;first | done | rfl))));simp only [Act.put,sia,scz,scs])
   refine HavG.det (fun _=>rfl) (.bool sb) (fun x w hw _=>?_) ?_
   ·have HW:=hid hw
    clear hw
    go_simp
    refine (HSo'.out _).mono ?_
    rintro e w' ⟨rfl,hb⟩
    exact ⟨rfl,hb⟩
   simp only [Act.put,sia,scz,scs]
   repeat ((first | refine HavG.skip (fun _=>rfl) ?_ | (refine HavG.val (fun _=>rfl) ?_ (fun x w hw _=>?_) ?_;rotate_left;(focus (have hc:=(HW1.out.trans hw).cells;clear hw;go_simp;first | done | rfl))));simp only [Act.put,sia,scz,scs])
   refine HavG.tail (by kernel_rfl) (by kernel_rfl) (fun x w hw _=>?_)
   go_wp2
   all_goals
    go_ret
    exact ⟨by rw [hfin.out];have:decide (0≤(j:Int))=true:=decide_eq_true (by omega);simp [*],HGR.out.trans (HW1.out.trans hw)⟩
end Go.Proofs.YtppjmdanckdobaaGreatDoor

/- The rule for a statement whose order Go leaves open (Hav),for a round of a range over a function. No program in sight. -/
namespace Go.Proofs.YtppjmdanckdobaaGreatDoor
open Go.RowKit
open Lib (hid)
section
variable {P:Program} {ops:Array Oper} {Q:Exit→Act→World→Prop} {l n:Nat}
theorem uponIn_of_upon {o:Oper} {a:Act} {K:Act→World→Prop} {r:Result Next} (h:o.upon P a K Q r):o.uponIn (Fence.wide.inRound l) n P a K Q r:=by
 cases r with
 | halt x w =>
  cases x<;>first
   | exact h
   | exact h.elim
 | ok m w =>
  cases m<;>first
   | exact h
   | exact h.elim
   | exact ⟨fun h=>(by cases h),CallsIn.inRound l (callsIn_wide.2 h)⟩
   | exact ⟨fun h=>(by cases h),fun c cs _=>let ⟨v,w',r,s⟩:=h c cs;⟨v,w',r,stepsIn_wide.2 s⟩⟩
def noDefer (ops:Array Oper):Bool:=ops.toList.all fun o=>match o.op with | .defer _=>false | _=>true
theorem wpOpIn_of {i:Nat} {K K':Act→World→Prop} {a:Act} {w:World} (hnd:noDefer ops=true) (hQ:¬ LetsOut Q) (hK:∀ a w,K a w→K' a w) (h:wpOp P ops Q i K a w):wpOpIn (Fence.wide.inRound l) n P ops Q i K' a w:=by
 have h':=wpOp_mono hK h
 clear h hK
 unfold wpOp at h'
 unfold wpOpIn
 cases ho:ops[i]? with
 | none=>simpa [ho] using h'
 | some o =>
  simp only [ho] at h'
  have hd:∀ c,o.op≠.defer c:=fun c hc=>by
   have hm:o∈ops.toList:=by
    have:=Array.mem_of_getElem? ho
    simpa using this
   have:=List.all_eq_true.1 hnd o hm
   rw [hc] at this
   cases this
  simp only
  split
  ·rename_i hw
   rw [if_pos hw] at h'
   rcases h' with h' | ⟨_,h'⟩
   ·refine ⟨fun _ _=>trivial,?_⟩
    rw [Oper.semAt_eq _ _ _ hd]
    exact uponIn_of_upon h'
   ·exact absurd h' hQ
  ·rename_i hw
   rw [if_neg hw] at h'
   exact ⟨fun _ _=>trivial,h'⟩
theorem wpAnyIn_of {md:Region.Mode} (hnd:noDefer ops=true) (hQ:¬ LetsOut Q):∀ (f:Nat) (S:Array Bool) (a:Act) (w:World),wpAny P md ops Q f S a w→wpAnyIn (Fence.wide.inRound l) n P md ops Q f S a w
 | 0,_,_,_,h=>h
 | f+1,_,_,_,h=>⟨h.1,fun i hi=>wpOpIn_of hnd hQ (fun a w h'=>wpAnyIn_of hnd hQ f _ a w h') (h.2 i hi)⟩
theorem wpIn_region_hav {id:Nat} {a0:Act} {w:World} (hm:P.follows .mixedOrders=true) (hok:havB ops=true) (hnd:noDefer ops=true) (hQ:¬ LetsOut Q) (h:HavG P ops Q w ops.toList 0 (fun _=>a0) []):(Code.region id ops true).wpIn (Fence.wide.inRound l) n P Q a0 w :=
 wpIn_region_any hm (wpAnyIn_of hnd hQ _ _ _ _ (wpAny_hav hok h))
theorem wpIn_region_hav_lit {id:Nat} {a0:Act} {w:World} {os:List Oper} (hm:P.follows .mixedOrders=true) (hok:havB os.toArray=true) (hnd:noDefer os.toArray=true) (hQ:¬ LetsOut Q) (h:HavG P os.toArray Q w os 0 (fun _=>a0) []) :
  (Code.region id os.toArray true).wpIn (Fence.wide.inRound l) n P Q a0 w :=
 wpIn_region_hav hm hok hnd hQ (by simpa using h)
end
end Go.Proofs.YtppjmdanckdobaaGreatDoor
