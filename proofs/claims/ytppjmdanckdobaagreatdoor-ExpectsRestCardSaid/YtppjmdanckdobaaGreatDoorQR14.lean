/- What is asked of a grammar's rules, and the rule that a node names. -/
import Derived.BigQuiet
import Derived.Deep.QuietTactic
import Derived.StillTailTactics
import Derived.Deep.RegionHeld3
import Derived.Laws.EntriesVeiled
import Derived.Test.YtppjmdanckdobaaGreatDoorQR5
import Derived.Test.YtppjmdanckdobaaGreatDoorQR3
import Derived.Test.YtppjmdanckdobaaGreatDoorQR2
namespace Go.Proofs.YtppjmdanckdobaaGreatDoor
open Go.RowKit
open Lib (hid)
structure AskAt (W:World) (ab eb:Nat) (g:Gr) (es:List Bool):Prop where
 ga:∃ v0 v1 v2 v3,W.cell? ⟨ab,0,none⟩=some v0∧W.cell? ⟨ab,1,none⟩=some v1∧W.cell? ⟨ab,2,none⟩=some v2∧W.cell? ⟨ab,3,none⟩=some v3∧GrAt W W.heap.size (some v0) (some v1) (some v2) (some v3) g
 ea:W.cell? ⟨ab,4,none⟩=some (.slice (some ⟨eb,0,none⟩) g.rules.length g.rules.length)
 el:es.length=g.rules.length
 ec:∀ i (h:i < es.length),W.cell? ⟨eb,i,none⟩=some (.bool es[i])
 al:ab < W.heap.size
 bl:eb < W.heap.size
 nl:g.rules.length≤reachN
theorem AskAt.keep {W W':World} {ab eb:Nat} {g:Gr} {es:List Bool} (h:AskAt W ab eb g es) (hb:Below W.heap.size W W'):AskAt W' ab eb g es:=by
 obtain ⟨⟨v0,v1,v2,v3,h0,h1,h2,h3,h4⟩,h5,h6,h7,h8,h9,h10⟩:=h
 have e:∀ o,W'.cell? ⟨ab,o,none⟩=W.cell? ⟨ab,o,none⟩:=fun o=>hb.cell (p:=⟨ab,o,none⟩) h8
 have e':∀ o,W'.cell? ⟨eb,o,none⟩=W.cell? ⟨eb,o,none⟩:=fun o=>hb.cell (p:=⟨eb,o,none⟩) h9
 refine ⟨⟨v0,v1,v2,v3,by rw [e];exact h0,by rw [e];exact h1,by rw [e];exact h2,by rw [e];exact h3,(h4.keep hb).mono hb.size⟩,by rw [e];exact h5,h6,fun i hi=>by rw [e'];exact h7 i hi,by have:=hb.size;omega,by have:=hb.size;omega,h10⟩
def Gr.sortAt (g:Gr) (i:Int):Int:=match g.rules[i.toNat]? with | some r=>r.sort | none=>0
def Gr.named (g:Gr) (token:Bool) (n:Nd):Int :=
 let i:=g.find n.name
 if i < 0 then -1 else if !((g.sortAt i == 0) == (n.kind == 5)) then -1 else if (n.kind == 6)&&!token then -1 else i
theorem sortAt_nat (g:Gr) (j:Nat) (hj:j < g.rules.length):g.sortAt (j:Int)=g.rules[j].sort:=by
 simp [Gr.sortAt,hj]
set_option maxHeartbeats 1000000 in
set_option maxRecDepth 20000 in
theorem named_ok (g:Gr) (es:List Bool) (token:Bool) (n:Nd) (W:World) (ab eb:Nat) (v0 v1 v2 v3 v4:Value) (hA:AskAt W ab eb g es) (hN:NodeAt W W.heap.size (some v0) (some v1) (some v2) (some v3) (some v4) n) :
  Calls Tryz.prog 143 #[.pointer (some ⟨ab,0,none⟩),.bool token,.agg #[v0,v1,v2,v3,v4]] W fun e W'=>e=.returned (.int .i64 (g.named token n))∧Below W.heap.size W W':=by
 obtain ⟨k,nm,tx,set,subs⟩:=n
 rw [NodeAt] at hN
 obtain ⟨hk,h1,h2,h3,h4,h5,h6,h7⟩:=hN
 obtain rfl:=Option.some.inj h3
 obtain rfl:=Option.some.inj h4
 clear h3 h4 h5 h6 h7
 unfold reachN at h1 h2
 have hgr:=grew_alloc W (.cells #[.int .u8 k,.string nm,v2,v3,v4] 80)
 obtain ⟨⟨g0,g1,g2,g3,c0,c1,c2,c3,hG⟩,h5,h6,h7,h8,h9,h10⟩:=hA.keep hgr
 have hS:=hid (fun W'=>find_ok g nm W' g0 g1 g2 g3)
 have b1:(W.alloc (.cells #[.int .u8 k,.string nm,v2,v3,v4] 80)).cell? ⟨W.heap.size,1,none⟩=some (.string nm):=by simp [go_sem]
 have b0:(W.alloc (.cells #[.int .u8 k,.string nm,v2,v3,v4] 80)).cell? ⟨W.heap.size,0,none⟩=some (.int .u8 k):=by simp [go_sem]
 have hsz:W.heap.size < (W.alloc (.cells #[.int .u8 k,.string nm,v2,v3,v4] 80)).heap.size:=by simp
 clear h5 h6 h7 h9
 rcases ixOf_cases g.rules (fun r=>sameB r.name nm) with ⟨hi,_⟩ | ⟨j,hj,hi,_,_⟩
 ·have hfin:Hid (g.named token (.mk k nm tx set subs) = -1):=by
   unfold Hid Gr.named Gr.find
   simp [Nd.name,hi]
  change g.find nm = -1 at hi
  rw [hi] at hS
  clear hi
  go_enter Tryz.func143,Tryz.ntmps143
  go_wp2_with fail
  generalize W.alloc (.cells #[.int .u8 k,.string nm,v2,v3,v4] 80)=w1 at *
  refine wp_region_hav_lit follows (by kernel_rfl) ?_
  repeat ((first | refine HavG.skip (fun _=>rfl) ?_ | (refine HavG.val (fun _=>rfl) ?_ (fun x w hw _=>?_) ?_;rotate_left;(focus (have hc:=hw.cells;clear hw;go_simp;first | done | rfl))));simp only [Act.put,sia,scz,scs])
  refine HavG.tail (by kernel_rfl) (by kernel_rfl) (fun x w hw _=>?_)
  have hc:=hw.cells
  have HW:=hid hw
  clear hw
  go_wp2_with (go_at_call 120;refine (hS.out _ ((hG.keep HW.out).mono HW.out.size)).mono ?_;rintro e w' ⟨rfl,hb2⟩)
  have hw':Grew w1 w':=HW.out.trans hb2
  clear hc hb2 HW
  refine wp_region_hav_lit follows (by kernel_rfl) ?_
  repeat ((first | refine HavG.skip (fun _=>rfl) ?_ | (refine HavG.val (fun _=>rfl) ?_ (fun x w hw _=>?_) ?_;rotate_left;(focus (have hc:=(hw'.trans hw).cells;clear hw;go_simp;first | done | rfl))));simp only [Act.put,sia,scz,scs])
  refine HavG.tail (by kernel_rfl) (by kernel_rfl) (fun x w hw _=>?_)
  go_wp2
  go_ret
  exact ⟨ret_int hfin.out.symm,hgr.trans (hw'.trans hw)⟩
 ·change g.find nm=(j:Int) at hi
  have hfin:Hid (g.named token (.mk k nm tx set subs)=if !((g.rules[j].sort == 0) == (k == 5)) then (-1:Int) else if (k == 6)&&!token then -1 else (j:Int)):=by
   unfold Hid Gr.named
   have hn:¬ ((j:Int) < 0):=by omega
   simp only [Nd.name,Nd.kind,hi,hn,if_false,sortAt_nat g j hj]
  rw [hi] at hS
  clear hi
  have hG':=hG
  obtain ⟨q1,q2,q3,q4,q5,q6,ra,rc,q7,q8,q9⟩:=hG'
  obtain rfl:=Option.some.inj q1
  obtain rfl:=Option.some.inj q3
  obtain rfl:=Option.some.inj q4
  obtain rfl:=Option.some.inj q7
  obtain ⟨rb,ro,rfl,hrb,hrule⟩:=q9.get hj
  simp only [Nat.zero_add] at hrule
  obtain ⟨-,-,e1,hs,-⟩:=hrule
  generalize g.rules[j].sort=srt at *
  unfold reachN at q8
  clear q1 q2 q3 q4 q5 q6 q7 q9 h10
  go_enter Tryz.func143,Tryz.ntmps143
  go_wp2_with fail
  generalize W.alloc (.cells #[.int .u8 k,.string nm,v2,v3,v4] 80)=w1 at *
  refine wp_region_hav_lit follows (by kernel_rfl) ?_
  repeat ((first | refine HavG.skip (fun _=>rfl) ?_ | (refine HavG.val (fun _=>rfl) ?_ (fun x w hw _=>?_) ?_;rotate_left;(focus (have hc:=hw.cells;clear hw;go_simp;first | done | rfl))));simp only [Act.put,sia,scz,scs])
  refine HavG.tail (by kernel_rfl) (by kernel_rfl) (fun x w hw _=>?_)
  have hc:=hw.cells
  have HW:=hid hw
  clear hw
  go_wp2_with (go_at_call 120;refine (hS.out _ ((hG.keep HW.out).mono HW.out.size)).mono ?_;rintro e w' ⟨rfl,hb2⟩)
  have hw':Grew w1 w':=HW.out.trans hb2
  clear hc hb2 HW
  refine wp_region_hav_lit follows (by kernel_rfl) ?_
  repeat ((first | refine HavG.skip (fun _=>rfl) ?_ | (refine HavG.val (fun _=>rfl) ?_ (fun x w hw _=>?_) ?_;rotate_left;(focus (have hc:=(hw'.trans hw).cells;clear hw;go_simp;first | done | rfl))));simp only [Act.put,sia,scz,scs])
  refine HavG.tail (by kernel_rfl) (by kernel_rfl) (fun x w hw _=>?_)
  have hc:=(hw'.trans hw).cells
  have HW:=hid (hgr.trans (hw'.trans hw))
  clear hw hw' hgr
  go_wp2
  all_goals
   go_ret
   refine ⟨ret_int ?_,HW.out⟩
   rw [hfin.out]
   have hjn:¬ ((j:Int) < 0):=by omega
   clear hS hfin HW hc b0 b1 c0 c1 c2 c3 hG hA
   simp_all
end Go.Proofs.YtppjmdanckdobaaGreatDoor

/- Whether a node may be empty. -/
namespace Go.Proofs.YtppjmdanckdobaaGreatDoor
open Go.RowKit
open Lib (hid)
theorem enters156:Enters 156:=fun _ _=>by kernel_rfl
theorem enters157:Enters 157:=fun _ _=>by kernel_rfl
theorem ixOf_any {α:Type} (l:List α) (q:α→Bool):decide (0≤ixOf l q)=l.any q:=by
 rcases ixOf_cases l q with ⟨h,hn⟩ | ⟨j,hj,h,hq,_⟩
 ·rw [h]
  symm
  have:l.any q=false:=by
   rw [List.any_eq_false]
   intro x hx
   obtain ⟨i,hi,rfl⟩:=List.mem_iff_getElem.1 hx
   simp [hn i hi]
  rw [this];rfl
 ·rw [h]
  have:l.any q=true:=List.any_eq_true.2 ⟨l[j],List.getElem_mem hj,hq⟩
  rw [this]
  simp
def AskEach (F:Nat) (cp:Array Value) (W:World) (l:List Nd) (q:Nd→Bool):Prop :=
 ∀ (i:Nat) (hi:i < l.length) (W':World) (v0 v1 v2 v3 v4:Value),Grew W W'→NodeAt W' W'.heap.size (some v0) (some v1) (some v2) (some v3) (some v4) l[i] →
   Calls Tryz.prog F (#[.agg #[v0,v1,v2,v3,v4]]++cp) W' fun e W2=>e=.returned (.bool (q l[i]))∧Below W'.heap.size W' W2
set_option maxHeartbeats 1000000 in
set_option maxRecDepth 20000 in
theorem indexNodes_ok (l:List Nd) (q:Nd→Bool) (F:Nat) (cp:Array Value) (hF:Enters F) (W:World) (a:Option Addr) (cap:Nat) (hl:l.length≤reachN) (hR:NodesAt W W.heap.size a 0 l) (HF:AskEach F cp W l q) :
  Calls Tryz.prog 134 #[.slice a l.length cap,.func (.func F) #[] cp] W fun e W'=>e=.returned (.int .i64 (ixOf l q))∧Below W.heap.size W W':=by
 unfold reachN at hl
 go_enter Tryz.func134,Tryz.ntmps134
 go_wp2
 go_loopw [8] (fun i wr=>∃ (j:Nat),i=.int .i64 j∧j≤l.length∧Hid (NoneTo l q j)∧Below W.heap.size W wr) (fun i _=>l.length - (intOf i).toNat)
 case atStart =>
  exact ⟨0,rfl,by omega,fun i hi h=>absurd h (by omega),Below.refl _ _⟩
 case round =>
  obtain ⟨j,rfl,hj,hf,hbw⟩:=hrel
  by_cases hlt:j < l.length
  ·obtain ⟨b,off,rfl,hb,hnode⟩:=(hR.keep hbw).get hlt
   simp only [Nat.zero_add] at hnode
   obtain ⟨u0,u1,u2,u3,u4,e0,e1,e2,e3,e4,hnode⟩:=hnode.vals
   have HS:=hid (HF j hlt wr _ _ _ _ _ hbw (hnode.mono hbw.size))
   clear hnode hR HF
   have hFx:=hF
   unfold Enters at hFx
   clear hF
   obtain ⟨t,ht⟩:∃ t,t=q l[j]:=⟨_,rfl⟩
   rw [← ht] at HS
   have HQ:=hid ht
   clear ht
   cases t
   ·go_wp2_with (refine HS.out.mono ?_;rintro e w2 ⟨rfl,hb2⟩)
    exact ⟨⟨j+1,by go_num,by omega,noneTo_next hf.out hlt HQ.out.symm,hbw.trans (hb2.mono hbw.size)⟩,by simp [intOf];omega⟩
   ·go_wp2_with (refine HS.out.mono ?_;rintro e w2 ⟨rfl,hb2⟩)
    go_ret
    exact ⟨ret_int (ixOf_at hlt hf.out HQ.out.symm).symm,hbw.trans (hb2.mono hbw.size)⟩
  ·go_wp2_with fail
   go_ret
   exact ⟨ret_int (ixOf_none fun i hi=>hf.out i hi (by omega)).symm,hbw⟩
theorem contNodes_ok (l:List Nd) (q:Nd→Bool) (F:Nat) (cp:Array Value) (hF:Enters F) (W:World) (a:Option Addr) (cap:Nat) (hl:l.length≤reachN) (hR:NodesAt W W.heap.size a 0 l) (HF:AskEach F cp W l q) :
  Calls Tryz.prog 96 #[.slice a l.length cap,.func (.func F) #[] cp] W fun e W'=>e=.returned (.bool (l.any q))∧Below W.heap.size W W':=by
 have hS:=hid (indexNodes_ok l q F cp hF W a cap hl hR HF)
 clear HF hR hF
 go_enter Tryz.func96,Tryz.ntmps96
 go_wp2_with (go_at_call 134;refine hS.out.mono ?_;rintro e w' ⟨rfl,hb2⟩)
 go_ret
 exact ⟨ret_bool (ixOf_any l q),hb2⟩
theorem lt_of_cell {W:World} {b o:Nat} {v:Value} (h:W.cell? ⟨b,o,none⟩=some v):b < W.heap.size:=by
 rcases Nat.lt_or_ge b W.heap.size with h' | h'
 ·exact h'
 ·simp [World.cell?,Array.getElem?_eq_none h'] at h
theorem may1_ok (r token:Bool) (ab pa pt:Nat) (v0 v1 v2 v3 v4:Value) (W:World) (ha:W.cell? ⟨pa,0,none⟩=some (.pointer (some ⟨ab,0,none⟩))) (ht:W.cell? ⟨pt,0,none⟩=some (.bool token))
  (H:∀ W1,Grew W W1→Calls Tryz.prog 142 #[.pointer (some ⟨ab,0,none⟩),.bool token,.agg #[v0,v1,v2,v3,v4]] W1 fun e W2=>e=.returned (.bool r)∧Below W1.heap.size W1 W2) :
  Calls Tryz.prog 156 (#[.agg #[v0,v1,v2,v3,v4]]++#[.pointer (some ⟨pa,0,none⟩),.pointer (some ⟨pt,0,none⟩)]) W fun e W2=>e=.returned (.bool r)∧Below W.heap.size W W2:=by
 have hgr:=grew_alloc W (.cells #[v0,v1,v2,v3,v4] 80)
 have hl:=lt_of_cell ha
 have hl2:=lt_of_cell ht
 have hS:=hid (H _ hgr)
 clear H
 simp only [List.append_toArray,List.cons_append,List.nil_append]
 go_enter Tryz.func156,Tryz.ntmps156
 go_wp2_with (go_at_call 142;refine hS.out.mono ?_;rintro e w' ⟨rfl,hb2⟩)
 go_ret
 exact ⟨rfl,hgr.trans hb2⟩
theorem may2_ok (r token:Bool) (ab pa pt ps:Nat) (v0 v1 v2 v3 v4:Value) (W:World) (ha:W.cell? ⟨pa,0,none⟩=some (.pointer (some ⟨ab,0,none⟩))) (ht:W.cell? ⟨pt,0,none⟩=some (.bool token))
  (hs:W.cell? ⟨ps,0,none⟩=some (.func (.func 156) #[] #[.pointer (some ⟨pa,0,none⟩),.pointer (some ⟨pt,0,none⟩)]))
  (H:∀ W1,Grew W W1→Calls Tryz.prog 142 #[.pointer (some ⟨ab,0,none⟩),.bool token,.agg #[v0,v1,v2,v3,v4]] W1 fun e W2=>e=.returned (.bool r)∧Below W1.heap.size W1 W2) :
  Calls Tryz.prog 157 (#[.agg #[v0,v1,v2,v3,v4]]++#[.pointer (some ⟨ps,0,none⟩)]) W fun e W2=>e=.returned (.bool !r)∧Below W.heap.size W W2:=by
 have hgr:=grew_alloc W (.cells #[v0,v1,v2,v3,v4] 80)
 have hl:=lt_of_cell ha
 have hl2:=lt_of_cell ht
 have hl3:=lt_of_cell hs
 have hS:=hid (may1_ok r token ab pa pt v0 v1 v2 v3 v4 _ (by rw [hgr.cells _ _ hl];exact ha) (by rw [hgr.cells _ _ hl2];exact ht) (fun W1 h=>H W1 (hgr.trans h)))
 clear H ha ht
 simp only [List.append_toArray,List.cons_append,List.nil_append]
 go_enter Tryz.func157,Tryz.ntmps157
 go_wp2_with (go_at_call 156;refine hS.out.mono ?_;rintro e w' ⟨rfl,hb2⟩)
 go_ret
 exact ⟨rfl,hgr.trans hb2⟩
end Go.Proofs.YtppjmdanckdobaaGreatDoor

/- Whether a node may be empty: the function itself. -/
namespace Go.Proofs.YtppjmdanckdobaaGreatDoor
open Go.RowKit
open Lib (hid)
mutual
def Gr.may (g:Gr) (es:List Bool) (token:Bool):Nd→Bool
 | .mk k nm tx set subs =>
  if k == 1 then Gr.mayAll g es token subs
  else if k == 0 || k == 4 then Gr.mayAny g es token subs
  else if k == 2 || k == 3 || k == 7 then true
  else if k == 8 then tx.toList.isEmpty
  else if k == 5 || k == 6 then decide (0≤g.named token (.mk k nm tx set subs))&&es.getD (g.named token (.mk k nm tx set subs)).toNat false
  else false
def Gr.mayAll (g:Gr) (es:List Bool) (token:Bool):List Nd→Bool
 | []=>true
 | n::r=>Gr.may g es token n&&Gr.mayAll g es token r
def Gr.mayAny (g:Gr) (es:List Bool) (token:Bool):List Nd→Bool
 | []=>false
 | n::r=>Gr.may g es token n || Gr.mayAny g es token r
end
theorem mayAll_eq (g:Gr) (es:List Bool) (token:Bool) (l:List Nd):Gr.mayAll g es token l=!l.any (fun n=>!g.may es token n):=by
 induction l with
 | nil=>simp [Gr.mayAll]
 | cons n r ih=>simp [Gr.mayAll,ih]
theorem mayAny_eq (g:Gr) (es:List Bool) (token:Bool) (l:List Nd):Gr.mayAny g es token l=l.any (fun n=>g.may es token n):=by
 induction l with
 | nil=>simp [Gr.mayAny]
 | cons n r ih=>simp [Gr.mayAny,ih]
theorem named_range (g:Gr) (token:Bool) (n:Nd):g.named token n = -1∨∃ j,∃ _:j < g.rules.length,g.named token n=(j:Int):=by
 unfold Gr.named
 rcases ixOf_cases g.rules (fun r=>sameB r.name n.name) with ⟨hi,_⟩ | ⟨j,hj,hi,_,_⟩
 ·change g.find n.name = -1 at hi
  left;simp [hi]
 ·change g.find n.name=(j:Int) at hi
  simp only [hi]
  have:¬ ((j:Int) < 0):=by omega
  simp only [this,if_false]
  split
  ·exact .inl rfl
  ·split
   ·exact .inl rfl
   ·exact .inr ⟨j,hj,rfl⟩
set_option maxHeartbeats 4000000 in
set_option maxRecDepth 20000 in
theorem may_ok (g:Gr) (es:List Bool) (token:Bool) (n:Nd):∀ (W:World) (ab eb:Nat) (v0 v1 v2 v3 v4:Value),AskAt W ab eb g es→NodeAt W W.heap.size (some v0) (some v1) (some v2) (some v3) (some v4) n →
  Calls Tryz.prog 142 #[.pointer (some ⟨ab,0,none⟩),.bool token,.agg #[v0,v1,v2,v3,v4]] W fun e W'=>e=.returned (.bool (g.may es token n))∧Below W.heap.size W W':=by
 induction n using Nd.ind with
 | h k nm tx set subs ih =>
 intro W ab eb v0 v1 v2 v3 v4 hA hN
 have hN':=hN
 rw [NodeAt] at hN
 obtain ⟨hk,h1,h2,h3,h4,h5,⟨sa,sc,h6,h6',h7⟩,na,nc,h8,h8',h9⟩:=hN
 obtain rfl:=Option.some.inj h3
 obtain rfl:=Option.some.inj h4
 obtain rfl:=Option.some.inj h5
 obtain rfl:=Option.some.inj h6
 obtain rfl:=Option.some.inj h8
 clear h3 h4 h5 h6 h8 h7
 have hk':k=0∨k=1∨k=2∨k=3∨k=4∨k=5∨k=6∨k=7∨k=8∨9≤k:=by omega
 have hnr:=hid (named_range g token (.mk k nm tx set subs))
 have hgr:Grew W ((((W.alloc (.cells #[.pointer (some ⟨ab,0,none⟩)] 189)).alloc (.cells #[.bool token] 4)).alloc (.cells #[.int .u8 k,.string nm,.string tx,.slice sa set.length sc,.slice na subs.length nc] 80)).alloc (.cells #[.func (.func 156) #[] #[.pointer (some ⟨W.heap.size,0,none⟩),.pointer (some ⟨W.heap.size+1,0,none⟩)]] 127)) :=
  (((grew_alloc _ _).trans (grew_alloc _ _)).trans (grew_alloc _ _)).trans (grew_alloc _ _)
 have hmw:∃ w1,w1=((((W.alloc (.cells #[.pointer (some ⟨ab,0,none⟩)] 189)).alloc (.cells #[.bool token] 4)).alloc (.cells #[.int .u8 k,.string nm,.string tx,.slice sa set.length sc,.slice na subs.length nc] 80)).alloc (.cells #[.func (.func 156) #[] #[.pointer (some ⟨W.heap.size,0,none⟩),.pointer (some ⟨W.heap.size+1,0,none⟩)]] 127)):=⟨_,rfl⟩
 obtain ⟨w1,hw1⟩:=hmw
 rw [← hw1] at hgr
 have f0:w1.cell? ⟨W.heap.size,0,none⟩=some (.pointer (some ⟨ab,0,none⟩)):=by rw [hw1];simp [go_sem]
 have f1:w1.cell? ⟨W.heap.size+1,0,none⟩=some (.bool token):=by rw [hw1];simp [go_sem]
 have f3:w1.cell? ⟨W.heap.size+1+1+1,0,none⟩=some (.func (.func 156) #[] #[.pointer (some ⟨W.heap.size,0,none⟩),.pointer (some ⟨W.heap.size+1,0,none⟩)]):=by rw [hw1];simp [go_sem]
 have hA1:=hA.keep hgr
 have hM1:AskEach 156 #[.pointer (some ⟨W.heap.size,0,none⟩),.pointer (some ⟨W.heap.size+1,0,none⟩)] w1 subs (fun n=>g.may es token n):=by
  intro i hi W' u0 u1 u2 u3 u4 hg hn
  exact may1_ok _ token ab _ _ u0 u1 u2 u3 u4 W' (by rw [hg.cells _ _ (lt_of_cell f0)];exact f0) (by rw [hg.cells _ _ (lt_of_cell f1)];exact f1)
   (fun W1 h=>ih i hi W1 ab eb u0 u1 u2 u3 u4 (hA1.keep (hg.trans h)) ((hn.keep h).mono h.size))
 have hM2:AskEach 157 #[.pointer (some ⟨W.heap.size+1+1+1,0,none⟩)] w1 subs (fun n=>!g.may es token n):=by
  intro i hi W' u0 u1 u2 u3 u4 hg hn
  exact may2_ok _ token ab _ _ _ u0 u1 u2 u3 u4 W' (by rw [hg.cells _ _ (lt_of_cell f0)];exact f0) (by rw [hg.cells _ _ (lt_of_cell f1)];exact f1) (by rw [hg.cells _ _ (lt_of_cell f3)];exact f3)
   (fun W1 h=>ih i hi W1 ab eb u0 u1 u2 u3 u4 (hA1.keep (hg.trans h)) ((hn.keep h).mono h.size))
 have hC1:=hid (contNodes_ok subs _ 156 _ enters156 w1 na nc (Nat.le_trans h8' (Nat.min_le_left _ _)) ((h9.keep hgr).mono hgr.size) hM1)
 have hC2:=hid (contNodes_ok subs _ 157 _ enters157 w1 na nc (Nat.le_trans h8' (Nat.min_le_left _ _)) ((h9.keep hgr).mono hgr.size) hM2)
 have hNm:=hid (named_ok g es token _ w1 ab eb _ _ _ _ _ hA1 ((hN'.keep hgr).mono hgr.size))
 have HA:=hid hA1
 have HG:=hid hgr
 rw [hw1] at hC1 hC2 hNm HA HG
 clear hgr f0 f1 f3 hA1 hM1 hM2 hN' h9 ih hA hw1 w1
 unfold reachN at h1 h2 h6' h8'
 rcases hk' with rfl | rfl | rfl | rfl | rfl | rfl | rfl | rfl | rfl | hk9
 ·go_enter Tryz.func142,Tryz.ntmps142
  go_wp2_with (go_at_call 96;refine hC1.out.mono ?_;rintro e w' ⟨rfl,hb2⟩)
  go_ret
  exact ⟨ret_bool (by simp [Gr.may,mayAny_eq]),HG.out.trans hb2⟩
 ·go_enter Tryz.func142,Tryz.ntmps142
  go_wp2_with (go_at_call 96;refine hC2.out.mono ?_;rintro e w' ⟨rfl,hb2⟩)
  go_ret
  exact ⟨ret_bool (by simp [Gr.may,mayAll_eq]),HG.out.trans hb2⟩
 ·go_enter Tryz.func142,Tryz.ntmps142
  go_wp2_with fail
  go_ret
  exact ⟨ret_bool (by simp [Gr.may]),HG.out⟩
 ·go_enter Tryz.func142,Tryz.ntmps142
  go_wp2_with fail
  go_ret
  exact ⟨ret_bool (by simp [Gr.may]),HG.out⟩
 ·go_enter Tryz.func142,Tryz.ntmps142
  go_wp2_with (go_at_call 96;refine hC1.out.mono ?_;rintro e w' ⟨rfl,hb2⟩)
  go_ret
  exact ⟨ret_bool (by simp [Gr.may,mayAny_eq]),HG.out.trans hb2⟩
 ·rcases hnr.out with hi | ⟨j,hj,hi⟩
  ·have hfin:Hid (g.may es token (.mk 5 nm tx set subs)=false):=by simp [Hid,Gr.may,hi]
   rw [hi] at hNm
   clear hi hnr HA hC1 hC2
   go_enter Tryz.func142,Tryz.ntmps142
   go_wp2_with (go_at_call 143;refine hNm.out.mono ?_;rintro e w' ⟨rfl,hb2⟩;have HB:=hid hb2;clear hb2)
   go_ret
   exact ⟨ret_bool hfin.out.symm,HG.out.trans HB.out⟩
  ·obtain ⟨-,ea,el,ec,al,bl,nl⟩:=HA.out
   have hjl:j < es.length:=by omega
   have hfin:Hid (g.may es token (.mk 5 nm tx set subs)=es[j]):=by simp [Hid,Gr.may,hi,hjl]
   have ej:=ec j hjl
   rw [hi] at hNm
   generalize es[j]=bj at *
   have HL:=hid el
   unfold reachN at nl
   simp at al bl
   clear hi hnr HA hC1 hC2 ec el
   go_enter Tryz.func142,Tryz.ntmps142
   go_wp2_with (go_at_call 143;refine hNm.out.mono ?_;rintro e w' ⟨rfl,hb2⟩;have hc:=Grew.cells hb2;have HB:=hid hb2;clear hb2)
   go_ret
   exact ⟨ret_bool (by rw [hfin.out]),HG.out.trans HB.out⟩
 ·rcases hnr.out with hi | ⟨j,hj,hi⟩
  ·have hfin:Hid (g.may es token (.mk 6 nm tx set subs)=false):=by simp [Hid,Gr.may,hi]
   rw [hi] at hNm
   clear hi hnr HA hC1 hC2
   go_enter Tryz.func142,Tryz.ntmps142
   go_wp2_with (go_at_call 143;refine hNm.out.mono ?_;rintro e w' ⟨rfl,hb2⟩;have HB:=hid hb2;clear hb2)
   go_ret
   exact ⟨ret_bool hfin.out.symm,HG.out.trans HB.out⟩
  ·obtain ⟨-,ea,el,ec,al,bl,nl⟩:=HA.out
   have hjl:j < es.length:=by omega
   have hfin:Hid (g.may es token (.mk 6 nm tx set subs)=es[j]):=by simp [Hid,Gr.may,hi,hjl]
   have ej:=ec j hjl
   rw [hi] at hNm
   generalize es[j]=bj at *
   have HL:=hid el
   unfold reachN at nl
   simp at al bl
   clear hi hnr HA hC1 hC2 ec el
   go_enter Tryz.func142,Tryz.ntmps142
   go_wp2_with (go_at_call 143;refine hNm.out.mono ?_;rintro e w' ⟨rfl,hb2⟩;have hc:=Grew.cells hb2;have HB:=hid hb2;clear hb2)
   go_ret
   exact ⟨ret_bool (by rw [hfin.out]),HG.out.trans HB.out⟩
 ·go_enter Tryz.func142,Tryz.ntmps142
  go_wp2_with fail
  go_ret
  exact ⟨ret_bool (by simp [Gr.may]),HG.out⟩
 ·go_enter Tryz.func142,Tryz.ntmps142
  go_wp2_with fail
  go_ret
  exact ⟨ret_bool (by simp [Gr.may]),HG.out⟩
 ·go_enter Tryz.func142,Tryz.ntmps142
  go_wp2_with fail
  go_ret
  have e0:∀ c:Int,c≤8→(k == c)=false:=fun c hc=>by simp;omega
  exact ⟨ret_bool (by simp only [Gr.may,e0 0 (by omega),e0 1 (by omega),e0 2 (by omega),e0 3 (by omega),e0 4 (by omega),e0 5 (by omega),e0 6 (by omega),e0 7 (by omega),e0 8 (by omega)];rfl),HG.out⟩
end Go.Proofs.YtppjmdanckdobaaGreatDoor

/- nulls.token: what takes a token at once. -/
namespace Go.Proofs.YtppjmdanckdobaaGreatDoor
open Go.RowKit
open Lib (hid)
def Rl.token (r:Rl):Bool:=!(r.sort == 0)
theorem token_ok (r:Rl) (W:World) (v0 v1 v2 v3 v4 v5 v6 v7 v8 v9:Value) (hR:v1=.int .u8 r.sort) :
  Calls Tryz.prog 117 #[.agg #[v0,v1,v2,v3,v4,v5,v6,v7,v8,v9]] W fun e W2=>e=.returned (.bool r.token)∧Below W.heap.size W W2:=by
 subst hR
 go_enter Tryz.func117,Tryz.ntmps117
 go_wp2
 go_ret
 exact ⟨rfl,(Below.refl _ _).alloc (Nat.le_refl _) _⟩
end Go.Proofs.YtppjmdanckdobaaGreatDoor

/- Which rules may be empty: the fewest of which it holds. No program in sight. -/
namespace Go.Proofs.YtppjmdanckdobaaGreatDoor
open Go.RowKit
open Lib (hid)
def Leq (es fs:List Bool):Prop:=∀ i:Nat,es.getD i false=true→fs.getD i false=true
def Gr.Pre (g:Gr) (fs:List Bool):Prop:=∀ i (h:i < g.rules.length),g.may fs g.rules[i].token g.rules[i].body=true→fs.getD i false=true
def Gr.Sound (g:Gr) (es:List Bool):Prop:=es.length=g.rules.length∧∀ fs,g.Pre fs→Leq es fs
structure Gr.IsEmpty (g:Gr) (es:List Bool):Prop where
 sound:g.Sound es
 pre:g.Pre es
mutual
theorem may_mono {g:Gr} {es fs:List Bool} (h:Leq es fs) (token:Bool):∀ n:Nd,g.may es token n=true→g.may fs token n=true
 | .mk k nm tx set subs=>by
  have h1:=mayAll_mono (g:=g) h token subs
  have h2:=mayAny_mono (g:=g) h token subs
  rw [Gr.may,Gr.may]
  split
  ·exact h1
  ·split
   ·exact h2
   ·split
    ·exact id
    ·split
     ·exact id
     ·split
      ·intro h3
       simp only [Bool.and_eq_true] at h3 ⊢
       exact ⟨h3.1,h _ h3.2⟩
      ·exact id
theorem mayAll_mono {g:Gr} {es fs:List Bool} (h:Leq es fs) (token:Bool):∀ l:List Nd,g.mayAll es token l=true→g.mayAll fs token l=true
 | []=>by simp [Gr.mayAll]
 | n::r=>by
  have h1:=may_mono (g:=g) h token n
  have h2:=mayAll_mono (g:=g) h token r
  simp only [Gr.mayAll,Bool.and_eq_true]
  exact fun h3=>⟨h1 h3.1,h2 h3.2⟩
theorem mayAny_mono {g:Gr} {es fs:List Bool} (h:Leq es fs) (token:Bool):∀ l:List Nd,g.mayAny es token l=true→g.mayAny fs token l=true
 | []=>by simp [Gr.mayAny]
 | n::r=>by
  have h1:=may_mono (g:=g) h token n
  have h2:=mayAny_mono (g:=g) h token r
  simp only [Gr.mayAny,Bool.or_eq_true]
  exact fun h3=>h3.imp h1 h2
end
theorem Gr.Sound.next {g:Gr} {es:List Bool} (h:g.Sound es) {i:Nat} (hi:i < g.rules.length) (hm:g.may es g.rules[i].token g.rules[i].body=true):g.Sound (es.set i true):=by
 refine ⟨by simp [h.1],fun fs hfs j hj=>?_⟩
 by_cases e:i=j
 ·subst e
  exact hfs i hi (may_mono (h.2 fs hfs) _ _ hm)
 ·apply h.2 fs hfs j
  simpa [List.getD_eq_getElem?_getD,List.getElem?_set_ne e] using hj
theorem Gr.Sound.start (g:Gr):g.Sound (List.replicate g.rules.length false):=by
 refine ⟨by simp,fun fs _ j hj=>?_⟩
 rw [List.getD_eq_getElem?_getD,List.getElem?_replicate] at hj
 split at hj<;>simp at hj
theorem Gr.IsEmpty.unique {g:Gr} {es fs:List Bool} (h:g.IsEmpty es) (k:g.IsEmpty fs):es=fs:=by
 apply List.ext_getElem (by rw [h.sound.1,k.sound.1])
 intro i h1 h2
 have a:=h.sound.2 fs k.pre i
 have b:=k.sound.2 es h.pre i
 simp only [List.getD_eq_getElem?_getD,List.getElem?_eq_getElem h1,List.getElem?_eq_getElem h2,Option.getD_some] at a b
 cases hx:es[i]<;>cases hy:fs[i]<;>simp_all
def falses (es:List Bool):Nat:=(es.filter fun b=>!b).length
theorem falses_set (es:List Bool) (i:Nat) (h:i < es.length) (hf:es[i]=false):falses (es.set i true)+1=falses es:=by
 induction es generalizing i with
 | nil=>simp at h
 | cons b r ih =>
  cases i with
  | zero=>simp at hf;subst hf;simp [falses]
  | succ i =>
   have:=ih i (by simpa using h) (by simpa using hf)
   simp only [List.set_cons_succ,falses,List.filter_cons] at *
   split<;>simp_all
def SweepTo (g:Gr) (es0 es:List Bool) (c:Bool) (j:Nat):Prop :=
 g.Sound es∧(c=true→falses es < falses es0)∧(c=false→es=es0∧∀ i (h:i < g.rules.length),i < j→g.may es g.rules[i].token g.rules[i].body=true→es.getD i false=true)
theorem SweepTo.start {g:Gr} {es:List Bool} (h:g.Sound es):SweepTo g es es false 0:=⟨h,by simp,fun _=>⟨rfl,fun i _ h=>absurd h (by omega)⟩⟩
theorem SweepTo.keep {g:Gr} {es0 es:List Bool} {c:Bool} {j:Nat} (h:SweepTo g es0 es c j) (hj:j < g.rules.length) (hk:es.getD j false=true∨g.may es g.rules[j].token g.rules[j].body=false):SweepTo g es0 es c (j+1):=by
 refine ⟨h.1,h.2.1,fun hc=>⟨(h.2.2 hc).1,fun i hi hlt hm=>?_⟩⟩
 by_cases e:i=j
 ·subst e
  rcases hk with hk | hk
  ·exact hk
  ·rw [hk] at hm;cases hm
 ·exact (h.2.2 hc).2 i hi (by omega) hm
theorem SweepTo.grow {g:Gr} {es0 es:List Bool} {c:Bool} {j:Nat} (h:SweepTo g es0 es c j) (hj:j < g.rules.length) (hf:es.getD j false=false) (hm:g.may es g.rules[j].token g.rules[j].body=true):SweepTo g es0 (es.set j true) true (j+1):=by
 have hl:j < es.length:=by rw [h.1.1];exact hj
 have hf':es[j]=false:=by simpa [List.getD_eq_getElem?_getD,List.getElem?_eq_getElem hl] using hf
 refine ⟨h.1.next hj hm,fun _=>?_,by simp⟩
 have h1:=falses_set es j hl hf'
 cases c with
 | true=>have:=h.2.1 rfl;omega
 | false=>have:=(h.2.2 rfl).1;subst this;omega
theorem SweepTo.done {g:Gr} {es0 es:List Bool} (h:SweepTo g es0 es false g.rules.length):g.IsEmpty es:=⟨h.1,fun i hi hm=>(h.2.2 rfl).2 i hi hi hm⟩
end Go.Proofs.YtppjmdanckdobaaGreatDoor
