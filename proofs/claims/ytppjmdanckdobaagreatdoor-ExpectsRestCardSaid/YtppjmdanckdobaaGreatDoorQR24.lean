/- nodes.Plain: yes just if each node below is plain, and they are not too many, nor too deep. -/
import Derived.Lib.Hide
import Derived.Outline
import Derived.Test.YtppjmdanckdobaaGreatDoorQR18
import Derived.Test.YtppjmdanckdobaaGreatDoorQR19
import Derived.Test.YtppjmdanckdobaaGreatDoorQR23
import Derived.Test.YtppjmdanckdobaaGreatDoorQR1
import Derived.Test.YtppjmdanckdobaaGreatDoorQR3
namespace Go.Proofs.YtppjmdanckdobaaGreatDoor
open Go.RowKit Go.Shelf
open Lib (hid)
attribute [local go_sem] Oper.semAt_some
def Good (token:Bool) (l:List (Int × Nd)):Prop:=l.length≤2048∧∀ p∈l,p.1≤64∧plainN token p.2=true
theorem Good.pre {token:Bool} {l m:List (Int × Nd)} (h:Good token m) (hp:l <+: m):Good token l :=
 ⟨Nat.le_trans hp.length_le h.1,fun p hpl=>h.2 p (hp.subset hpl)⟩
theorem kpa_turn {base B0:Nat} {w:World} (hn:base≤w.heap.size) (W:World) (l:Nat) (o o':Obj) (hl:w.heap.size≤l) (h:W.heap[l]? = some o) (ho:o.isCells=false) (hw:o.isWalk=false):KpA base B0 W (W.putObj l o') :=
 ⟨belowK_b hn W l o o' hl h ho hw,fun b cs T f _ hb=>by
  by_cases e:b=l
  ·subst e
   rw [h] at hb
   cases hb
   cases ho
  ·exact (World.putObj_heap_other e).trans hb⟩
structure PlAt (lim b:Nat) (w0:World) (token:Bool) (k:Nat) (W:World):Prop where
 low:Below lim w0 W
 tok:Owns W b [.bool token] 4
 res:Owns W (b+1) [.bool false] 4
 many:Owns W (b+1+1) [.int .i64 k] 3
theorem ownFrom_plAt {β:Type} {lim b:Nat} {w:World} (hl:lim≤w.heap.size) (token:Bool) (f:β→Nat) (p:β→Prop):OwnFrom w.heap.size (fun (s:β) W=>PlAt lim b w token (f s) W∧p s) :=
 fun _ W W' row hs hg hr=>⟨⟨hs.1.low.grown hg (by have:=hs.1.low.size;omega) (fun k e=>by have:=(hr k e).1;omega),owns_turn hs.1.tok hg (fun r e=>(hr r e).2),owns_turn hs.1.res hg (fun r e=>(hr r e).2),owns_turn hs.1.many hg (fun r e=>(hr r e).2)⟩,hs.2⟩
theorem results_plain (tmps:Array Value) (w:World) (g:Nat) (b:Bool) (hp:tmps.getD 4 undef=.pointer (some ⟨g,0,none⟩)) (hg:Owns w g [.bool b] 4):(results Tryz.f54 tmps).run Tryz.prog w=.ok (.bool b) w:=by
 have hp':tmps[4]?.getD undef=.pointer (some ⟨g,0,none⟩):=by simpa using hp
 have hc:=hg.cell_at (i:=0) rfl
 simp [results,hp',asAddr,hc,go_sem]
theorem keeps_grew {A B:World} (h:Grew A B):KeepsOthers A B:=⟨h.size,fun k o hk _=>by rw [h.block k (Array.getElem?_eq_some_iff.1 hk).1];exact hk⟩
def PlainPost (token:Bool) (n:Nd) (W:World) (e:Ending) (W':World):Prop:=(∃ b,e=.returned (.bool b)∧(b=true↔Good token (n.alld 1)))∧Grew W W'
theorem Good.snoc {token:Bool} {l:List (Int × Nd)} (h:∀ p∈l,p.1≤64∧plainN token p.2=true) {d:Int} {x:Nd} (hd:d≤64) (hx:plainN token x=true):∀ p∈l++[(d,x)],p.1≤64∧plainN token p.2=true:=by
 intro y hy
 rcases List.mem_append.1 hy with hy | hy
 ·exact h y hy
 ·rw [List.mem_singleton.1 hy];exact ⟨hd,hx⟩
set_option maxHeartbeats 8000000 in
set_option maxRecDepth 20000 in
theorem nPlain_ok (token:Bool) (n:Nd) (W:World) (hT:Lib.Utf8Tabs 1 2 W) (v0 v1 v2 v3 v4:Value) (hN:NodeAt W W.heap.size (some v0) (some v1) (some v2) (some v3) (some v4) n) :
  Calls Tryz.prog 54 #[.agg #[v0,v1,v2,v3,v4],.bool token] W (PlainPost token n W):=by
 obtain ⟨k0,k1,k2,k3,k4,k5,k6,k7,k8,rfl,rfl,rfl,rfl,rfl⟩:=hN.forms
 have hw4:Hid (Boxes4 W ((((W.alloc (.cells #[.int .u8 k0,.string k1,.string k2,.slice k3 k4 k5,.slice k6 k7 k8] 80)).alloc (.cells #[.bool token] 4)).alloc (.cells #[.bool false] 4)).alloc (.cells #[.int .i64 0] 3)) [.int .u8 k0,.string k1,.string k2,.slice k3 k4 k5,.slice k6 k7 k8] 80 [.bool token] 4 [.bool false] 4 [.int .i64 0] 3):=boxes4 W _ _ _ _ _ _ _ _
 have HN:=hid hN
 have HT:=hid hT
 clear hN hT
 refine calls_of_wp_marks Tryz.func54 rfl ?_
 simp only [Tryz.ntmps54,List.size_toArray,List.length_cons,List.length_nil,Nat.reduceAdd,Nat.reduceSub,Array.replicate_succ,Array.replicate_zero,List.push_toArray,List.append_toArray,List.nil_append,List.cons_append]
 go_wp2_with fail
 generalize (((W.alloc (.cells #[.int .u8 k0,.string k1,.string k2,.slice k3 k4 k5,.slice k6 k7 k8] 80)).alloc (.cells #[.bool token] 4)).alloc (.cells #[.bool false] 4)).alloc (.cells #[.int .i64 0] 3)=w4 at *
 obtain ⟨hg4,o1,o2,o3,o4,hs4⟩:=hw4.out
 clear hw4
 refine (callsIn_wide.1 (allA_in Fence.wide (fun _=>trivial) rfl 3 _ _ _ _ _ _)).mono ?_
 rintro e w6 ⟨rfl,rfl⟩
 have h46:=grew_alloc w4 (.cells #[.int .u8 k0,.string k1,.string k2,.slice k3 k4 k5,.slice k6 k7 k8] 80)
 have hn6:=Owns.alloc w4 [.int .u8 k0,.string k1,.string k2,.slice k3 k4 k5,.slice k6 k7 k8] 80
 have hsz6:(w4.alloc (.cells #[.int .u8 k0,.string k1,.string k2,.slice k3 k4 k5,.slice k6 k7 k8] 80)).heap.size=w4.heap.size+1:=by simp
 have p2:=o2.keep h46
 have p3:=o3.keep h46
 have p4:=o4.keep h46
 have hg6:=hg4.trans h46
 have H6:=hid (show PlAt W.heap.size (W.heap.size+1) _ token 0 _ from ⟨Below.refl W.heap.size _,p2,p3,p4⟩)
 clear o1 o2 o3 o4 p2 p3 p4 hg4
 have HG6:=hid hg6
 rw [hs4] at hn6 hsz6
 have HN6:=hid hn6
 clear hg6 hn6 h46
 generalize w4.alloc (.cells #[.int .u8 k0,.string k1,.string k2,.slice k3 k4 k5,.slice k6 k7 k8] 80)=w6 at *
 go_wp2_with fail
 have hg6:=HG6.out
 have hl6:W.heap.size≤w6.heap.size:=hg6.size
 have hl6':W.heap.size+1+1+1+1 < w6.heap.size:=by omega
 clear hsz6
 have hstops:=all_stopsA Fence.wide rfl (fun _=>trivial) rfl 8 W.heap.size (W.heap.size+1+1+1+1) W w6 (Nat.le_refl _) hl6 hg6 n _ _ _ _ _ HN.out HN6.out
 refine (wpIn_wide (n:=9)).1 ?_
 refine wpIn_rangeFunc_ownH (F:=Fence.wide) rfl (by omega) (gf:=106) (lb:=#[.pointer (some ⟨W.heap.size+1+1+1+1,0,none⟩)]) rfl trivial (enters_of Tryz.func106 (by kernel_rfl) rfl) hstops (fun h k=>h.trans k) (kpa_turn hl6) (Below.refl _ _) (fun _=>rfl)
  (fun pre W'=>PlAt W.heap.size (W.heap.size+1) w6 token pre.length W'∧(pre.length≤2048∧∀ p∈pre.map DV.p,p.1≤64∧plainN token p.2=true)) (fun c pre W'=>c=.ret∧Below W.heap.size w6 W'∧Owns W' (W.heap.size+1+1) [.bool false] 4∧¬ Good token (pre.map DV.p))
  (ownFrom_plAt hl6 token _ _) ?hIx ⟨H6.out,by simp,by intro x hx;simp at hx⟩
  (fun x a' W'=>∃ Bx,w6.heap.size≤Bx∧Owns W' Bx [x.x.v0,x.x.v1,x.x.v2,x.x.v3,x.x.v4] 80∧a'={ tmps:=#[.agg #[.int .u8 k0,.string k1,.string k2,.slice k3 k4 k5,.slice k6 k7 k8],.bool token,.pointer (some ⟨W.heap.size,0,none⟩),.pointer (some ⟨W.heap.size+1,0,none⟩),.pointer (some ⟨W.heap.size+1+1,0,none⟩),.pointer (some ⟨W.heap.size+1+1+1,0,none⟩),
     .int .i64 x.d,.pointer (some ⟨Bx,0,none⟩),.agg #[.int .u8 k0,.string k1,.string k2,.slice k3 k4 k5,.slice k6 k7 k8],.func (.func 106) #[] #[.pointer (some ⟨W.heap.size+1+1+1+1,0,none⟩)],.int .i64 x.d,.agg #[x.x.v0,x.x.v1,x.x.v2,x.x.v3,x.x.v4],undef,undef,undef,undef,undef,undef,undef,undef,undef,undef,undef,undef,undef,undef],defers:=[] })
  (fun x a' _ X Y row hs hg hr=>by obtain ⟨Bx,h1,h2,h3⟩:=hs;exact ⟨Bx,h1,owns_turn h2 hg (fun r e=>(hr r e).2),h3⟩)
  ?assign ?body ?done ?stop
 case hIx =>
  exact fun c _ A B row hs hg hr=>⟨hs.1,hs.2.1.grown hg (by have:=hs.2.1.size;omega) (fun k e=>by have:=(hr k e).1;omega),owns_turn hs.2.2.1 hg (fun r e=>(hr r e).2),hs.2.2.2⟩
 case assign =>
  rintro l pre ⟨d,n,v0,v1,v2,v3,v4,hl⟩ Wc K ⟨hic,hlen,hall⟩ hK
  obtain ⟨m0,m1,m2,m3,m4,m5,m6,m7,m8,rfl,rfl,rfl,rfl,rfl⟩:=hl.forms
  have h6c:w6.heap.size≤Wc.heap.size:=hic.low.size
  have hg':=grew_alloc Wc (.cells #[.int .u8 m0,.string m1,.string m2,.slice m3 m4 m5,.slice m6 m7 m8] 80)
  have hK':=hid (hK _ _ ((KeepsOthers.alloc _ _).from _) (KpA.grew hg' (by omega)) ⟨⟨hic.low.trans (hg'.mono (by omega)),hic.tok.keep hg',hic.res.keep hg',hic.many.keep hg'⟩,hlen,hall⟩ ⟨Wc.heap.size,h6c,Owns.alloc Wc [.int .u8 m0,.string m1,.string m2,.slice m3 m4 m5,.slice m6 m7 m8] 80,rfl⟩)
  clear hK hic hall hg'
  simp only [DV.enc] at *
  gi_wp2
  exact hK'.out
 case body =>
  rintro l pre ⟨d,n',v0,v1,v2,v3,v4,hl⟩ a' Wc hlo ⟨rr,hrr⟩ ⟨hic,hlen,hall⟩ ⟨Bx,hBx,hox,rfl⟩ hlt
  obtain ⟨m0,m1,m2,m3,m4,m5,m6,m7,m8,rfl,rfl,rfl,rfl,rfl⟩:=hl.forms
  dsimp only at hox ⊢
  have h6c:w6.heap.size≤Wc.heap.size:=hic.low.size
  have hbelow:Below W.heap.size W Wc:=Below.trans hg6 hic.low
  have hfin:Hid ((pre++[(⟨d,n',.int .u8 m0,.string m1,.string m2,.slice m3 m4 m5,.slice m6 m7 m8,hl⟩:DV W W.heap.size)]).length=pre.length+1∧(pre++[(⟨d,n',.int .u8 m0,.string m1,.string m2,.slice m3 m4 m5,.slice m6 m7 m8,hl⟩:DV W W.heap.size)]).map DV.p=pre.map DV.p++[(d,n')]):=by unfold Hid;simp [DV.p]
  generalize (pre++[(⟨d,n',.int .u8 m0,.string m1,.string m2,.slice m3 m4 m5,.slice m6 m7 m8,hl⟩:DV W W.heap.size)])=pre' at *
  obtain ⟨k,hk⟩:∃ k,k=pre.length:=⟨_,rfl⟩
  have HKL:=hid hk
  rw [← hk] at hic hlen hfin
  have hsM:Wc.setCell ⟨W.heap.size+1+1+1,0,none⟩ (.int .i64 ((k:Int)+1))=Wc.setCell ⟨W.heap.size+1+1+1,0,none⟩ (.int .i64 ((k+1:Nat):Int)):=rfl
  have q1:PlAt W.heap.size (W.heap.size+1) w6 token (k+1) (Wc.setCell ⟨W.heap.size+1+1+1,0,none⟩ (.int .i64 ((k:Int)+1))) :=
   ⟨hic.low.trans (Below.setCell (Below.refl _ _) (p:=⟨W.heap.size+1+1+1,0,none⟩) (by show W.heap.size≤W.heap.size+1+1+1;omega) _),hic.tok.other (by show W.heap.size+1+1+1≠_;omega) _,hic.res.other (by show W.heap.size+1+1+1≠_;omega) _,hsM▸hic.many.set 0 _⟩
  have qx:Owns (Wc.setCell ⟨W.heap.size+1+1+1,0,none⟩ (.int .i64 ((k:Int)+1))) Bx [.int .u8 m0,.string m1,.string m2,.slice m3 m4 m5,.slice m6 m7 m8] 80:=hox.other (by have:=H6.out.many.lt;simp;omega) _
  have qk:KeepsOthers Wc (Wc.setCell ⟨W.heap.size+1+1+1,0,none⟩ (.int .i64 ((k:Int)+1))):=KeepsOthers.setCell _ _ _
  have qp:KpA W.heap.size w6.heap.size Wc (Wc.setCell ⟨W.heap.size+1+1+1,0,none⟩ (.int .i64 ((k:Int)+1))) :=
   ⟨Below.setCell (Below.refl _ _) (p:=⟨W.heap.size+1+1+1,0,none⟩) (by show W.heap.size≤W.heap.size+1+1+1;omega) _,fun b cs T f hb h=>by
    have:=H6.out.many.lt
    rw [Below.heap_setCell _ _ _ b (by simp;omega)];exact h⟩
  have x0:=hic.many.cell_at (i:=0) rfl
  have x1:=hic.many.free 0
  have x2:=hic.many.lt
  have HQ:Hid (Calls Tryz.prog 82 #[.agg #[.int .u8 m0,.string m1,.string m2,.slice m3 m4 m5,.slice m6 m7 m8],.bool token] (Wc.setCell ⟨W.heap.size+1+1+1,0,none⟩ (.int .i64 ((k:Int)+1))) fun e W'=>e=.returned (.bool (plainN token n'))∧Below (Wc.setCell ⟨W.heap.size+1+1+1,0,none⟩ (.int .i64 ((k:Int)+1))).heap.size (Wc.setCell ⟨W.heap.size+1+1+1,0,none⟩ (.int .i64 ((k:Int)+1))) W'):=by
   have hbb:Grew W (Wc.setCell ⟨W.heap.size+1+1+1,0,none⟩ (.int .i64 ((k:Int)+1))):=Below.trans hg6 q1.low
   exact nplain_ok token n' _ (tabs_grew HT.out hbb) _ _ _ _ _ ((hl.keep hbb).mono hbb.size)
  generalize hw1:Wc.setCell ⟨W.heap.size+1+1+1,0,none⟩ (.int .i64 ((k:Int)+1))=w1 at *
  have y0:=qx.cell_at (i:=0) rfl
  have y1:=qx.cell_at (i:=1) rfl
  have y2:=qx.cell_at (i:=2) rfl
  have y3:=qx.cell_at (i:=3) rfl
  have y4:=qx.cell_at (i:=4) rfl
  have yl:=qx.lt
  have t0:=q1.tok.cell_at (i:=0) rfl
  have tl:=q1.tok.lt
  have z0:=q1.many.cell_at (i:=0) rfl
  have z1:=q1.many.lt
  have Q1:=hid q1
  have QK:=hid qk
  have QP:=hid qp
  have HALL:=hid hall
  have HRET:∀ (a:Act) w2,Grew w1 w2→¬ Good token (pre'.map DV.p)→ownPostG w6.heap.size (KpA W.heap.size w6.heap.size) (fun pre W'=>PlAt W.heap.size (W.heap.size+1) w6 token pre.length W'∧(pre.length≤2048∧∀ p∈pre.map DV.p,p.1≤64∧plainN token p.2=true))
    (fun c (pre:List (DV W W.heap.size)) W'=>c=Code.ret∧Below W.heap.size w6 W'∧Owns W' (W.heap.size+1+1) [Value.bool false] 4∧¬ Good token (pre.map DV.p)) pre' Wc Exit.ret a (w2.setCell ⟨W.heap.size+1+1,0,none⟩ (.bool false)):=fun a w2 hg hbad=>by
   refine ⟨((qk.trans (keeps_grew hg)).trans (KeepsOthers.setCell _ _ _)).from _,rfl,(q1.low.trans (hg.mono (by have:=q1.low.size;omega))).trans (Below.setCell (Below.refl _ _) (p:=⟨W.heap.size+1+1,0,none⟩) (by show W.heap.size≤W.heap.size+1+1;omega) _),(q1.res.keep hg).set 0 _,hbad⟩
  have HRET:=hid HRET
  have r0:=q1.res.cell_at (i:=0) rfl
  have r1:=q1.res.free 0
  have r2:=q1.res.lt
  clear hsM hrr hl hlt hic hox qx q1 qk qp hall hk
  have HBK:Hid (¬ k+1≤2048→¬ Good token (pre'.map DV.p)):=hid fun h hg=>h (by have:=hg.1;rw [hfin.out.2,List.length_append,List.length_map,← HKL.out] at this;simpa using this)
  have HBD:Hid (¬ (d≤64∧plainN token n'=true)→¬ Good token (pre'.map DV.p)):=hid fun h hg=>h (hg.2 (d,n') (by rw [hfin.out.2];simp))
  by_cases hk2:(2048:Int) < (k:Int)+1
  ·have HX:=hid (HBK.out (by omega))
   gi_wp2_with (refine ⟨trivial,?_⟩)
   exact HRET.out { tmps:=#[],defers:=[] } _ (Below.refl _ _) HX.out
  by_cases hd2:(64:Int) < d
  ·have HX:=hid (HBD.out (by omega))
   gi_wp2_with (refine ⟨trivial,?_⟩)
   exact HRET.out { tmps:=#[],defers:=[] } _ (Below.refl _ _) HX.out
  gi_wp2_with ((try refine ⟨trivial,?_⟩);refine (CallsIn.inRound l (callsIn_wide.2 HQ.out)).mono ?_;rintro e W2 ⟨rfl,hg2⟩;have hcc:=Grew.cells hg2;have hff:=Grew.frees hg2;have hsz:=hg2.size;have HG2:=hid hg2;clear hg2;generalize hpx:plainN token n'=B at *;cases B)
  ·exact HRET.out { tmps:=#[],defers:=[] } _ HG2.out (HBD.out (by simp))
  ·refine ⟨(QK.out.trans (keeps_grew HG2.out)).from _,QP.out.trans (KpA.grew HG2.out (by omega)),⟨Q1.out.low.trans (HG2.out.mono (by omega)),Q1.out.tok.keep HG2.out,Q1.out.res.keep HG2.out,?_⟩,?_,?_⟩
   ·rw [hfin.out.1];exact Q1.out.many.keep HG2.out
   ·rw [hfin.out.1];omega
   ·rw [hfin.out.2];exact Good.snoc HALL.out (by omega) hpx
 case done =>
  rintro D ys W' hD hys ⟨hic,hlen,hall⟩ hK
  have r0:=hic.res.cell_at (i:=0) rfl
  have r1:=hic.res.free 0
  have r2:=hic.res.lt
  have hD2:D≠W.heap.size+1+1:=by omega
  have hgr:Grew W (W'.setCell ⟨W.heap.size+1+1,0,none⟩ (.bool true)):=Below.trans (Below.trans hg6 hic.low) (Below.setCell (Below.refl _ _) (p:=⟨W.heap.size+1+1,0,none⟩) (by show W.heap.size≤W.heap.size+1+1;omega) _)
  have ho:Owns (W'.setCell ⟨W.heap.size+1+1,0,none⟩ (.bool true)) (W.heap.size+1+1) [.bool true] 4:=hic.res.set 0 _
  have hK':(W'.setCell ⟨W.heap.size+1+1,0,none⟩ (.bool true)).heap[D]? = some (.deferred (some [])):=(Below.heap_setCell _ _ _ D hD2).trans hK
  have HFIN:Hid (Grew W ((W'.setCell ⟨W.heap.size+1+1,0,none⟩ (.bool true)).putObj D (.deferred none))∧Owns ((W'.setCell ⟨W.heap.size+1+1,0,none⟩ (.bool true)).putObj D (.deferred none)) (W.heap.size+1+1) [.bool true] 4):=by
   refine ⟨hgr.grown (grownBy_putObj' _ D _) (by have:=hgr.size;omega) (fun k e=>by cases e;omega),?_⟩
   unfold Owns at ho ⊢
   rw [World.putObj_heap_other (by omega)]
   exact ho
  have HK:=hid hK'
  clear hic hK hK' hgr ho
  have HALL:Hid (Good token (n.alld 1)):=by unfold Hid;rw [← hys];exact ⟨by rw [List.length_map];exact hlen,hall⟩
  clear hall hys
  go_wp2_with fail
  refine ⟨by simp,.inl ⟨_,_,rfl,run_takeDeferred HK.out,?_⟩⟩
  exact ⟨_,results_plain _ _ _ true rfl HFIN.out.2,⟨true,rfl,fun _=>HALL.out,fun _=>rfl⟩,HFIN.out.1⟩
 case stop =>
  rintro D c' pre W' hD hpf ⟨rfl,hlow,hres,hbad⟩ hK
  have HBAD:=hid (show ¬ Good token (n.alld 1) from fun h=>hbad (h.pre hpf))
  clear hbad hpf
  have HFIN:Hid (Grew W (W'.putObj D (.deferred none))∧Owns (W'.putObj D (.deferred none)) (W.heap.size+1+1) [.bool false] 4):=by
   have hgr:Grew W W':=Below.trans hg6 hlow
   refine ⟨hgr.grown (grownBy_putObj' _ D _) (by have:=hgr.size;omega) (fun k e=>by cases e;omega),?_⟩
   unfold Owns at hres ⊢
   rw [World.putObj_heap_other (by omega)]
   exact hres
  have HK:=hid hK
  clear hlow hres hK
  refine (wpIn_wide (n:=9)).2 ?_
  go_wp2_with fail
  refine ⟨by simp,.inl ⟨_,_,rfl,run_takeDeferred HK.out,?_⟩⟩
  exact ⟨_,results_plain _ _ _ false rfl HFIN.out.2,⟨false,rfl,fun h=>(by cases h),fun h=>absurd h HBAD.out⟩,HFIN.out.1⟩
end Go.Proofs.YtppjmdanckdobaaGreatDoor

/- How much a node is: it is gone through no deeper than 100,and no further than 9000. -/
namespace Go.Proofs.YtppjmdanckdobaaGreatDoor
open Go.RowKit
open Lib (hid)
mutual
def Nd.total:Nd→Nat
 | .mk _ nm tx set subs=>1+tx.size+nm.size+set.length+Nd.totals subs
def Nd.totals:List Nd→Nat
 | []=>0
 | n::r=>n.total+Nd.totals r
end
theorem Nd.totals_snoc (l:List Nd) (n:Nd):Nd.totals (l++[n])=Nd.totals l+n.total:=by
 induction l with
 | nil=>simp [Nd.totals]
 | cons x r ih=>simp only [List.cons_append,Nd.totals,ih];omega
theorem Nd.totals_take (l:List Nd) (k:Nat) (h:k < l.length):Nd.totals (l.take (k+1))=Nd.totals (l.take k)+l[k].total:=by
 rw [List.take_succ_eq_append_getElem h,Nd.totals_snoc]
def WtAt (own:Nat) (l:List Nd) (i:Nat) (q:Int):Prop:=0≤q∧(q < 9000→q=own+Nd.totals (l.take i))
def WtIs (n:Nd) (deep:Int) (e:Ending):Prop:=∃ r:Int,e=.returned (.int .i64 r)∧0≤r∧r≤422212465065985+9000 * (102 - deep)∧(r < 9000→r=n.total)
theorem wtAt_next {own:Nat} {l:List Nd} {i:Nat} {q r:Int} (h:WtAt own l i q) (hi:i < l.length) (hq:q < 9000) (hr:0≤r) (hr':r < 9000→r=l[i].total):WtAt own l (i+1) (q+r):=by
 obtain ⟨h1,h2⟩:=h
 refine ⟨by omega,fun h3=>?_⟩
 rw [Nd.totals_take l i hi,h2 hq]
 have:=hr' (by omega)
 omega
set_option maxHeartbeats 1000000 in
theorem weight_ok (n:Nd):∀ (W:World) (v0 v1 v2 v3 v4:Value) (deep:Int),0≤deep→deep≤101→NodeAt W W.heap.size (some v0) (some v1) (some v2) (some v3) (some v4) n →
  Calls Tryz.prog 104 #[.agg #[v0,v1,v2,v3,v4],.int .i64 deep] W fun e W'=>WtIs n deep e∧Below W.heap.size W W':=by
 induction n using Nd.ind with
 | h k nm tx set subs ih =>
 intro W v0 v1 v2 v3 v4 deep hd0 hd1 hN
 rw [NodeAt] at hN
 obtain ⟨hk,h1,h2,h3,h4,h5,⟨sa,sc,h6,h6',h7⟩,na,nc,h8,h8',h9⟩:=hN
 obtain rfl:=Option.some.inj h3
 obtain rfl:=Option.some.inj h4
 obtain rfl:=Option.some.inj h5
 obtain rfl:=Option.some.inj h6
 obtain rfl:=Option.some.inj h8
 clear h3 h4 h5 h6 h8
 unfold reachN at h1 h2 h6' h8'
 by_cases hdeep:deep≤100
 ·go_enter Tryz.func104,Tryz.ntmps104
  go_wp2
  go_loopw [5,6] (fun v i wr=>∃ (q:Int) (j:Nat),v=.int .i64 q∧i=.int .i64 j∧j≤subs.length∧WtAt (1+tx.size+nm.size+set.length) subs j q∧q≤422212465065985+9000 * (102 - deep)∧Below W.heap.size W wr∧W.heap.size < wr.heap.size∧wr.cell? ⟨W.heap.size,4,none⟩=some (.slice na subs.length nc)) (fun _ i _=>subs.length - (intOf i).toNat)
  case atStart =>
   refine ⟨_,0,rfl,rfl,by omega,⟨by omega,fun _=>by simp [Nd.totals]⟩,by omega,?_,by simp,?_⟩
   ·exact (Below.refl _ _).alloc (Nat.le_refl _) _
   ·simp [go_sem]
  case round =>
   obtain ⟨q,j,rfl,rfl,hj,hwt,hq1,hbw,hsz,hbox⟩:=hrel
   have hq0:=hwt.1
   by_cases hlt:j < subs.length
   ·by_cases hlq:q < 9000
    ·obtain ⟨b,off,rfl,hb,hnode⟩:=(h9.keep hbw).get hlt
     simp only [Nat.zero_add] at hnode
     obtain ⟨u0,u1,u2,u3,u4,e0,e1,e2,e3,e4,hnode⟩:=hnode.vals
     have hsub:=ih j hlt wr u0 u1 u2 u3 u4 (deep+1) (by omega) (by omega) (hnode.mono hbw.size)
     have HS:=hid hsub
     have HW:=hid hwt
     clear hsub hwt hnode ih h7 h9
     go_wp2_with (go_at_call 104;refine HS.out.mono ?_;rintro e w' ⟨⟨r,rfl,hr0,hr1,hr2⟩,hb2⟩)
     exact ⟨⟨q+r,j+1,rfl,by go_num,by omega,wtAt_next HW.out hlt hlq hr0 hr2,by omega,hbw.trans (hb2.mono (by omega)),by have:=hb2.size;omega,by rw [hb2.cell hsz];exact hbox⟩,by simp [intOf];omega⟩
    ·have HW:=hid hwt
     clear hwt ih h7 h9
     go_wp2_with fail
     go_ret
     exact ⟨⟨q,rfl,hq0,by omega,fun h=>by omega⟩,hbw⟩
   ·have HW:=hid hwt
    clear hwt ih h7 h9
    go_wp2_with fail
    go_ret
    refine ⟨⟨q,rfl,hq0,by omega,fun h=>?_⟩,hbw⟩
    have:=HW.out.2 h
    rw [List.take_of_length_le (by omega)] at this
    rw [this,Nd.total]
    omega
 ·clear ih h7 h9
  go_enter Tryz.func104,Tryz.ntmps104
  go_wp2_with fail
  go_ret
  exact ⟨⟨9000,rfl,by omega,by omega,fun h=>by omega⟩,(Below.refl _ _).alloc (Nat.le_refl _) _⟩
end Go.Proofs.YtppjmdanckdobaaGreatDoor

/- Whether a grammar is more than is gone through: where it is not,its rules are few and its nodes small. -/
namespace Go.Proofs.YtppjmdanckdobaaGreatDoor
open Go.RowKit
open Lib (hid)
mutual
def Nd.cnt:Nd→Nat
 | .mk _ _ _ _ subs=>1+Nd.cnts subs
def Nd.cnts:List Nd→Nat
 | []=>0
 | n::r=>n.cnt+Nd.cnts r
end
theorem Nd.cnts_snoc (l:List Nd) (n:Nd):Nd.cnts (l++[n])=Nd.cnts l+n.cnt:=by
 induction l with
 | nil=>simp [Nd.cnts]
 | cons x r ih=>simp only [List.cons_append,Nd.cnts,ih];omega
theorem Nd.cnts_take (l:List Nd) (k:Nat) (h:k < l.length):Nd.cnts (l.take (k+1))=Nd.cnts (l.take k)+l[k].cnt:=by
 rw [List.take_succ_eq_append_getElem h,Nd.cnts_snoc]
theorem Nd.cnts_take_le (l:List Nd) (k:Nat):Nd.cnts (l.take k)≤Nd.cnts l:=by
 induction l generalizing k with
 | nil=>simp [Nd.cnts]
 | cons x r ih =>
  cases k with
  | zero=>simp [Nd.cnts]
  | succ k=>have:=ih k;simp only [List.take_succ_cons,Nd.cnts];omega
mutual
theorem Nd.cnt_le_total:∀ n:Nd,n.cnt≤n.total
 | .mk k nm tx set subs=>by have:=Nd.cnts_le_totals subs;rw [Nd.cnt,Nd.total];omega
theorem Nd.cnts_le_totals:∀ l:List Nd,Nd.cnts l≤Nd.totals l
 | []=>by simp [Nd.cnts]
 | n::r=>by have:=Nd.cnt_le_total n;have:=Nd.cnts_le_totals r;rw [Nd.cnts,Nd.totals];omega
end
def BoolTells (p:Prop) (e:Ending):Prop:=e=.returned (.bool true)∨(e=.returned (.bool false)∧p)
theorem boolTells_mk {p:Prop} (b:Bool) (h:b=false→p):BoolTells p (.returned (.bool b)):=by
 cases b
 ·exact .inr ⟨rfl,h rfl⟩
 ·exact .inl rfl
theorem great3_ok (n:Nd) (W:World) (v0 v1 v2 v3 v4:Value) (hN:NodeAt W W.heap.size (some v0) (some v1) (some v2) (some v3) (some v4) n) :
  Calls Tryz.prog 78 #[.agg #[v0,v1,v2,v3,v4]] W fun e W'=>BoolTells (n.total≤3000) e∧Below W.heap.size W W':=by
 have hb:Below W.heap.size W (W.alloc (.cells #[v0,v1,v2,v3,v4] 80)):=(Below.refl _ _).alloc (Nat.le_refl _) _
 have hw:=hid (weight_ok n (W.alloc (.cells #[v0,v1,v2,v3,v4] 80)) v0 v1 v2 v3 v4 0 (by omega) (by omega) ((hN.keep hb).mono hb.size))
 have hB:=hid hb
 clear hN hb
 go_enter Tryz.func78,Tryz.ntmps78
 go_wp2_with (go_at_call 104;refine hw.out.mono ?_;rintro e w' ⟨⟨r,rfl,hr0,hr1,hr2⟩,hb2⟩)
 go_ret
 refine ⟨boolTells_mk _ fun h=>?_,hB.out.trans (hb2.mono (by simp))⟩
 have:r≤3000:=by simpa using h
 have:=hr2 (by omega)
 omega
set_option maxHeartbeats 1000000 in
theorem many_ok (n:Nd):∀ (W:World) (v0 v1 v2 v3 v4:Value),n.cnt≤9000→NodeAt W W.heap.size (some v0) (some v1) (some v2) (some v3) (some v4) n →
  Calls Tryz.prog 46 #[.agg #[v0,v1,v2,v3,v4]] W fun e W'=>e=.returned (.int .i64 n.cnt)∧Below W.heap.size W W':=by
 induction n using Nd.ind with
 | h k nm tx set subs ih =>
 intro W v0 v1 v2 v3 v4 hC hN
 rw [NodeAt] at hN
 obtain ⟨hk,h1,h2,h3,h4,h5,⟨sa,sc,h6,h6',h7⟩,na,nc,h8,h8',h9⟩:=hN
 obtain rfl:=Option.some.inj h3
 obtain rfl:=Option.some.inj h4
 obtain rfl:=Option.some.inj h5
 obtain rfl:=Option.some.inj h6
 obtain rfl:=Option.some.inj h8
 clear h3 h4 h5 h6 h8
 unfold reachN at h1 h2 h6' h8'
 rw [Nd.cnt] at hC ⊢
 have hcl:=Nd.cnts_take_le subs
 have HC:=hid hC
 have HL:=hid hcl
 clear hcl hC
 go_enter Tryz.func46,Tryz.ntmps46
 go_wp2
 go_loopw [3,4] (fun v i wr=>∃ (q:Int) (j:Nat),v=.int .i64 q∧i=.int .i64 j∧j≤subs.length∧Hid (q=1+Nd.cnts (subs.take j))∧0≤q∧q≤9000∧Below W.heap.size W wr∧W.heap.size < wr.heap.size∧wr.cell? ⟨W.heap.size,4,none⟩=some (.slice na subs.length nc)) (fun _ i _=>subs.length - (intOf i).toNat)
 case atStart =>
  refine ⟨_,0,rfl,rfl,by omega,by simp [Hid,Nd.cnts],by omega,by omega,?_,by simp,?_⟩
  ·exact (Below.refl _ _).alloc (Nat.le_refl _) _
  ·simp [go_sem]
 case round =>
  obtain ⟨q,j,rfl,rfl,hj,hq,hq0,hq1,hbw,hsz,hbox⟩:=hrel
  by_cases hlt:j < subs.length
  ·obtain ⟨b,off,rfl,hb,hnode⟩:=(h9.keep hbw).get hlt
   simp only [Nat.zero_add] at hnode
   obtain ⟨u0,u1,u2,u3,u4,e0,e1,e2,e3,e4,hnode⟩:=hnode.vals
   have hle:q+subs[j].cnt≤9000:=by
    have a1:=HL.out (j+1)
    have a2:=Nd.cnts_take subs j hlt
    have a3:=HC.out
    have a4:=hq.out
    omega
   have hsub:=ih j hlt wr u0 u1 u2 u3 u4 (by omega) (hnode.mono hbw.size)
   have HS:=hid hsub
   clear hsub hnode ih h7 h9
   go_wp2_with (go_at_call 46;refine HS.out.mono ?_;rintro e w' ⟨rfl,hb2⟩)
   exact ⟨⟨q+subs[j].cnt,j+1,rfl,by go_num,by omega,by have:=hq.out;have:=Nd.cnts_take subs j hlt;unfold Hid;omega,by omega,by omega,hbw.trans (hb2.mono (by omega)),by have:=hb2.size;omega,by rw [hb2.cell hsz];exact hbox⟩,by simp [intOf];omega⟩
  ·clear ih h7 h9
   go_wp2_with fail
   go_ret
   refine ⟨?_,hbw⟩
   have:=hq.out
   rw [List.take_of_length_le (by omega)] at this
   rw [this]
   rfl
end Go.Proofs.YtppjmdanckdobaaGreatDoor
