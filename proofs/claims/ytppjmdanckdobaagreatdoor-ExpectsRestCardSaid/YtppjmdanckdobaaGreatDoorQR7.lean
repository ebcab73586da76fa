/- from a place on: where a rule may end; the two closures of node. -/
import Derived.Test.YtppjmdanckdobaaGreatDoorQR6
namespace Go.Proofs.YtppjmdanckdobaaGreatDoor
open Go.RowKit
open Lib (hid)
theorem SE.At.wv {E:SE} {w:World} (h:E.At w):∃ a c,E.wv=.slice a E.wl.length c∧∀ k (_:k < E.wl.length),∃ b off,a=some ⟨b,off,none⟩∧b < E.lim∧w.cell? ⟨b,off+k,none⟩=some (.int .i64 E.wl[k]):=h.1.toks
set_option maxHeartbeats 4000000 in
set_option maxRecDepth 20000 in
theorem snode1_ok (E:SE) (i t:Nat) (hi:i≤E.wl.length) (W:World) (hA:E.At W) (b3 b7:Nat) (h3:Owns W b3 [E.ptr] 119) (h7:Owns W b7 [.int .i64 (t:Int)] 3) :
  Calls Tryz.prog 130 (#[.int .i64 (i:Int)]++#[.pointer (some ⟨b3,0,none⟩),.pointer (some ⟨b7,0,none⟩)]) W (NodeRes E (fun j=>tokM E.wl i t∧j=i+1) W):=by
 obtain ⟨w1,hw1⟩:∃ w1,W.alloc (.cells #[.int .u64 0,.int .u64 0] 125)=w1:=⟨_,rfl⟩
 have g1:Grew W w1:=hw1▸grew_alloc W _
 have o1:Owns w1 W.heap.size [.int .u64 0,.int .u64 0] 125:=hw1▸Owns.alloc W _ _
 have hA1:=hA.keep (SE.R.grew g1)
 have h31:=h3.keep g1
 have h71:=h7.keep g1
 have c3:=h31.cell_at (i:=0) rfl
 have l3:=h31.lt
 have c7:=h71.cell_at (i:=0) rfl
 have l7:=h71.lt
 have k1:=hA1.1.box.cell_at (i:=1) rfl
 have kl:=hA1.1.box.lt
 obtain ⟨wa,wc,hwv,htok⟩:=hA1.wv
 rw [hwv] at k1
 have hfew:=hA1.1.few
 have hlow:=hA1.1.book.low
 unfold SE.ptr at c3
 have HA:=hid hA
 have G1:=hid g1
 have O1:=hid o1
 obtain ⟨Q,hQ⟩:∃ Q,NodeRes E (fun j=>tokM E.wl i t∧j=i+1) W=Q:=⟨_,rfl⟩
 rw [hQ]
 have HQ:=hid hQ
 obtain ⟨f,hf⟩:∃ f,W.heap.size=f:=⟨_,rfl⟩
 have HFS:=hid hf
 rw [hf] at O1
 simp only [List.append_toArray,List.cons_append,List.nil_append]
 have HNO:=hid (fun (w w':World) (hr:Grew w1 w) (h:¬ ∃ j,tokM E.wl i t∧j=i+1) (ho:But (fun q=>q=f) w w')=>show Q (.returned (.agg #[.int .u64 0,.int .u64 0])) w' from by
  rw [← hQ]
  exact ⟨0,0,0,rfl,W2.zero,Bits.zero.iff fun j=>⟨fun h=>h.elim,fun hh=>h ⟨j,hh⟩⟩,SE.R.fresh hA (SE.R.grew (g1.trans hr)) ho (by omega)⟩)
 have hwr:IntKind.i64.wrap ((i:Int)+1)=((i+1:Nat):Int):=by rw [wrap_small _ (by omega) (by omega)];rfl
 by_cases hlt:i < E.wl.length
 ·obtain ⟨tb,to',hwa,htl,htc⟩:=htok i hlt
  subst hwa
  have htl2:tb < w1.heap.size:=by omega
  have d1:decide ((i:Int) < (E.wl.length:Int))=true:=decide_eq_true (by omega)
  have d2:(i:Int) < (E.wl.length:Int):=by omega
  have d3:(0:Int)≤(i:Int):=by omega
  have htm:tokM E.wl i t↔(E.wl[i]=(t:Int)∨E.wl[i] = -2):=by
   unfold tokM
   rw [List.getElem?_eq_getElem hlt]
   exact ⟨fun ⟨x,h1,h2⟩=>by obtain rfl:=Option.some.inj h1;exact h2,fun h=>⟨_,rfl,h⟩⟩
  have HTM:=hid htm
  obtain ⟨x,hx⟩:∃ x,E.wl[i]=x:=⟨_,rfl⟩
  rw [hx] at htc HTM
  obtain ⟨n,hn⟩:∃ n,E.wl.length=n:=⟨_,rfl⟩
  have HONE:=hid (fun w=>sone2 (i+1) (by omega) w)
  rw [hn] at k1 d1 d2 hfew
  have HN:=hid hn
  have HI:=hid hi
  clear hA hA1 h3 h7 h31 h71 hwv htok g1 o1 hQ hlow htm hx htl hn hlt hi
  by_cases hm:x=(t:Int)∨x = -2
  ·have HYES:=hid (fun (q z0 z1) (w w':World) (hz:W2 q z0 z1) (hq:q=2 ^ (i+1)) (hr:E.R W w')=>show Q (.returned (.agg #[.int .u64 z0,.int .u64 z1])) w' from by
    rw [← HQ.out]
    refine ⟨q,z0,z1,rfl,hz,?_,hr⟩
    rw [hq]
    exact (Bits.pow (by have:=HN.out;omega)).iff fun j=>⟨fun h=>⟨HTM.out.2 hm,h⟩,fun h=>h.2⟩)
   by_cases hxt:x=(t:Int)
   ·have e1:(x == (t:Int))=true:=beq_iff_eq.2 hxt
    clear hm hxt
    go_enter Tryz.func130,Tryz.ntmps130
    go_wp2_with fail
    refine wp_region_hav_lit follows (by kernel_rfl) ?_
    repeat ((first | refine HavG.skip (fun _=>rfl) ?_ | (refine HavG.val (fun _=>rfl) ?_ (fun x w hw _=>?_) ?_;rotate_left;(focus (have hc:=hw.cells;clear hw;go_simp;first | done | rfl))));simp only [Act.put,sia,scz,scs])
    refine HavG.tail (by kernel_rfl) (by kernel_rfl) (fun x w hw _=>?_)
    clear hf
    have HW:=hid hw
    have HOW:=hid (O1.out.keep hw)
    clear hw
    go_wp2_with fail
    refine (HONE.out _).mono ?_
    rintro e w2 ⟨⟨z0,z1,rfl,hz⟩,hg⟩
    have HZ:=hid hz
    have ho2:=HOW.out.keep hg
    have x0:=ho2.cell_at (i:=0) rfl
    have x1:=ho2.cell_at (i:=1) rfl
    have xl:=ho2.lt
    have f0:=ho2.free 0
    have f1:=ho2.free 1
    obtain ⟨hbt,hot⟩:=set_two ho2 (.int .u64 z0) (.int .u64 z1)
    have HOT:=hid hot
    have HRR:=hid (SE.R.fresh HA.out (SE.R.grew ((G1.out.trans HW.out).trans hg)) hbt (by have:=HFS.out;omega))
    clear ho2 hbt hot hg hz c3 l3 c7 l7 k1 kl
    go_wp2_with fail
    refine bodyPost_ret (results_cell_row (d:=Tryz.prog.underlying 125 |>.getD default) rfl _ _ f 125 _ (0,0) rfl HOT.out rfl rfl rfl) rfl ?_
    exact HYES.out _ z0 z1 w _ HZ.out rfl HRR.out
   ·have e1:(x == (t:Int))=false:=beq_eq_false_iff_ne.2 hxt
    obtain rfl:x = -2:=hm.resolve_left hxt
    clear hm hxt
    go_enter Tryz.func130,Tryz.ntmps130
    go_wp2_with fail
    refine wp_region_hav_lit follows (by kernel_rfl) ?_
    repeat ((first | refine HavG.skip (fun _=>rfl) ?_ | (refine HavG.val (fun _=>rfl) ?_ (fun x w hw _=>?_) ?_;rotate_left;(focus (have hc:=hw.cells;clear hw;go_simp;first | done | rfl))));simp only [Act.put,sia,scz,scs])
    refine HavG.tail (by kernel_rfl) (by kernel_rfl) (fun x w hw _=>?_)
    clear hf
    have HW:=hid hw
    have HOW:=hid (O1.out.keep hw)
    clear hw
    go_wp2_with fail
    refine (HONE.out _).mono ?_
    rintro e w2 ⟨⟨z0,z1,rfl,hz⟩,hg⟩
    have HZ:=hid hz
    have ho2:=HOW.out.keep hg
    have x0:=ho2.cell_at (i:=0) rfl
    have x1:=ho2.cell_at (i:=1) rfl
    have xl:=ho2.lt
    have f0:=ho2.free 0
    have f1:=ho2.free 1
    obtain ⟨hbt,hot⟩:=set_two ho2 (.int .u64 z0) (.int .u64 z1)
    have HOT:=hid hot
    have HRR:=hid (SE.R.fresh HA.out (SE.R.grew ((G1.out.trans HW.out).trans hg)) hbt (by have:=HFS.out;omega))
    clear ho2 hbt hot hg hz c3 l3 c7 l7 k1 kl
    go_wp2_with fail
    refine bodyPost_ret (results_cell_row (d:=Tryz.prog.underlying 125 |>.getD default) rfl _ _ f 125 _ (0,0) rfl HOT.out rfl rfl rfl) rfl ?_
    exact HYES.out _ z0 z1 w _ HZ.out rfl HRR.out
  ·have e1:(x == (t:Int))=false:=beq_eq_false_iff_ne.2 fun e=>hm (.inl e)
   have e2:(x == -2)=false:=beq_eq_false_iff_ne.2 fun e=>hm (.inr e)
   have HM:=hid hm
   clear hm
   go_enter Tryz.func130,Tryz.ntmps130
   go_wp2_with fail
   refine wp_region_hav_lit follows (by kernel_rfl) ?_
   repeat ((first | refine HavG.skip (fun _=>rfl) ?_ | (refine HavG.val (fun _=>rfl) ?_ (fun x w hw _=>?_) ?_;rotate_left;(focus (have hc:=hw.cells;clear hw;go_simp;first | done | rfl))));simp only [Act.put,sia,scz,scs])
   refine HavG.tail (by kernel_rfl) (by kernel_rfl) (fun x w hw _=>?_)
   clear hf
   have HW:=hid hw
   have HOW:=hid (O1.out.keep hw)
   have x0:=HOW.out.cell_at (i:=0) rfl
   have x1:=HOW.out.cell_at (i:=1) rfl
   have xl:=HOW.out.lt
   have f0:=HOW.out.free 0
   have f1:=HOW.out.free 1
   obtain ⟨hbt,hot⟩:=set_two HOW.out (.int .u64 0) (.int .u64 0)
   have HOT:=hid hot
   have HBT:=hid hbt
   clear hbt hot hw c3 l3 c7 l7 k1 kl
   go_wp2_with fail
   refine bodyPost_ret (results_cell_row (d:=Tryz.prog.underlying 125 |>.getD default) rfl _ _ f 125 _ (0,0) rfl HOT.out rfl rfl rfl) rfl ?_
   exact HNO.out w _ HW.out (fun ⟨j,h,_⟩=>HM.out (HTM.out.1 h)) HBT.out
 ·have d1:decide ((i:Int) < (E.wl.length:Int))=false:=decide_eq_false (by omega)
  have d1n:decide (i < E.wl.length)=false:=decide_eq_false hlt
  have HNT:=hid (show ¬ ∃ j,tokM E.wl i t∧j=i+1 from fun ⟨j,⟨x,h,_⟩,_⟩=>hlt (List.getElem?_eq_some_iff.1 h).1)
  clear hA hA1 h3 h7 h31 h71 hwv htok g1 o1 hQ hlow hi
  go_enter Tryz.func130,Tryz.ntmps130
  go_wp2_with fail
  refine wp_region_hav_lit follows (by kernel_rfl) ?_
  repeat ((first | refine HavG.skip (fun _=>rfl) ?_ | (refine HavG.val (fun _=>rfl) ?_ (fun x w hw _=>?_) ?_;rotate_left;(focus (have hc:=hw.cells;clear hw;go_simp;first | done | rfl))));simp only [Act.put,sia,scz,scs])
  refine HavG.tail (by kernel_rfl) (by kernel_rfl) (fun x w hw _=>?_)
  clear hf
  have HW:=hid hw
  have HOW:=hid (O1.out.keep hw)
  have x0:=HOW.out.cell_at (i:=0) rfl
  have x1:=HOW.out.cell_at (i:=1) rfl
  have xl:=HOW.out.lt
  have f0:=HOW.out.free 0
  have f1:=HOW.out.free 1
  obtain ⟨hbt,hot⟩:=set_two HOW.out (.int .u64 0) (.int .u64 0)
  have HOT:=hid hot
  have HBT:=hid hbt
  clear hbt hot hw c3 l3 c7 l7 k1 kl
  go_wp2_with fail
  refine bodyPost_ret (results_cell_row (d:=Tryz.prog.underlying 125 |>.getD default) rfl _ _ f 125 _ (0,0) rfl HOT.out rfl rfl rfl) rfl ?_
  exact HNO.out w _ HW.out HNT.out HBT.out
def BodyEnd (E:SE) (r a j:Nat):Prop:=∃ n,E.B.bodies[r]? = some n∧Der E.B E.wl n a j
def AskOk (E:SE) (r a:Nat):Prop:=∀ W,E.At W→Calls Tryz.prog 59 #[E.ptr,.int .i64 (r:Int),.int .i64 (a:Int)] W (NodeRes E (BodyEnd E r a) W)
set_option maxHeartbeats 4000000 in
set_option maxRecDepth 20000 in
theorem snode2_ok (E:SE) (r a:Nat) (h:AskOk E r a) (W:World) (hA:E.At W) (b3 b7:Nat) (h3:Owns W b3 [E.ptr] 119) (h7:Owns W b7 [.int .i64 (r:Int)] 3) :
  Calls Tryz.prog 131 (#[.int .i64 (a:Int)]++#[.pointer (some ⟨b3,0,none⟩),.pointer (some ⟨b7,0,none⟩)]) W (NodeRes E (BodyEnd E r a) W):=by
 obtain ⟨w1,hw1⟩:∃ w1,W.alloc (.cells #[.int .u64 0,.int .u64 0] 125)=w1:=⟨_,rfl⟩
 have g1:Grew W w1:=hw1▸grew_alloc W _
 have o1:Owns w1 W.heap.size [.int .u64 0,.int .u64 0] 125:=hw1▸Owns.alloc W _ _
 have h31:=h3.keep g1
 have h71:=h7.keep g1
 have c3:=h31.cell_at (i:=0) rfl
 have l3:=h31.lt
 have c7:=h71.cell_at (i:=0) rfl
 have l7:=h71.lt
 have HC:=hid (h w1 (hA.keep (SE.R.grew g1)))
 unfold SE.ptr at c3 HC
 have HA:=hid hA
 have G1:=hid g1
 have O1:=hid o1
 obtain ⟨Q,hQ⟩:∃ Q,NodeRes E (BodyEnd E r a) W=Q:=⟨_,rfl⟩
 rw [hQ]
 have HQ:=hid hQ
 obtain ⟨f,hf⟩:∃ f,W.heap.size=f:=⟨_,rfl⟩
 have HFS:=hid hf
 rw [hf] at O1
 simp only [List.append_toArray,List.cons_append,List.nil_append]
 clear hA h3 h7 h31 h71 g1 o1 hQ h
 go_enter Tryz.func131,Tryz.ntmps131
 go_wp2_with fail
 refine HC.out.mono ?_
 rintro e w2 ⟨q,z0,z1,rfl,hz,hb,hr⟩
 clear hf
 have HZ:=hid hz
 have HB:=hid hb
 have hne:f≠E.kb:=by have:=HA.out.kb_lt;have:=HFS.out;omega
 have ho2:=hr.owns O1.out hne
 have x0:=ho2.cell_at (i:=0) rfl
 have x1:=ho2.cell_at (i:=1) rfl
 have xl:=ho2.lt
 have f0:=ho2.free 0
 have f1:=ho2.free 1
 obtain ⟨hbt,hot⟩:=set_two ho2 (.int .u64 z0) (.int .u64 z1)
 have HOT:=hid hot
 have HRR:=hid (SE.R.fresh HA.out ((SE.R.grew G1.out).trans hr) hbt (by have:=HFS.out;omega))
 clear ho2 hbt hot hr hz hb c3 l3 c7 l7 hne
 go_wp2_with fail
 refine bodyPost_ret (results_cell_row (d:=Tryz.prog.underlying 125 |>.getD default) rfl _ _ f 125 _ (0,0) rfl HOT.out rfl rfl rfl) rfl ?_
 rw [← HQ.out]
 exact ⟨q,z0,z1,rfl,HZ.out,HB.out,HRR.out⟩
def PG (base:Nat) (z0 z1:Int) (a b:World):Prop:=But (fun q=>base≤q) a b∧∀ t,base≤t→(Owns a t [.int .u64 0,.int .u64 0] 125→Owns b t [.int .u64 0,.int .u64 0] 125∨Owns b t [.int .u64 z0,.int .u64 z1] 125)∧(Owns a t [.int .u64 z0,.int .u64 z1] 125→Owns b t [.int .u64 z0,.int .u64 z1] 125)
theorem pgRel {base:Nat} {z0 z1:Int}:Rel (PG base z0 z1) :=
 ⟨fun w=>⟨But.refl _ w,fun _ _=>⟨.inl,id⟩⟩,fun h k=>⟨But.trans h.1 k.1 (fun _ _ e=>e),fun t ht=>⟨fun ho=>((h.2 t ht).1 ho).elim (k.2 t ht).1 fun h'=>.inr ((k.2 t ht).2 h'),fun ho=>(k.2 t ht).2 ((h.2 t ht).2 ho)⟩⟩,fun w=>⟨(But.refl _ w).drew,fun _ _=>⟨.inl,id⟩⟩⟩
theorem PG.grew {base:Nat} {z0 z1:Int} {a b:World} (h:Grew a b):PG base z0 z1 a b:=⟨But.of_grew h,fun _ _=>⟨fun ho=>.inl (ho.keep h),fun ho=>ho.keep h⟩⟩
theorem PG.cells {w w':World} {z0 z1:Int} (h:PG w.heap.size z0 z1 w w'):∀ b o,b < w.heap.size→w'.cell? ⟨b,o,none⟩=w.cell? ⟨b,o,none⟩:=fun b o hb=>World.cell?_of_block (h.1.block b hb (fun e=>by omega))
theorem PG.set {a:World} {base t:Nat} {y0 y1 z0 z1:Int} (ho:Owns a t [.int .u64 y0,.int .u64 y1] 125) (ht:base≤t):PG base z0 z1 a ((a.setCell ⟨t,0,none⟩ (.int .u64 z0)).setCell ⟨t,1,none⟩ (.int .u64 z1)):=by
 obtain ⟨h1,h2⟩:=set_two ho (.int .u64 z0) (.int .u64 z1)
 refine ⟨(But.refl (fun q=>base≤q) a).trans h1 (fun q _ e=>by omega),fun t' ht'=>?_⟩
 by_cases e:t'=t
 ·subst e
  exact ⟨fun _=>.inr h2,fun _=>h2⟩
 ·exact ⟨fun h=>.inl (h1.owns h e),fun h=>h1.owns h e⟩
def HalfR (base:Nat) (z0 z1:Int) (v:Value) (w:World):Prop:=∃ t,v=.pointer (some ⟨t,0,none⟩)∧base≤t∧(Owns w t [.int .u64 0,.int .u64 0] 125∨Owns w t [.int .u64 z0,.int .u64 z1] 125)
def DoneR (base:Nat) (z0 z1:Int) (v:Value) (w:World):Prop:=∃ t,v=.pointer (some ⟨t,0,none⟩)∧base≤t∧Owns w t [.int .u64 z0,.int .u64 z1] 125
theorem HalfR.keep {base:Nat} {z0 z1:Int} {v:Value} {w w':World} (h:HalfR base z0 z1 v w) (hg:PG base z0 z1 w w'):HalfR base z0 z1 v w':=by
 obtain ⟨t,h1,h2,h3⟩:=h
 exact ⟨t,h1,h2,h3.elim (hg.2 t h2).1 fun h=>.inr ((hg.2 t h2).2 h)⟩
theorem DoneR.keep {base:Nat} {z0 z1:Int} {v:Value} {w w':World} (h:DoneR base z0 z1 v w) (hg:PG base z0 z1 w w'):DoneR base z0 z1 v w':=by
 obtain ⟨t,h1,h2,h3⟩:=h
 exact ⟨t,h1,h2,(hg.2 t h2).2 h3⟩
theorem SE.R.fresh2 {E:SE} {a b c:World} {F:Nat→Prop} (hA:E.At a) (h:E.R a b) (hb:But F b c) (hf:∀ q,F q→a.heap.size≤q):E.R a c:=by
 refine ⟨But.trans h.1 hb (fun i hi e=>by have:=hf i e;omega),fun hk=>?_⟩
 obtain ⟨L,h1,h2⟩:=h.2 hk
 have:=hA.kb_lt
 exact ⟨L,by rw [hb.block E.kb (Array.getElem?_eq_some_iff.1 h1).1 (fun e=>by have:=hf _ e;omega)];exact h1,h2⟩
set_option maxHeartbeats 4000000 in
set_option maxRecDepth 20000 in
theorem sfrom_ok (E:SE) (r a:Nat) (ha:a≤E.wl.length) (n:Nd) (hn:E.B.bodies[r]? = some n)
  (H:∀ W v0 v1 v2 v3 v4 z0 z1,E.At W→NodeAt W E.lim (some v0) (some v1) (some v2) (some v3) (some v4) n→W2 (2 ^ a) z0 z1→Calls Tryz.prog 93 #[E.ptr,.agg #[v0,v1,v2,v3,v4],.agg #[.int .u64 z0,.int .u64 z1]] W (NodeRes E (Der E.B E.wl n a) W)):AskOk E r a:=by
 intro W hA
 have hrl:=(List.getElem?_eq_some_iff.1 hn).1
 obtain ⟨w1,hw1⟩:∃ w1,W.alloc (.cells #[.int .u64 0,.int .u64 0] 125)=w1:=⟨_,rfl⟩
 have g1:Grew W w1:=hw1▸grew_alloc W _
 have o1:Owns w1 W.heap.size [.int .u64 0,.int .u64 0] 125:=hw1▸Owns.alloc W _ _
 have zz1:w1.heap.size=W.heap.size+1:=by rw [← hw1];exact World.size_alloc _ _
 obtain ⟨w2,hw2⟩:∃ w2,w1.alloc (.cells #[.int .i64 (r:Int),.int .i64 (a:Int)] 168)=w2:=⟨_,rfl⟩
 have g2:Grew w1 w2:=hw2▸grew_alloc w1 _
 have o2:Owns w2 w1.heap.size [.int .i64 (r:Int),.int .i64 (a:Int)] 168:=hw2▸Owns.alloc w1 _ _
 obtain ⟨f,hf⟩:∃ f,W.heap.size=f:=⟨_,rfl⟩
 rw [hf] at o1 zz1
 rw [zz1] at o2
 have hA2:=hA.keep (SE.R.grew (g1.trans g2))
 have k2:=hA2.1.box.cell_at (i:=2) rfl
 have kl:=hA2.1.box.lt
 have s0:=o2.cell_at (i:=0) rfl
 have s1:=o2.cell_at (i:=1) rfl
 have sl:=o2.lt
 have HA:=hid hA
 have HA2:=hid hA2
 have G2:=hid (g1.trans g2)
 have O1:=hid (o1.keep g2)
 have O2:=hid o2
 have HFS:=hid hf
 have HHN:=hid hn
 have HH:=hid H
 have HHA:=hid ha
 obtain ⟨Q,hQ⟩:∃ Q,NodeRes E (BodyEnd E r a) W=Q:=⟨_,rfl⟩
 rw [hQ]
 have HQ:=hid hQ
 unfold SE.ptr
 clear hA hA2 g1 g2 o1 o2 hQ H ha
 obtain ⟨L,hL,hright⟩:=HA2.out.2
 have HL:=hid hL
 have HRI:=hid hright
 rcases run_known hL (r,a) with ⟨m,hm,hlk⟩ | ⟨hnone,hlk⟩
 ·as_aux_lemma =>
   obtain ⟨z0,z1,hzz⟩:=W2.ex m
   have HZ:=hid hzz
   have HRM:=hid (HRI.out _ hm)
   have HLK:Hid (∀ w,PG w2.heap.size z0 z1 w2 w→(Instr.lookup 120 (.map (some E.kb)) (.agg #[.int .i64 (r:Int),.int .i64 (a:Int)]) true).run Tryz.prog w=.ok (.tuple #[.agg #[.int .u64 z0,.int .u64 z1],.bool true]) w):=hid fun w hw=>by
    have hLw:w.heap[E.kb]? = some (mapObj (spotL L)):=by rw [hw.1.block _ (Array.getElem?_eq_some_iff.1 HL.out).1 (fun h=>by have:=(Array.getElem?_eq_some_iff.1 HL.out).1;omega)];exact HL.out
    rcases run_known hLw (r,a) with ⟨m',hm',h⟩ | ⟨h,-⟩
    ·have e:m'=m:=(HRI.out _ hm').eq HRM.out
     rw [e,HZ.out.pl] at h
     exact h
    ·exact absurd rfl (h _ hm)
   clear hlk hm hL hright hzz
   go_enter Tryz.func59,Tryz.ntmps59
   go_upto_region 2 with fail
   refine wp_region_hav_litX (G:=PG w2.heap.size z0 z1) pgRel follows (by kernel_rfl) ?_
   iterate 9 ((first | refine HavX.skip (fun _=>rfl) ?_ | (refine HavX.val pgRel (fun _=>rfl) ?_ (fun x w hw _=>?_) ?_;rotate_left;(focus (have hc:=hw.cells;have hlk:=HLK.out w hw;clear hw;go_simp;first | done | rfl))));simp only [Act.put,sia,scz,scs])
   refine HavX.any (fun _=>rfl) (fun _=>HalfR w2.heap.size z0 z1) (fun _ _ _ _ _ h=>h) (fun _ v w w' hg h=>h.keep hg) (fun x w hw hd=>?_) ?_
   ·clear hd
    have HW:=hid hw
    clear hw
    go_simp
    exact ⟨PG.grew (grew_alloc w _),_,rfl,HW.out.1.size,.inl (Owns.alloc w _ _)⟩
   simp only [Act.put,sia,scz,scs]
   refine HavX.any (fun _=>rfl) (fun x _ w=>DoneR w2.heap.size z0 z1 (x 9) w) (fun x x' v w h hx=>show DoneR w2.heap.size z0 z1 (x' 9) w by rw [← h 9 (by decide) (by kernel_rfl)];exact hx) (fun _ _ w w' hg h=>h.keep hg) (fun x w hw hd=>?_) ?_
   ·obtain ⟨t,hx,ht,hot⟩:=hd _ (List.mem_append_right _ (List.mem_singleton.2 rfl)) (by kernel_rfl)
    dsimp only at hx
    obtain ⟨y0,y1,hoy⟩:∃ y0 y1,Owns w t [.int .u64 y0,.int .u64 y1] 125:=hot.elim (fun h=>⟨_,_,h⟩) (fun h=>⟨_,_,h⟩)
    have x0:=hoy.cell_at (i:=0) rfl
    have x1:=hoy.cell_at (i:=1) rfl
    have xl:=hoy.lt
    have f0:=hoy.free 0
    have f1:=hoy.free 1
    have HPG:=hid (PG.set (z0:=z0) (z1:=z1) hoy ht)
    have HOT:=hid (set_two hoy (.int .u64 z0) (.int .u64 z1)).2
    have HTB:=hid ht
    clear hd hot hoy hw ht
    simp only [hx]
    go_simp
    exact ⟨HPG.out,t,rfl,HTB.out,HOT.out⟩
   simp only [Act.put]
   refine HavX.tail (by kernel_rfl) (by kernel_rfl) (fun x w hw hd=>?_)
   obtain ⟨t,hx,ht,hot⟩:=hd _ (List.mem_append_right _ (List.mem_singleton.2 rfl))
   have hft:f≠t:=by have:=O1.out.lt;omega
   have hft2:f+1≠t:=by have:=O2.out.lt;omega
   have HWT:=hid (show W.heap.size≤t by have:=G2.out.size;omega)
   have HFT:=hid hft
   have HF2:=hid hft2
   have HR3:=hid (SE.R.fresh2 HA.out (SE.R.grew G2.out) hw.1 (fun q hq=>by have:=G2.out.size;omega))
   have O13:=hid (hw.1.owns O1.out (fun hq=>by have:=O1.out.lt;omega))
   have O23:=hid (hw.1.owns O2.out (fun hq=>by have:=O2.out.lt;omega))
   have OT3:=hid hot
   clear hd hot hft hft2 ht hw k2 kl s0 s1 sl zz1 HLK hf hw1 hw2
   simp only [hx]
   clear hx
   obtain ⟨w3,rfl⟩:∃ z,z=w:=⟨_,rfl⟩
   have a0:=OT3.out.cell_at (i:=0) rfl
   have a1:=OT3.out.cell_at (i:=1) rfl
   have al:=OT3.out.lt
   have b0:=O13.out.cell_at (i:=0) rfl
   have b1:=O13.out.cell_at (i:=1) rfl
   have bl:=O13.out.lt
   have e0:=O13.out.free 0
   have e1:=O13.out.free 1
   obtain ⟨hb9,ho9⟩:=set_two O13.out (.int .u64 z0) (.int .u64 z1)
   have HO9:=hid ho9
   have HR9:=hid (SE.R.fresh HA.out HR3.out hb9 (by have:=HFS.out;omega))
   clear hb9 ho9
   go_wp2_with fail
   refine bodyPost_ret (results_cell_row (d:=Tryz.prog.underlying 125 |>.getD default) rfl _ _ f 125 _ (0,0) rfl HO9.out rfl rfl rfl) rfl ?_
   rw [← HQ.out]
   exact ⟨m,z0,z1,rfl,HZ.out,HRM.out,HR9.out⟩
 ·as_aux_lemma =>
   have HNO:=hid hnone
   have HLK:Hid (∀ w,PG w2.heap.size 0 0 w2 w→(Instr.lookup 120 (.map (some E.kb)) (.agg #[.int .i64 (r:Int),.int .i64 (a:Int)]) true).run Tryz.prog w=.ok (.tuple #[.agg #[.int .u64 0,.int .u64 0],.bool false]) w):=hid fun w hw=>by
    have hLw:w.heap[E.kb]? = some (mapObj (spotL L)):=by rw [hw.1.block _ (Array.getElem?_eq_some_iff.1 HL.out).1 (fun h=>by have:=(Array.getElem?_eq_some_iff.1 HL.out).1;omega)];exact HL.out
    rcases run_known hLw (r,a) with ⟨m,hm,-⟩ | ⟨-,h⟩
    ·exact absurd rfl (HNO.out _ hm)
    ·exact h
   clear hlk hnone hL hright
   go_enter Tryz.func59,Tryz.ntmps59
   go_upto_region 2 with fail
   refine wp_region_hav_litX (G:=PG w2.heap.size 0 0) pgRel follows (by kernel_rfl) ?_
   iterate 9 ((first | refine HavX.skip (fun _=>rfl) ?_ | (refine HavX.val pgRel (fun _=>rfl) ?_ (fun x w hw _=>?_) ?_;rotate_left;(focus (have hc:=hw.cells;have hlk:=HLK.out w hw;clear hw;go_simp;first | done | rfl))));simp only [Act.put,sia,scz,scs])
   refine HavX.any (fun _=>rfl) (fun _=>HalfR w2.heap.size 0 0) (fun _ _ _ _ _ h=>h) (fun _ v w w' hg h=>h.keep hg) (fun x w hw hd=>?_) ?_
   ·clear hd
    have HW:=hid hw
    clear hw
    go_simp
    exact ⟨PG.grew (grew_alloc w _),_,rfl,HW.out.1.size,.inl (Owns.alloc w _ _)⟩
   simp only [Act.put,sia,scz,scs]
   refine HavX.any (fun _=>rfl) (fun x _ w=>DoneR w2.heap.size 0 0 (x 9) w) (fun x x' v w h hx=>show DoneR w2.heap.size 0 0 (x' 9) w by rw [← h 9 (by decide) (by kernel_rfl)];exact hx) (fun _ _ w w' hg h=>h.keep hg) (fun x w hw hd=>?_) ?_
   ·obtain ⟨t,hx,ht,hot⟩:=hd _ (List.mem_append_right _ (List.mem_singleton.2 rfl)) (by kernel_rfl)
    dsimp only at hx
    obtain ⟨y0,y1,hoy⟩:∃ y0 y1,Owns w t [.int .u64 y0,.int .u64 y1] 125:=hot.elim (fun h=>⟨_,_,h⟩) (fun h=>⟨_,_,h⟩)
    have x0:=hoy.cell_at (i:=0) rfl
    have x1:=hoy.cell_at (i:=1) rfl
    have xl:=hoy.lt
    have f0:=hoy.free 0
    have f1:=hoy.free 1
    have HPG:=hid (PG.set (z0:=0) (z1:=0) hoy ht)
    have HOT:=hid (set_two hoy (.int .u64 0) (.int .u64 0)).2
    have HTB:=hid ht
    clear hd hot hoy hw ht
    simp only [hx]
    go_simp
    exact ⟨HPG.out,t,rfl,HTB.out,HOT.out⟩
   simp only [Act.put]
   refine HavX.tail (by kernel_rfl) (by kernel_rfl) (fun x w hw hd=>?_)
   obtain ⟨t,hx,ht,hot⟩:=hd _ (List.mem_append_right _ (List.mem_singleton.2 rfl))
   have hft:f≠t:=by have:=O1.out.lt;omega
   have hft2:f+1≠t:=by have:=O2.out.lt;omega
   have HWT:=hid (show W.heap.size≤t by have:=G2.out.size;omega)
   have HFT:=hid hft
   have HF2:=hid hft2
   have HR3:=hid (SE.R.fresh2 HA.out (SE.R.grew G2.out) hw.1 (fun q hq=>by have:=G2.out.size;omega))
   have O13:=hid (hw.1.owns O1.out (fun hq=>by have:=O1.out.lt;omega))
   have O23:=hid (hw.1.owns O2.out (fun hq=>by have:=O2.out.lt;omega))
   have OT3:=hid hot
   clear hd hot hft hft2 ht hw k2 kl s0 s1 sl zz1 HLK hf hw1 hw2
   simp only [hx]
   clear hx
   obtain ⟨w3,rfl⟩:∃ z,z=w:=⟨_,rfl⟩
   go_upto_region 4 with fail
   have hA3:=HA.out.keep HR3.out
   obtain ⟨nb,no,hba,hnb,hnode⟩:=hA3.1.book.bodies.get hrl
   simp only [Nat.zero_add] at hnode
   obtain ⟨v0,v1,v2,v3,v4,n0,n1,n2,n3,n4,hnode⟩:=hnode.vals
   have hbn:E.B.bodies[r]=n:=Option.some.inj ((List.getElem?_eq_getElem hrl).symm.trans HHN.out)
   rw [hbn] at hnode
   have HNODE:=hid hnode
   have HA3:=hid hA3
   have HFAC:Hid (∀ w,E.R w3 w→w.cell? ⟨E.kw,0,none⟩=some (.pointer (some ⟨E.bk,0,none⟩))∧E.kw < w.heap.size∧w.cell? ⟨E.bk,3,none⟩=some (.slice (some ⟨nb,no,none⟩) E.B.bodies.length E.V.bc)∧E.bk < w.heap.size∧nb < w.heap.size ∧
     w.cell? ⟨nb,no+r * 5,none⟩=some v0∧w.cell? ⟨nb,no+r * 5+1,none⟩=some v1∧w.cell? ⟨nb,no+r * 5+2,none⟩=some v2∧w.cell? ⟨nb,no+r * 5+3,none⟩=some v3∧w.cell? ⟨nb,no+r * 5+4,none⟩=some v4):=hid fun w hw=>by
    have h:=HA3.out.keep hw
    have hb:=WR.below hw HA3.out.1.book.low HA3.out.1.lo.2
    have h3:=h.1.book.box.cell_at (i:=3) rfl
    rw [hba] at h3
    exact ⟨h.1.box.cell_at (i:=0) rfl,h.1.box.lt,h3,h.1.book.box.lt,by have:=h.1.book.low;omega,by rw [hb.cell hnb];exact n0,by rw [hb.cell hnb];exact n1,by rw [hb.cell hnb];exact n2,by rw [hb.cell hnb];exact n3,by rw [hb.cell hnb];exact n4⟩
   obtain ⟨m0,m1,m2,m3,m4,m5,m6,m7,m8,rfl,rfl,rfl,rfl,rfl⟩:=hnode.forms
   have hri:(r:Int) < (E.B.bodies.length:Int):=by omega
   have hr0:(0:Int)≤(r:Int):=by omega
   have HFEW:=hid HA3.out.1.few
   clear hA3 hba hnb hnode hbn n0 n1 n2 n3 n4
   refine wp_region_hav_litX E.rel follows (by kernel_rfl) ?_
   iterate 12 ((first | refine HavX.skip (fun _=>rfl) ?_ | (refine HavX.val E.rel (fun _=>rfl) ?_ (fun x w hw _=>?_) ?_;rotate_left;(focus (obtain ⟨y0,y1,y2,y3,y4,y5,y6,y7,y8,y9⟩:=HFAC.out w hw;clear hw;go_simp;first | done | rfl))));simp only [Act.put,sia,scz,scs])
   refine HavX.any (fun _=>rfl) (fun _ v _=>∃ z0 z1,v=.agg #[.int .u64 z0,.int .u64 z1]∧W2 (2 ^ a) z0 z1) (fun _ _ _ _ _ h=>h) (fun _ _ _ _ _ h=>h) (fun x w hw hd=>?_) ?_
   ·clear hd hw
    have HONE:=hid (sone2 a (by have:=HHA.out;have:=HFEW.out;omega) w)
    go_simp
    refine HONE.out.mono ?_
    rintro e w' ⟨⟨z0,z1,rfl,hz⟩,hg⟩
    exact ⟨SE.R.grew hg,z0,z1,rfl,hz⟩
   simp only [Act.put,sia,scz,scs]
   refine HavX.any (fun _=>rfl) (fun _ v _=>∃ q z0 z1,v=.agg #[.int .u64 z0,.int .u64 z1]∧W2 q z0 z1∧Bits q (Der E.B E.wl n a)) (fun _ _ _ _ _ h=>h) (fun _ _ _ _ _ h=>h) (fun x w hw hd=>?_) ?_
   ·obtain ⟨z0,z1,hq',hy'⟩:=hd _ (List.mem_append_right _ (List.mem_singleton.2 rfl)) (by kernel_rfl)
    dsimp only at hq'
    have HC:=hid (HH.out w _ _ _ _ _ z0 z1 (HA3.out.keep hw) (HNODE.out.keep (WR.below hw HA3.out.1.book.low HA3.out.1.lo.2)) hy')
    unfold SE.ptr at HC
    clear hd hy' hw
    simp only [hq']
    go_simp
    refine HC.out.mono ?_
    rintro e w' ⟨q,y0,y1,rfl,hy,hb,hr⟩
    exact ⟨hr,q,y0,y1,rfl,hy,hb⟩
   simp only [Act.put,sia,scz,scs]
   refine HavX.tail (by kernel_rfl) (by kernel_rfl) (fun x w hw hd=>?_)
   obtain ⟨q,z0,z1,hx,hz,hb⟩:=hd _ (List.mem_append_right _ (List.mem_singleton.2 rfl))
   dsimp only at hx
   have HZ:=hid hz
   have HB:=hid hb
   have hkb:=HA.out.kb_lt
   have hot:=hw.owns OT3.out (show t≠E.kb by have:=HWT.out;omega)
   have ho1:=hw.owns O13.out (show f≠E.kb by have:=HFS.out;omega)
   have ho2:=hw.owns O23.out (show f+1≠E.kb by have:=HFS.out;omega)
   have x0:=hot.cell_at (i:=0) rfl
   have x1:=hot.cell_at (i:=1) rfl
   have xl:=hot.lt
   have f0:=hot.free 0
   have f1:=hot.free 1
   obtain ⟨hbt,hot2⟩:=set_two hot (.int .u64 z0) (.int .u64 z1)
   have HR4:=hid (SE.R.fresh HA.out (HR3.out.trans hw) hbt HWT.out)
   have O14:=hid (hbt.owns ho1 HFT.out)
   have O24:=hid (hbt.owns ho2 HF2.out)
   have OT4:=hid hot2
   clear hd hbt hot2 hot hw ho1 ho2 hz hb hkb
   simp only [hx]
   clear hx
   go_upto_region 5 with fail
   clear x0 x1 xl f0 f1
   generalize (w.setCell ⟨t,0,none⟩ (.int .u64 z0)).setCell ⟨t,1,none⟩ (.int .u64 z1)=w4 at *
   have hA4:=HA.out.keep HR4.out
   have k2:=hA4.1.box.cell_at (i:=2) rfl
   have kl:=hA4.1.box.lt
   have s0:=O24.out.cell_at (i:=0) rfl
   have s1:=O24.out.cell_at (i:=1) rfl
   have sl:=O24.out.lt
   have t0:=OT4.out.cell_at (i:=0) rfl
   have t1:=OT4.out.cell_at (i:=1) rfl
   have tl:=OT4.out.lt
   have HA4:=hid hA4
   have HRQ:Hid (Right E.B E.wl (r,a) q):=hid (HB.out.iff fun j=>⟨fun h=>⟨n,HHN.out,h⟩,fun ⟨n',h1,h2⟩=>by
    have e:=HHN.out.symm.trans h1
    obtain rfl:=Option.some.inj e
    exact h2⟩)
   clear hA4
   refine wp_region_hav_lit follows (by kernel_rfl) ?_
   repeat ((first | refine HavG.skip (fun _=>rfl) ?_ | (refine HavG.val (fun _=>rfl) ?_ (fun x w hw _=>?_) ?_;rotate_left;(focus (have hc:=hw.cells;clear hw;go_simp;first | done | rfl))));simp only [Act.put,sia,scz,scs])
   refine HavG.tail (by kernel_rfl) (by kernel_rfl) (fun x w hw _=>?_)
   have hAw:=HA4.out.keep (SE.R.grew hw)
   obtain ⟨L',hL',hr'⟩:=hAw.2
   obtain ⟨w5,hrun,hwr5,hbut⟩:=run_learn_any hL' hr' (r,a) q HRQ.out
   rw [HZ.out.pl] at hrun
   have hrun':(Instr.mapUpdate 120 (.map (some E.kb)) (.agg #[.int .i64 (r:Int),.int .i64 (a:Int)]) (.agg #[.int .u64 z0,.int .u64 z1])).run Tryz.prog w=.ok () w5:=hrun
   have hkb:=HA.out.kb_lt
   have HRUN:=hid hrun'
   have O15:=hid (hbut.owns (O14.out.keep hw) (show f≠E.kb by have:=HFS.out;omega))
   have OT5:=hid (hbut.owns (OT4.out.keep hw) (show t≠E.kb by have:=HWT.out;omega))
   have HR5:Hid (E.R W w5):=hid ((HR4.out.trans (SE.R.grew hw)).trans hwr5)
   clear hAw hL' hr' hwr5 hbut hkb hrun hrun' hw k2 kl s0 s1 sl t0 t1 tl
   go_wp2_with fail
   rw [HRUN.out]
   simp only [Result.andThen]
   have a0:=OT5.out.cell_at (i:=0) rfl
   have a1:=OT5.out.cell_at (i:=1) rfl
   have al:=OT5.out.lt
   have b0:=O15.out.cell_at (i:=0) rfl
   have b1:=O15.out.cell_at (i:=1) rfl
   have bl:=O15.out.lt
   have e0:=O15.out.free 0
   have e1:=O15.out.free 1
   obtain ⟨hb9,ho9⟩:=set_two O15.out (.int .u64 z0) (.int .u64 z1)
   have HO9:=hid ho9
   have HR9:=hid (SE.R.fresh HA.out HR5.out hb9 (by have:=HFS.out;omega))
   clear hb9 ho9
   go_wp2_with fail
   refine bodyPost_ret (results_cell_row (d:=Tryz.prog.underlying 125 |>.getD default) rfl _ _ f 125 _ (0,0) rfl HO9.out rfl rfl rfl) rfl ?_
   rw [← HQ.out]
   exact ⟨q,z0,z1,rfl,HZ.out,HRQ.out,HR9.out⟩
end Go.Proofs.YtppjmdanckdobaaGreatDoor
