/- again: where one or more of a node may end. -/
import Derived.Deep.LoopGhost
import Derived.Laws.StructEq
import Derived.Test.YtppjmdanckdobaaGreatDoorQR7
namespace Go.Proofs.YtppjmdanckdobaaGreatDoor
open Go.RowKit
open Lib (hid)
def NodeOk (E:SE) (n:Nd):Prop:=∀ (m:Nat) (z0 z1:Int) (W:World) (v0 v1 v2 v3 v4:Value),W2 m z0 z1→m < 2 ^ 65→(∀ i,m.testBit i=true→i≤E.wl.length)→E.At W→NodeAt W E.lim (some v0) (some v1) (some v2) (some v3) (some v4) n →
 (∀ i r a,m.testBit i=true→Vis E.B E.wl n i r a→AskOk E r a) →
 Calls Tryz.prog 93 #[E.ptr,.agg #[v0,v1,v2,v3,v4],.agg #[.int .u64 z0,.int .u64 z1]] W (NodeRes E (From m (Der E.B E.wl n)) W)
structure AgI (E:SE) (n:Nd) (m o now:Nat):Prop where
 out:∀ j,o.testBit j=true→From m (DerP E.B E.wl n) j
 now:Bits now fun j=>From m (Der E.B E.wl n) j∨o.testBit j=true∨From o (Der E.B E.wl n) j
 all:o=0∨∀ j,From m (Der E.B E.wl n) j→o.testBit j=true
 few:o < 2 ^ 65
theorem AgI.start {E:SE} {n:Nd} {m now:Nat} (h:Bits now (From m (Der E.B E.wl n))):AgI E n m 0 now :=
 ⟨fun j h=>by simp at h,h.iff fun j=>⟨.inl,fun h=>h.elim id fun h=>h.elim (fun h=>by simp at h) fun ⟨i,h,_⟩=>by simp at h⟩,.inl rfl,by omega⟩
theorem AgI.le {E:SE} {n:Nd} {m o now:Nat} (h:AgI E n m o now) (hne:now≠o):o < now:=by
 have h1:o ||| now=now:=Nat.eq_of_testBit_eq fun j=>by
  rw [Nat.testBit_or]
  cases hj:o.testBit j
  ·simp
  ·rw [(h.now.2 j).2 (.inr (.inl hj))];rfl
 have h2:o≤o ||| now:=Nat.left_le_or
 omega
theorem AgI.key {E:SE} {n:Nd} {m o:Nat} (h:AgI E n m o o) {i j:Nat}:DerP E.B E.wl n i j→m.testBit i=true→o.testBit j=true
 | .one h1,hi=>(h.now.2 _).2 (.inl ⟨_,hi,h1⟩)
 | .more h1 h2,hi=>(h.now.2 _).2 (.inr (.inr ⟨_,AgI.key h h1 hi,h2⟩))
theorem AgI.done {E:SE} {n:Nd} {m o:Nat} (h:AgI E n m o o):Bits o (From m (DerP E.B E.wl n)) :=
 ⟨h.few,fun j=>⟨h.out j,fun ⟨_,hi,hd⟩=>h.key hd hi⟩⟩
theorem AgI.outNow {E:SE} {n:Nd} {m o now:Nat} (h:AgI E n m o now):∀ j,now.testBit j=true→From m (DerP E.B E.wl n) j:=fun j hj=>by
 rcases (h.now.2 j).1 hj with ⟨i,h1,h2⟩ | h1 | ⟨i,h1,h2⟩
 ·exact ⟨i,h1,.one h2⟩
 ·exact h.out j h1
 ·obtain ⟨i',h3,h4⟩:=h.out i h1
  exact ⟨i',h3,.more h4 h2⟩
theorem AgI.next {E:SE} {n:Nd} {m o now q:Nat} (h:AgI E n m o now) (hq:Bits q (From now (Der E.B E.wl n))):AgI E n m now (now ||| q):=by
 refine ⟨fun j hj=>?_,?_,.inr fun j hj=>(h.now.2 j).2 (.inl hj),h.now.1⟩
 ·rcases (h.now.2 j).1 hj with ⟨i,h1,h2⟩ | h1 | ⟨i,h1,h2⟩
  ·exact ⟨i,h1,.one h2⟩
  ·exact h.out j h1
  ·obtain ⟨i',h3,h4⟩:=h.out i h1
   exact ⟨i',h3,.more h4 h2⟩
 ·refine ((Bits.self h.now.1).or hq).iff fun j=>⟨fun hj=>.inr hj,fun hj=>hj.elim (fun hj=>.inl ((h.now.2 j).2 (.inl hj))) id⟩
set_option maxHeartbeats 4000000 in
set_option maxRecDepth 20000 in
theorem sagain_ok (E:SE) (n:Nd) (hn:NodeOk E n) (m:Nat) (z0 z1:Int) (W:World) (v0 v1 v2 v3 v4:Value) (hz:W2 m z0 z1) (hm:m < 2 ^ 65) (hml:∀ i,m.testBit i=true→i≤E.wl.length) (hA:E.At W) (hN:NodeAt W E.lim (some v0) (some v1) (some v2) (some v3) (some v4) n)
  (hV:∀ i r a,m.testBit i=true→Vis E.B E.wl n i r a→AskOk E r a) (hV2:∀ i j r a,m.testBit i=true→DerP E.B E.wl n i j→Vis E.B E.wl n j r a→AskOk E r a) :
  Calls Tryz.prog 133 #[E.ptr,.agg #[v0,v1,v2,v3,v4],.agg #[.int .u64 z0,.int .u64 z1]] W (NodeRes E (From m (DerP E.B E.wl n)) W):=by
 obtain ⟨k0,k1,k2,k3,k4,k5,k6,k7,k8,rfl,rfl,rfl,rfl,rfl⟩:=hN.forms
 obtain ⟨f,hf⟩:∃ f,W.heap.size=f:=⟨_,rfl⟩
 obtain ⟨w1,hw1⟩:∃ w1,W.alloc (.cells #[.int .u8 k0,.string k1,.string k2,.slice k3 k4 k5,.slice k6 k7 k8] 80)=w1:=⟨_,rfl⟩
 have g1:Grew W w1:=hw1▸grew_alloc W _
 have o1:Owns w1 f [.int .u8 k0,.string k1,.string k2,.slice k3 k4 k5,.slice k6 k7 k8] 80:=hf▸hw1▸Owns.alloc W _ _
 have y1:w1.heap.size=f+1:=by rw [← hf,← hw1];exact World.size_alloc _ _
 obtain ⟨w2,hw2⟩:∃ w2,w1.alloc (.cells #[.int .u64 z0,.int .u64 z1] 125)=w2:=⟨_,rfl⟩
 have g2:Grew w1 w2:=hw2▸grew_alloc w1 _
 have o2:Owns w2 (f+1) [.int .u64 z0,.int .u64 z1] 125:=y1▸hw2▸Owns.alloc w1 _ _
 have y2:w2.heap.size=f+1+1:=by rw [← y1,← hw2];exact World.size_alloc _ _
 obtain ⟨w3,hw3⟩:∃ w3,w2.alloc (.cells #[.int .u64 0,.int .u64 0] 125)=w3:=⟨_,rfl⟩
 have g3:Grew w2 w3:=hw3▸grew_alloc w2 _
 have o3:Owns w3 (f+1+1) [.int .u64 0,.int .u64 0] 125:=y2▸hw3▸Owns.alloc w2 _ _
 have hg:=(g1.trans g2).trans g3
 have hA3:=hA.keep (SE.R.grew hg)
 have HC:=hid (hn m z0 z1 w3 _ _ _ _ _ hz hm hml hA3 (hN.keep (hg.mono hA.1.book.low)) hV)
 have O1:=hid (o1.keep (g2.trans g3))
 have O3:=hid o3
 have c0:=O1.out.cell_at (i:=0) rfl
 have c1:=O1.out.cell_at (i:=1) rfl
 have c2:=O1.out.cell_at (i:=2) rfl
 have c3:=O1.out.cell_at (i:=3) rfl
 have c4:=O1.out.cell_at (i:=4) rfl
 have cl:=O1.out.lt
 have p0:=(o2.keep g3).cell_at (i:=0) rfl
 have p1:=(o2.keep g3).cell_at (i:=1) rfl
 have pl:=(o2.keep g3).lt
 have HA:=hid hA
 have HG:=hid hg
 have HNd:=hid hN
 have HNO:=hid hn
 have HV2:=hid hV2
 have HML:=hid hml
 have HFS:=hid hf
 obtain ⟨Q,hQ⟩:∃ Q,NodeRes E (From m (DerP E.B E.wl n)) W=Q:=⟨_,rfl⟩
 rw [hQ]
 have HQ:=hid hQ
 unfold SE.ptr at HC ⊢
 clear hA hA3 hN hn hV hV2 hml hQ g1 g2 g3 o1 o2 o3 hg
 go_enter Tryz.func133,Tryz.ntmps133
 go_wp2_with fail
 refine HC.out.mono ?_
 rintro e w4 ⟨q,x0,x1,rfl,hx,hb,hr⟩
 clear hf hw1 hw2 hw3 y1 y2 c0 c1 c2 c3 c4 cl p0 p1 pl HC
 have hkb:=HA.out.kb_lt
 obtain ⟨w5,hw5⟩:∃ w5,w4.alloc (.cells #[.int .u64 x0,.int .u64 x1] 125)=w5:=⟨_,rfl⟩
 have g5:Grew w4 w5:=hw5▸grew_alloc w4 _
 have o5:Owns w5 w4.heap.size [.int .u64 x0,.int .u64 x1] 125:=hw5▸Owns.alloc w4 _ _
 obtain ⟨t,ht⟩:∃ t,w4.heap.size=t:=⟨_,rfl⟩
 rw [ht] at o5
 have O15:=hid ((hr.owns O1.out (by have:=HFS.out;omega)).keep g5)
 have O35:=hid ((hr.owns O3.out (by have:=HFS.out;omega)).keep g5)
 have O5:=hid o5
 have HR5:Hid (E.R W w5):=hid (((SE.R.grew HG.out).trans hr).trans (SE.R.grew g5))
 have HT5:=hid (show f+1+1 < t by have:=(hr.owns O3.out (by have:=HFS.out;omega)).lt;omega)
 have HI5:=hid (AgI.start hb)
 have HX5:=hid hx
 clear hr hb g5 o5 hkb hx
 go_wp2_with fail
 clear hw5 ht
 go_loopg [7] (2 ^ 65) (fun gk x7 wr=>∃ (o now t:Nat) (a0 a1 b0 b1:Int),x7=.pointer (some ⟨t,0,none⟩)∧Hid (gk+o=2 ^ 65)∧Hid (f+1+1 < t)∧Hid (E.R W wr)∧Hid (Owns wr f [.int .u8 k0,.string k1,.string k2,.slice k3 k4 k5,.slice k6 k7 k8] 80)∧Hid (Owns wr (f+1+1) [.int .u64 a0,.int .u64 a1] 125)∧Hid (Owns wr t [.int .u64 b0,.int .u64 b1] 125)∧Hid (W2 o a0 a1)∧Hid (W2 now b0 b1)∧Hid (AgI E n m o now))
 case atStart=>exact ⟨0,q,t,0,0,x0,x1,rfl,rfl,HT5.out,HR5.out,O15.out,O35.out,O5.out,W2.zero,HX5.out,HI5.out⟩
 case round =>
  obtain ⟨o,now,t,a0,a1,b0,b1,rfl,HK,HT,HR,HO1,HO3,HO5,HW,HW',HI⟩:=hrel
  have c0:=HO3.out.cell_at (i:=0) rfl
  have c1:=HO3.out.cell_at (i:=1) rfl
  have cl:=HO3.out.lt
  have d0:=HO5.out.cell_at (i:=0) rfl
  have d1:=HO5.out.cell_at (i:=1) rfl
  have dl:=HO5.out.lt
  have heq:=pl_eqIn b0 b1 a0 a1 wr
  obtain ⟨c,hc⟩:∃ c,(b0 == a0&&b1 == a1)=c:=⟨_,rfl⟩
  rw [hc] at heq
  have HKB:=hid HA.out.kb_lt
  cases c with
  | true =>
   have hno:now=o:=by
    rw [Bool.and_eq_true,beq_iff_eq,beq_iff_eq] at hc
    obtain ⟨h1,h2⟩:=hc
    have:=HW'.out
    rw [h1,h2] at this
    exact this.inj HW.out
   rw [hno] at HI
   have HDONE:=hid HI.out.done
   have f0:=HO3.out.free 0
   have f1:=HO3.out.free 1
   obtain ⟨hb9,ho9⟩:=set_two HO3.out (.int .u64 a0) (.int .u64 a1)
   have HO9:=hid ho9
   have HR9:=hid (SE.R.fresh HA.out HR.out hb9 (by have:=HFS.out;omega))
   clear hb9 ho9 hno hc
   go_wp2_with fail
   refine bodyPost_ret (results_cell_row (d:=Tryz.prog.underlying 125 |>.getD default) rfl _ _ (f+1+1) 125 _ (0,0) rfl HO9.out rfl rfl rfl) rfl ?_
   rw [← HQ.out]
   exact ⟨o,a0,a1,rfl,HW.out,HDONE.out,HR9.out⟩
  | false =>
   have HNE:Hid (now≠o):=hid fun e=>by
    subst e
    have h1:=HW.out
    have h2:=HW'.out
    rw [h1.1,h1.2,h2.1,h2.2] at hc
    simp at hc
   clear hc
   have f0:=HO3.out.free 0
   have f1:=HO3.out.free 1
   have hft:=HT.out
   obtain ⟨hb9,ho9⟩:=set_two HO3.out (.int .u64 b0) (.int .u64 b1)
   have HO36:=hid ho9
   have HO16:=hid (hb9.owns HO1.out (by omega))
   have HO56:=hid (hb9.owns HO5.out (by omega))
   have HR6:=hid (SE.R.fresh HA.out HR.out hb9 (by have:=HFS.out;omega))
   clear hb9 ho9 hft
   go_upto_region 5 with fail
   clear c0 c1 cl d0 d1 dl f0 f1 heq
   generalize (wr.setCell ⟨f+1+1,0,none⟩ (.int .u64 b0)).setCell ⟨f+1+1,1,none⟩ (.int .u64 b1)=w6 at *
   have d0:=HO56.out.cell_at (i:=0) rfl
   have d1:=HO56.out.cell_at (i:=1) rfl
   have dl:=HO56.out.lt
   obtain ⟨w7,hw7⟩:∃ w7,w6.alloc (.cells #[.int .u64 b0,.int .u64 b1] 125)=w7:=⟨_,rfl⟩
   have g7:Grew w6 w7:=hw7▸grew_alloc w6 _
   have o7:Owns w7 w6.heap.size [.int .u64 b0,.int .u64 b1] 125:=hw7▸Owns.alloc w6 _ _
   obtain ⟨t',ht'⟩:∃ t',w6.heap.size=t':=⟨_,rfl⟩
   rw [ht'] at o7
   have HO37:=hid (HO36.out.keep g7)
   have HO17:=hid (HO16.out.keep g7)
   have HO7:=hid o7
   have HR7:=hid (HR6.out.trans (SE.R.grew g7))
   have HT7:=hid (show f+1+1 < t' by have:=HO36.out.lt;omega)
   clear g7 o7
   go_upto_region 3 with fail
   clear hw7 ht' d0 d1 dl
   have HKF:=hid (show f≠E.kb∧f+1+1≠E.kb∧t'≠E.kb by have:=HKB.out;have:=HFS.out;have:=HT7.out;omega)
   have HFAC:Hid (∀ w,E.R w7 w→w.cell? ⟨f+1+1,0,none⟩=some (.int .u64 b0)∧w.cell? ⟨f+1+1,1,none⟩=some (.int .u64 b1)∧f+1+1 < w.heap.size∧f < w.heap.size∧w.cell? ⟨f,0,none⟩=some (.int .u8 k0)∧w.cell? ⟨f,1,none⟩=some (.string k1)∧w.cell? ⟨f,2,none⟩=some (.string k2)∧w.cell? ⟨f,3,none⟩=some (.slice k3 k4 k5)∧w.cell? ⟨f,4,none⟩=some (.slice k6 k7 k8)):=hid fun w hw=>by
    have h1:=hw.owns HO37.out HKF.out.2.1
    have h2:=hw.owns HO17.out HKF.out.1
    exact ⟨h1.cell_at (i:=0) rfl,h1.cell_at (i:=1) rfl,h1.lt,h2.lt,h2.cell_at (i:=0) rfl,h2.cell_at (i:=1) rfl,h2.cell_at (i:=2) rfl,h2.cell_at (i:=3) rfl,h2.cell_at (i:=4) rfl⟩
   have HOUT:Hid (∀ j,now.testBit j=true→From m (DerP E.B E.wl n) j):=hid HI.out.outNow
   have HCALL:Hid (∀ w,E.R w7 w→Calls Tryz.prog 93 #[E.ptr,.agg #[.int .u8 k0,.string k1,.string k2,.slice k3 k4 k5,.slice k6 k7 k8],.agg #[.int .u64 b0,.int .u64 b1]] w (NodeRes E (From now (Der E.B E.wl n)) w)):=hid fun w hw=>by
    have hA7:=HA.out.keep (HR7.out.trans hw)
    refine HNO.out now b0 b1 w _ _ _ _ _ HW'.out HI.out.now.1 (fun i hi=>?_) hA7 (HNd.out.keep (WR.below (HR7.out.trans hw) HA.out.1.book.low HA.out.1.lo.2)) (fun i r a hi hv=>?_)
    ·obtain ⟨i0,h1,h2⟩:=HOUT.out i hi
     exact h2.le.2 (HML.out i0 h1)
    ·obtain ⟨i0,h1,h2⟩:=HOUT.out i hi
     exact HV2.out i0 i r a h1 h2 hv
   unfold SE.ptr at HCALL
   have HN128:=hid HI.out.now.lt128
   refine wp_region_hav_litX E.rel follows (by kernel_rfl) ?_
   iterate 4 ((first | refine HavX.skip (fun _=>rfl) ?_ | (refine HavX.val E.rel (fun _=>rfl) ?_ (fun x w hw _=>?_) ?_;rotate_left;(focus (obtain ⟨y0,y1,y2,y3,y4,y5,y6,y7,y8⟩:=HFAC.out w hw;clear hw;go_simp;first | done | rfl))));simp only [Act.put,sia,scz,scs])
   refine HavX.any (fun _=>rfl) (fun _ v _=>∃ q x0 x1,v=.agg #[.int .u64 x0,.int .u64 x1]∧W2 q x0 x1∧Bits q (From now (Der E.B E.wl n))) (fun _ _ _ _ _ h=>h) (fun _ _ _ _ _ h=>h) (fun x w hw hd=>?_) ?_
   ·clear hd
    have HW9:=hid hw
    clear hw
    go_simp
    refine (HCALL.out w HW9.out).mono ?_
    rintro e w' ⟨q,x0,x1,rfl,hx,hb,hr⟩
    exact ⟨hr,q,x0,x1,rfl,hx,hb⟩
   simp only [Act.put,sia,scz,scs]
   refine HavX.any (fun _=>rfl) (fun _ v _=>∃ q y0 y1,v=.agg #[.int .u64 y0,.int .u64 y1]∧W2 (now ||| q) y0 y1∧Bits q (From now (Der E.B E.wl n))) (fun _ _ _ _ _ h=>h) (fun _ _ _ _ _ h=>h) (fun x w hw hd=>?_) ?_
   ·obtain ⟨q,x0,x1,hq',hy',hb'⟩:=hd _ (List.mem_append_right _ (List.mem_singleton.2 rfl)) (by kernel_rfl)
    dsimp only at hq'
    have HB':=hid hb'
    have HY':=hid hy'
    clear hd hb' hw hy'
    simp only [hq']
    go_simp
    refine (swith2 HN128.out HB'.out.lt128 HW'.out HY'.out w).mono ?_
    rintro e w' ⟨⟨y0,y1,rfl,hx⟩,hg⟩
    exact ⟨SE.R.grew hg,q,y0,y1,rfl,hx,HB'.out⟩
   simp only [Act.put,sia,scz,scs]
   refine HavX.tail (by kernel_rfl) (by kernel_rfl) (fun x w hw hd=>?_)
   obtain ⟨q,y0,y1,hq',hy',hb'⟩:=hd _ (List.mem_append_right _ (List.mem_singleton.2 rfl))
   dsimp only at hq'
   have HB':=hid hb'
   have HY':=hid hy'
   have hof:=hw.owns HO7.out HKF.out.2.2
   have x0:=hof.cell_at (i:=0) rfl
   have x1:=hof.cell_at (i:=1) rfl
   have xl:=hof.lt
   have f0:=hof.free 0
   have f1:=hof.free 1
   have hft:=HT7.out
   obtain ⟨hbt,hot⟩:=set_two hof (.int .u64 y0) (.int .u64 y1)
   have HOT:=hid hot
   have HO38:=hid (hbt.owns (hw.owns HO37.out HKF.out.2.1) (by omega))
   have HO18:=hid (hbt.owns (hw.owns HO17.out HKF.out.1) (by omega))
   have HR8:=hid (SE.R.fresh HA.out (HR7.out.trans hw) hbt (by have:=HFS.out;omega))
   clear hd hb' hw hof hbt hot hy' hft
   simp only [hq']
   clear hq'
   go_wp2_with fail
   go_roundg (2 ^ 65 - now)
   case measure=>have h1:=HI.out.le HNE.out;have h2:=HK.out;have h3:=HI.out.now.1;omega
   case rel=>exact ⟨now,now ||| q,t',b0,b1,y0,y1,rfl,by have h3:=HI.out.now.1;unfold Hid;omega,HT7.out,HR8.out,HO18.out,HO38.out,HOT.out,HW'.out,HY'.out,HI.out.next HB'.out⟩
end Go.Proofs.YtppjmdanckdobaaGreatDoor
