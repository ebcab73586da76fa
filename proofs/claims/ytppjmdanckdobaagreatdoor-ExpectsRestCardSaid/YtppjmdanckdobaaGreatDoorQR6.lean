/- each place of some: what comes of it, together. -/
import Derived.Test.YtppjmdanckdobaaGreatDoorQR5
import Derived.Test.YtppjmdanckdobaaGreatDoorQR4
namespace Go.Proofs.YtppjmdanckdobaaGreatDoor
open Go.RowKit
open Lib (hid)
set_option maxHeartbeats 4000000 in
set_option maxRecDepth 20000 in
theorem seach_ok (E:SE) (F:Nat) (caps:Array Value) (hEnt:Enters F) (m:Nat) (m0 m1:Int) (hz:W2 m m0 m1) (hm:m < 2 ^ 65) (hml:∀ i,m.testBit i=true→i≤E.wl.length) (D:Nat→Nat→Prop) (W:World) (hA:E.At W)
  (hF:∀ i,m.testBit i=true→∀ W1,E.At W1→E.R W W1→Calls Tryz.prog F (#[.int .i64 (i:Int)]++caps) W1 (NodeRes E (D i) W1)) :
  Calls Tryz.prog 129 #[E.ptr,.agg #[.int .u64 m0,.int .u64 m1],.func (.func F) #[] caps] W (NodeRes E (From m D) W):=by
 have hm128:m < 2 ^ 128:=Nat.lt_of_lt_of_le hm (Nat.pow_le_pow_right (by omega) (by omega))
 obtain ⟨w1,hw1⟩:∃ w1,W.alloc (.cells #[.int .u64 m0,.int .u64 m1] 125)=w1:=⟨_,rfl⟩
 have g1:Grew W w1:=hw1▸grew_alloc W _
 have o1:Owns w1 W.heap.size [.int .u64 m0,.int .u64 m1] 125:=hw1▸Owns.alloc W _ _
 have z1:w1.heap.size=W.heap.size+1:=by rw [← hw1];exact World.size_alloc _ _
 obtain ⟨w2,hw2⟩:∃ w2,w1.alloc (.cells #[.int .u64 0,.int .u64 0] 125)=w2:=⟨_,rfl⟩
 have g2:Grew w1 w2:=hw2▸grew_alloc w1 _
 have o2:Owns w2 w1.heap.size [.int .u64 0,.int .u64 0] 125:=hw2▸Owns.alloc w1 _ _
 have G2:=hid (g1.trans g2)
 have O1:=hid (o1.keep g2)
 obtain ⟨f,hf⟩:∃ f,w1.heap.size=f:=⟨_,rfl⟩
 rw [hf] at o2
 have O2:=hid o2
 have HFS:=hid (show W.heap.size < f by omega)
 have hA2:=hA.keep (SE.R.grew (g1.trans g2))
 have k1:=hA2.1.box.cell_at (i:=1) rfl
 have kl:=hA2.1.box.lt
 obtain ⟨wa,wc,hwv,-⟩:=hA2.1.toks
 rw [hwv] at k1
 have hfew:=hA2.1.few
 have HA:=hid hA
 have HF:=hid hF
 have HML:=hid hml
 obtain ⟨n,hn⟩:∃ n,E.wl.length=n:=⟨_,rfl⟩
 rw [hn] at k1 hfew
 have HN:=hid hn
 have hwr:IntKind.i64.wrap ((n:Int)+1)=(n:Int)+1:=wrap_small _ (by omega) (by omega)
 obtain ⟨Q,hQ⟩:∃ Q,NodeRes E (From m D) W=Q:=⟨_,rfl⟩
 rw [hQ]
 have HQ:=hid hQ
 have HHAS:=hid (fun (i:Nat) (hi:i < 128) w=>shas2 i hm128 hi hz w)
 unfold SE.ptr
 clear g1 g2 o1 o2 hA hA2 hF hml hQ hn z1 hm128 hz
 go_enter Tryz.func129,Tryz.ntmps129
 go_wp2_with fail
 clear hw1 hw2 hf k1 kl
 go_loopw [14] (fun c wr=>∃ (i q:Nat) (z0 z1:Int),c=.int .i64 i∧i≤n+1∧Hid (E.R W wr)∧Hid (Owns wr W.heap.size [.int .u64 m0,.int .u64 m1] 125)∧Hid (Owns wr f [.int .u64 z0,.int .u64 z1] 125)∧Hid (W2 q z0 z1)∧Hid (Bits q fun j=>∃ k,k < i∧m.testBit k=true∧D k j)) (fun c _=>n+1 - (intOf c).toNat)
 case atStart=>exact ⟨0,0,0,0,rfl,by omega,SE.R.grew G2.out,O1.out,O2.out,W2.zero,Bits.zero.iff fun j=>⟨fun h=>h.elim,fun ⟨k,h,_⟩=>absurd h (by omega)⟩⟩
 case round =>
  obtain ⟨i,q,z0,z1,rfl,hi,HR,HO1,HO2,HZ,HB⟩:=hrel
  by_cases hlt:i < n+1
  ·have d1:decide ((i:Int) < (n:Int)+1)=true:=decide_eq_true (by omega)
   have a0:=HO1.out.cell_at (i:=0) rfl
   have a1:=HO1.out.cell_at (i:=1) rfl
   have al:=HO1.out.lt
   obtain ⟨b,hb⟩:∃ b,m.testBit i=b:=⟨_,rfl⟩
   have HH:=hid (HHAS.out i (by omega))
   rw [hb] at HH
   have HBT:=hid hb
   clear hb
   go_wp2_with fail
   refine (HH.out _).mono ?_
   rintro e w3 ⟨rfl,hg⟩
   have HR3:=hid (HR.out.trans (SE.R.grew hg))
   have HO13:=hid (HO1.out.keep hg)
   have HO23:=hid (HO2.out.keep hg)
   clear hg a0 a1 al
   cases b
   ·go_wp2_with fail
    refine ⟨⟨i+1,q,z0,z1,by go_num,by omega,HR3.out,HO13.out,HO23.out,HZ.out,HB.out.iff fun j=>⟨fun ⟨k,h1,h2⟩=>⟨k,by omega,h2⟩,fun ⟨k,h1,h2,h3⟩=>?_⟩⟩,by simp [intOf];omega⟩
    have:k≠i:=fun e=>by subst e;rw [HBT.out] at h2;cases h2
    exact ⟨k,by omega,h2,h3⟩
   ·have hA3:=HA.out.keep HR3.out
    have hkl:=HA.out.kb_lt
    have hfk:f≠E.kb:=by have:=HFS.out;omega
    have HFC:Hid (∀ w,E.R w3 w→w.cell? ⟨f,0,none⟩=some (.int .u64 z0)∧w.cell? ⟨f,1,none⟩=some (.int .u64 z1)∧f < w.heap.size):=hid fun w hw=>by
     have h:=hw.owns HO23.out hfk
     exact ⟨h.cell_at (i:=0) rfl,h.cell_at (i:=1) rfl,h.lt⟩
    have HCF:=hid (fun w (hw:E.R w3 w)=>HF.out i HBT.out w (hA3.keep hw) (HR3.out.trans hw))
    have HQ128:=hid HB.out.lt128
    have hFx:=hEnt
    unfold Enters at hFx
    have HA3:=hid hA3
    have HFK:=hid hfk
    clear hA3 hkl hfk d1
    go_upto_region 5 with fail
    refine wp_region_hav_litX E.rel follows (by kernel_rfl) ?_
    iterate 3 ((first | refine HavX.skip (fun _=>rfl) ?_ | (refine HavX.val E.rel (fun _=>rfl) ?_ (fun x w hw _=>?_) ?_;rotate_left;(focus (obtain ⟨y0,y1,yl⟩:=HFC.out w hw;clear hw;go_simp;first | done | rfl))));simp only [Act.put,sia,scz,scs])
    refine HavX.any (fun _=>rfl) (fun _ v _=>∃ q' y0 y1,v=.agg #[.int .u64 y0,.int .u64 y1]∧W2 q' y0 y1∧Bits q' (D i)) (fun _ _ _ _ _ h=>h) (fun _ _ _ _ _ h=>h) (fun x w hw hd=>?_) ?_
    ·clear hd
     have HW:=hid hw
     clear hw
     go_simp
     refine (HCF.out w HW.out).mono ?_
     rintro e w' ⟨q',y0,y1,rfl,hy',hb',hr'⟩
     exact ⟨hr',q',y0,y1,rfl,hy',hb'⟩
    simp only [Act.put,sia,scz,scs]
    refine HavX.any (fun _=>rfl) (fun _ v _=>∃ q' y0 y1,v=.agg #[.int .u64 y0,.int .u64 y1]∧W2 q' y0 y1∧Bits q' (fun j=>(∃ k,k < i∧m.testBit k=true∧D k j)∨D i j)) (fun _ _ _ _ _ h=>h) (fun _ _ _ _ _ h=>h) (fun x w hw hd=>?_) ?_
    ·obtain ⟨q',y0,y1,hq',hy',hb'⟩:=hd _ (List.mem_append_right _ (List.mem_singleton.2 rfl)) (by kernel_rfl)
     dsimp only at hq'
     have HB':=hid hb'
     have HY':=hid hy'
     clear hd hb' hw hy'
     simp only [hq']
     go_simp
     refine (swith2 HQ128.out HB'.out.lt128 HZ.out HY'.out w).mono ?_
     rintro e w' ⟨⟨x0,x1,rfl,hx⟩,hg⟩
     exact ⟨SE.R.grew hg,q ||| q',x0,x1,rfl,hx,HB.out.or HB'.out⟩
    simp only [Act.put,sia,scz,scs]
    refine HavX.tail (by kernel_rfl) (by kernel_rfl) (fun x w hw hd=>?_)
    obtain ⟨q',y0,y1,hq',hy',hb'⟩:=hd _ (List.mem_append_right _ (List.mem_singleton.2 rfl))
    dsimp only at hq'
    have HB':=hid hb'
    have HR5:=hid (HR3.out.trans hw)
    have hof:=hw.owns HO23.out HFK.out
    have x0:=hof.cell_at (i:=0) rfl
    have x1:=hof.cell_at (i:=1) rfl
    have xl:=hof.lt
    have f0:=hof.free 0
    have f1:=hof.free 1
    have hwk:W.heap.size≠E.kb:=by have:=HA.out.kb_lt;omega
    obtain ⟨hbt,hot⟩:=set_two hof (.int .u64 y0) (.int .u64 y1)
    have HBT2:=hid hbt
    have HOT:=hid hot
    have HO15:=hid (hbt.owns (hw.owns HO13.out hwk) (fun e=>by have:=HFS.out;omega))
    have HR6:=hid (SE.R.fresh HA.out HR5.out hbt (by have:=HFS.out;omega))
    have HY':=hid hy'
    clear hd hb' hw hof hbt hot hy'
    simp only [hq']
    go_wp2_with fail
    refine ⟨⟨i+1,q',y0,y1,by go_num,by omega,HR6.out,HO15.out,HOT.out,HY'.out,HB'.out.iff fun j=>⟨fun h=>?_,fun ⟨k,h1,h2,h3⟩=>?_⟩⟩,by simp [intOf];omega⟩
    ·rcases h with ⟨k,h1,h2⟩ | h
     ·exact ⟨k,by omega,h2⟩
     ·exact ⟨i,by omega,HBT.out,h⟩
    ·by_cases e:k=i
     ·subst e;exact .inr h3
     ·exact .inl ⟨k,by omega,h2,h3⟩
  ·obtain rfl:i=n+1:=by omega
   have p0:=HO2.out.cell_at (i:=0) rfl
   have p1:=HO2.out.cell_at (i:=1) rfl
   have pl:=HO2.out.lt
   have f0:=HO2.out.free 0
   have f1:=HO2.out.free 1
   obtain ⟨hbt,hot⟩:=set_two HO2.out (.int .u64 z0) (.int .u64 z1)
   have HOT:=hid hot
   have HR6:=hid (SE.R.fresh HA.out HR.out hbt (by have:=HFS.out;omega))
   clear hbt hot
   go_wp2_with fail
   refine bodyPost_ret (results_cell_row (d:=Tryz.prog.underlying 125 |>.getD default) rfl _ _ f 125 _ (0,0) rfl HOT.out rfl rfl rfl) rfl ?_
   rw [← HQ.out]
   refine ⟨q,z0,z1,rfl,HZ.out,HB.out.iff fun j=>⟨fun ⟨k,_,h2,h3⟩=>⟨k,h2,h3⟩,fun ⟨k,h2,h3⟩=>⟨k,?_,h2,h3⟩⟩,HR6.out⟩
   have:=HML.out k h2
   have:=HN.out
   omega
end Go.Proofs.YtppjmdanckdobaaGreatDoor
