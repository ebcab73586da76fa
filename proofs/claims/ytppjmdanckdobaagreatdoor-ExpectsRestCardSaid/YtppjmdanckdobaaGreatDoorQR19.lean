/- bare and plain: may a node be, its Subs let be? -/
import Derived.RangeFuncBox
import Derived.Test.YtppjmdanckdobaaGreatDoorQR18
import Derived.Test.YtppjmdanckdobaaGreatDoorQR17
import Derived.Test.YtppjmdanckdobaaGreatDoorQR3
namespace Go.Proofs.YtppjmdanckdobaaGreatDoor
open Go.RowKit
open Lib (hid)
set_option maxHeartbeats 8000000 in
set_option maxRecDepth 20000 in
theorem bare_ok (n:Nd) (W:World) (lim:Nat) (v0 v1 v2 v3 v4:Value) (hN:NodeAt W lim (some v0) (some v1) (some v2) (some v3) (some v4) n):Calls Tryz.prog 109 #[.agg #[v0,v1,v2,v3,v4]] W fun e W'=>e=.returned (.bool (bareB n))∧Below W.heap.size W W':=by
 obtain ⟨k,nm,tx,set,subs⟩:=n
 rw [NodeAt] at hN
 obtain ⟨hk,h1,h2,h3,h4,h5,⟨sa,sc,h6,h6',h7⟩,na,nc,h8,h8',h9⟩:=hN
 obtain rfl:=Option.some.inj h3
 obtain rfl:=Option.some.inj h4
 obtain rfl:=Option.some.inj h5
 obtain rfl:=Option.some.inj h6
 obtain rfl:=Option.some.inj h8
 clear h3 h4 h5 h6 h7 h8 h9
 have en:=toList_nil nm
 have et:=toList_nil tx
 have es:((set.length:Int) == 0)=decide (set=[]):=by
  cases set with
  | nil=>rfl
  | cons x l=>rw [decide_eq_false (by simp),beq_eq_false_iff_ne];simp;omega
 obtain ⟨B,hB⟩:∃ B,bareB (.mk k nm tx set subs)=B:=⟨_,rfl⟩
 rw [hB]
 have hB:bareK k (decide (nm.data.toList=[])) (decide (tx.data.toList=[])) (decide (set=[]))=B:=hB
 generalize decide (nm.data.toList=[])=x at *
 generalize decide (tx.data.toList=[])=y at *
 generalize decide (set=[])=z at *
 generalize set.length=sl at *
 unfold bareK at hB
 by_cases k5:k=5
 ·subst k5
  rw [if_pos (.inl rfl)] at hB
  subst hB
  cases y<;>cases z
  all_goals
   go_enter Tryz.func109,Tryz.ntmps109
   go_wp2_with fail
   go_ret
   exact ⟨rfl,grew_alloc _ _⟩
 ·by_cases k6:k=6
  ·subst k6
   rw [if_pos (.inr rfl)] at hB
   subst hB
   cases y<;>cases z
   all_goals
    go_enter Tryz.func109,Tryz.ntmps109
    go_wp2_with fail
    go_ret
    exact ⟨rfl,grew_alloc _ _⟩
  ·rw [if_neg (by omega)] at hB
   by_cases k8:k=8
   ·subst k8
    rw [if_pos rfl] at hB
    subst hB
    cases x<;>cases z
    all_goals
     go_enter Tryz.func109,Tryz.ntmps109
     go_wp2_with fail
     go_ret
     exact ⟨rfl,grew_alloc _ _⟩
   ·rw [if_neg k8] at hB
    by_cases k9:k=9
    ·subst k9
     rw [if_pos rfl] at hB
     subst hB
     cases x<;>cases y
     all_goals
      go_enter Tryz.func109,Tryz.ntmps109
      go_wp2_with fail
      go_ret
      exact ⟨rfl,grew_alloc _ _⟩
    ·rw [if_neg k9] at hB
     subst hB
     have q5:(k == 5)=false:=beq_eq_false_iff_ne.2 k5
     have q6:(k == 6)=false:=beq_eq_false_iff_ne.2 k6
     have q8:(k == 8)=false:=beq_eq_false_iff_ne.2 k8
     have q9:(k == 9)=false:=beq_eq_false_iff_ne.2 k9
     clear k5 k6 k8 k9
     cases x<;>cases y<;>cases z
     all_goals
      go_enter Tryz.func109,Tryz.ntmps109
      go_wp2_with fail
      go_ret
      exact ⟨rfl,grew_alloc _ _⟩
end Go.Proofs.YtppjmdanckdobaaGreatDoor

/- plain: may a node be,its Subs let be? Just so. -/
namespace Go.Proofs.YtppjmdanckdobaaGreatDoor
open Go.RowKit
open Lib (hid)
def smallL:List UInt8:=[97,98,99,100,101,102,103,104,105,106,107,108,109,110,111,112,113,114,115,116,117,118,119,120,121,122]
def bigL:List UInt8:=[65,66,67,68,69,70,71,72,73,74,75,76,77,78,79,80,81,82,83,84,85,86,87,88,89,90]
def plainK (k:Int) (m:Nat) (token B pr sm bg tx rs:Bool) (sl:Nat):Bool :=
 B&&(if k=0 then decide (2≤m)&&decide (m≤32)
 else if k=1 then decide (m≠1)&&!pr
 else if k=2∨k=3∨k=4 then decide (m=1)
 else if k=7 then decide (m=1)&&!token
 else if k=5 then decide (m=0)&&!token&&sm
 else if k=6 then decide (m=0)&&bg
 else if k=8 then decide (m=0)&&token&&tx
 else if k=9 then decide (m=0)&&token&&decide (0 < sl)&&!rs
 else false)
def plainX (token:Bool) (n:Nd) (x:Bool):Bool :=
 plainK n.kind n.subs.length token (bareB n) x (nameB n.name.data.toList smallL) (nameB n.name.data.toList bigL) (textB n.text) (n.set.any badR) n.set.length
def plainN (token:Bool) (n:Nd):Bool:=plainX token n ((n.subs.drop 1).any predB)
theorem NodesAt.first {W:World} {lim:Nat} {a:Option Addr}:∀ {l:List Nd} {i:Nat} (k:Nat),NodesAt W lim a i l→NodesAt W lim a i (l.take k)
 | [],_,k,_=>by rw [List.take_nil,NodesAt];trivial
 | x::r,i,0,_=>by rw [List.take_zero,NodesAt];trivial
 | x::r,i,k+1,h=>by
  rw [NodesAt] at h
  rw [List.take_succ_cons,NodesAt]
  exact ⟨h.1,h.2.first k⟩
theorem tabs_grew {W w:World} (h:Lib.Utf8Tabs 1 2 W) (hg:Grew W w):Lib.Utf8Tabs 1 2 w:=by
 obtain ⟨h1,h2⟩:=h
 have hlt:∀ {b o:Nat} {v:Value},W.cell? ⟨b,o,none⟩=some v→b < W.heap.size:=fun {b o v} h=>by
  unfold World.cell? at h
  cases hb:W.heap[b]? with
  | none=>simp [hb] at h
  | some x=>exact (Array.getElem?_eq_some_iff.1 hb).1
 have b1:=hlt (h1 0 (by omega))
 have b2:=hlt (h2 0 (by omega)).1
 exact ⟨fun c hc=>(hg.cells _ _ b1).trans (h1 c hc),fun i hi=>⟨(hg.cells _ _ b2).trans (h2 i hi).1,(hg.cells _ _ b2).trans (h2 i hi).2⟩⟩
theorem pred_each (W:World) (l:List Nd):AskEach 110 #[] W l predB:=fun i hi W' v0 v1 v2 v3 v4 _ hN=>predicts_ok l[i] W' _ v0 v1 v2 v3 v4 hN
theorem NodesAt.step {W:World} {lim b off:Nat}:∀ {l:List Nd} {i:Nat},NodesAt W lim (some ⟨b,off,none⟩) (i+1) l→NodesAt W lim (some ⟨b,off+5,none⟩) i l
 | [],_,_=>by rw [NodesAt];trivial
 | x::r,i,h=>by
  rw [NodesAt] at h ⊢
  obtain ⟨⟨b',o',h1,h2,h3⟩,h4⟩:=h
  simp only [Option.some.injEq,Addr.mk.injEq,and_true] at h1
  obtain ⟨rfl,rfl⟩:=h1
  refine ⟨⟨b,off+5,rfl,h2,?_⟩,h4.step⟩
  rw [show off+5+i * 5=off+(i+1) * 5 by omega]
  exact h3
set_option maxHeartbeats 8000000 in
set_option maxRecDepth 20000 in
theorem nplain_ok (token:Bool) (n:Nd) (W:World) (hT:Lib.Utf8Tabs 1 2 W) (v0 v1 v2 v3 v4:Value) (hN:NodeAt W W.heap.size (some v0) (some v1) (some v2) (some v3) (some v4) n):Calls Tryz.prog 82 #[.agg #[v0,v1,v2,v3,v4],.bool token] W fun e W'=>e=.returned (.bool (plainN token n))∧Below W.heap.size W W':=by
 have HBR:=fun w (hg:Grew W w)=>bare_ok n w W.heap.size v0 v1 v2 v3 v4 (hN.keep hg)
 obtain ⟨k,nm,tx,set,subs⟩:=n
 have hN':=hN
 rw [NodeAt] at hN
 obtain ⟨hk,h1,h2,h3,h4,h5,⟨sa,sc,h6,h6',h7⟩,na,nc,h8,h8',h9⟩:=hN
 obtain rfl:=Option.some.inj h3
 obtain rfl:=Option.some.inj h4
 obtain rfl:=Option.some.inj h5
 obtain rfl:=Option.some.inj h6
 obtain rfl:=Option.some.inj h8
 clear h3 h4 h5 h6 h8 hN'
 have e0:plainN token (.mk k nm tx set subs)=plainX token (.mk k nm tx set subs) ((subs.drop 1).any predB):=rfl
 rw [e0]
 clear e0
 obtain ⟨zz,hzz⟩:∃ zz,(subs.drop 1).any predB=zz:=⟨_,rfl⟩
 rw [hzz]
 have HZ:=hid hzz
 clear hzz
 obtain ⟨R,hR⟩:∃ R,plainX token (.mk k nm tx set subs)=R:=⟨_,rfl⟩
 rw [hR]
 have hR:∀ x,plainK k subs.length token (bareB (.mk k nm tx set subs)) x (nameB nm.data.toList smallL) (nameB nm.data.toList bigL) (textB tx) (set.any badR) set.length=R x:=fun x=>by rw [← hR];rfl
 generalize bareB (.mk k nm tx set subs)=B at *
 have HB:=hid HBR
 have g1:=grew_alloc W (.cells #[.int .u8 k,.string nm,.string tx,.slice sa set.length sc,.slice na subs.length nc] 80)
 have o1:Owns (W.alloc (.cells #[.int .u8 k,.string nm,.string tx,.slice sa set.length sc,.slice na subs.length nc] 80)) W.heap.size [.int .u8 k,.string nm,.string tx,.slice sa set.length sc,.slice na subs.length nc] 80:=Owns.alloc W _ _
 have H7:=hid h7
 have H9:=hid h9
 have HT:=hid hT
 have HNM:=hid (show nm.size≤140737488355328 from h1)
 have HTX:=hid (show tx.size≤140737488355328 from h2)
 clear HBR h7 h9 hT h1 h2
 unfold reachN at h6' h8'
 go_enter Tryz.func82,Tryz.ntmps82
 go_wp2_with fail
 refine (HB.out _ g1).mono ?_
 rintro e w ⟨rfl,hb⟩
 have o2:=o1.keep hb
 have c0:=o2.cell_at (i:=0) rfl
 have c1:=o2.cell_at (i:=1) rfl
 have c2:=o2.cell_at (i:=2) rfl
 have c3:=o2.cell_at (i:=3) rfl
 have c4:=o2.cell_at (i:=4) rfl
 have cl:=o2.lt
 have HG:=hid (g1.trans hb)
 clear hb o1 o2 g1 HB
 unfold plainK at hR
 have HF:=hid (fun (x:Bool) (w':World) (h:R zz=x) (hg:Grew W w')=>(⟨ret_bool h.symm,hg⟩:Ending.returned (.bool x)=.returned (.bool (R zz))∧Below W.heap.size W w'))
 have hR0:B=false→R zz=false:=fun h=>by rw [← hR,h];rfl
 have HR:=hid hR
 clear hR
 cases B with
 | false =>
  have HR0:=hid (hR0 rfl)
  clear HR hR0
  go_wp2_with fail
  go_ret
  exact HF.out _ _ HR0.out HG.out
 | true =>
  clear hR0
  have hR:=HR.out
  simp only [Bool.true_and] at hR
  clear HR
  by_cases k0:k=0
  ·subst k0
   simp only [if_true] at hR
   have HR:=hid hR
   clear hR
   generalize subs.length=m at *
   by_cases h2:(2:Int)≤m
   ·by_cases h32:(m:Int)≤32
    ·go_wp2_with fail
     go_ret
     refine HF.out _ _ ?_ HG.out
     rw [← HR.out zz,decide_eq_true (by omega:2≤m),decide_eq_true (by omega:m≤32)]<;>first | rfl | (symm;simp;omega)
    ·go_wp2_with fail
     go_ret
     refine HF.out _ _ ?_ HG.out
     rw [← HR.out zz,decide_eq_true (by omega:2≤m),decide_eq_false (by omega:¬ m≤32)]<;>first | rfl | (symm;simp;omega)
   ·have h2b:decide ((2:Int)≤m)=false:=decide_eq_false h2
    have h2c:(m:Int) < 2:=by omega
    go_wp2_with fail
    go_ret
    refine HF.out _ _ ?_ HG.out
    rw [← HR.out zz,decide_eq_false (by omega:¬ 2≤m),Bool.false_and]
  simp only [if_neg k0] at hR
  have q0:(k == 0)=false:=beq_eq_false_iff_ne.2 k0
  by_cases k1:k=1
  ·subst k1
   simp only [if_true] at hR
   have HR:=hid hR
   clear hR k0 q0
   by_cases hm:subs.length=1
   ·have hmi:(subs.length:Int)=1:=by omega
    have HM:=hid hm
    generalize subs.length=m at *
    clear hm
    go_wp2_with fail
    go_ret
    refine HF.out _ _ ?_ HG.out
    rw [← HR.out zz,HM.out]<;>first | rfl | (symm;simp;omega)
   ·have HM:=hid (show subs.length≠1 from hm)
    cases subs with
    | nil =>
     have mn:min (1:Int) 0=0:=by decide
     have hC:=contNodes_ok [] predB 110 #[] enters_pred w na nc (Nat.zero_le _) (by rw [NodesAt];trivial) (pred_each w [])
     have HC:=hid hC
     have hxx:List.any ([]:List Nd) predB=zz:=HZ.out
     rw [hxx] at HC
     clear hC hm hxx
     go_wp2_with fail
     refine HC.out.mono ?_
     rintro e w2 ⟨rfl,hb2⟩
     have HG2:=hid (HG.out.trans hb2)
     clear hb2
     go_wp2_with fail
     go_ret
     refine HF.out _ _ ?_ HG2.out
     rw [← HR.out zz,decide_eq_true HM.out];rfl
    | cons s0 r0 =>
     obtain ⟨⟨b,off,rfl,hbl,-⟩,hrest⟩:=(show NodesAt W W.heap.size na 0 (s0::r0) from H9.out)
     have mn:min (1:Int) ((r0.length:Int)+1)=1:=by omega
     have m1:((r0.length:Int)+1 != 1)=true:=by simp only [List.length_cons] at hm;simp;omega
     have hlen:(s0::r0).length≤140737488355328:=Nat.le_trans h8' (Nat.min_le_left _ _)
     have hN1:=hid ((hrest.step.keep HG.out).mono HG.out.size)
     have hN2:=hid ((((show NodesAt W W.heap.size (some ⟨b,off,none⟩) 0 (s0::r0) from H9.out).first r0.length).keep HG.out).mono HG.out.size)
     have hl2:((s0::r0).take r0.length).length=r0.length:=by rw [List.length_take,List.length_cons];omega
     have HL2:=hid hl2
     have HLEN:=hid hlen
     clear hm hrest hl2 hlen
     go_wp2_with fail
     ·have hC:=contNodes_ok ((s0::r0).take r0.length) predB 110 #[] enters_pred w (some ⟨b,off,none⟩) 0 (by rw [HL2.out];have:=HLEN.out;rw [List.length_cons] at this;unfold reachN;omega) hN2.out (pred_each w _)
      rw [HL2.out] at hC
      have hxx:((s0::r0).take r0.length).any predB=zz:=by
       exfalso
       have h1:=HM.out
       simp only [List.length_cons] at h1 h8'
       omega
      rw [hxx] at hC
      have HC:=hid hC
      clear hC hxx
      refine HC.out.mono ?_
      rintro e w2 ⟨rfl,hb2⟩
      have HG2:=hid (HG.out.trans hb2)
      clear hb2
      go_wp2_with fail
      go_ret
      refine HF.out _ _ ?_ HG2.out
      rw [← HR.out zz,decide_eq_true HM.out];rfl
     ·have hC:=contNodes_ok r0 predB 110 #[] enters_pred w (some ⟨b,off+5,none⟩) (nc - 1) (by have:=HLEN.out;rw [List.length_cons] at this;unfold reachN;omega) hN1.out (pred_each w _)
      have hxx:r0.any predB=zz:=HZ.out
      rw [hxx] at hC
      have HC:=hid hC
      clear hC hxx
      refine HC.out.mono ?_
      rintro e w2 ⟨rfl,hb2⟩
      have HG2:=hid (HG.out.trans hb2)
      clear hb2
      go_wp2_with fail
      go_ret
      refine HF.out _ _ ?_ HG2.out
      rw [← HR.out zz,decide_eq_true HM.out];rfl
  simp only [if_neg k1] at hR
  have q1:(k == 1)=false:=beq_eq_false_iff_ne.2 k1
  by_cases k24:k=2∨k=3∨k=4
  ·simp only [if_pos k24] at hR
   have HR:=hid hR
   clear hR
   generalize subs.length=m at *
   by_cases hm:(m:Int)=1
   ·rcases k24 with rfl | rfl | rfl
    all_goals
     clear k0 k1 q0 q1
     go_wp2_with fail
     go_ret
     refine HF.out _ _ ?_ HG.out
     rw [← HR.out zz,decide_eq_true (by omega:m=1)]<;>first | rfl | (symm;simp;omega)
   ·have hmb:((m:Int) == 1)=false:=beq_eq_false_iff_ne.2 hm
    rcases k24 with rfl | rfl | rfl
    all_goals
     clear k0 k1 q0 q1
     go_wp2_with fail
     go_ret
     refine HF.out _ _ ?_ HG.out
     rw [← HR.out zz,decide_eq_false (by omega:¬ m=1)]<;>first | rfl | (symm;simp;omega)
  simp only [if_neg k24] at hR
  have k2:¬ k=2:=fun e=>k24 (.inl e)
  have k3:¬ k=3:=fun e=>k24 (.inr (.inl e))
  have k4:¬ k=4:=fun e=>k24 (.inr (.inr e))
  have q2:(k == 2)=false:=beq_eq_false_iff_ne.2 k2
  have q3:(k == 3)=false:=beq_eq_false_iff_ne.2 k3
  have q4:(k == 4)=false:=beq_eq_false_iff_ne.2 k4
  clear k24
  by_cases k7:k=7
  ·subst k7
   simp only [if_true] at hR
   have HR:=hid hR
   clear hR k0 k1 k2 k3 k4 q0 q1 q2 q3 q4
   generalize subs.length=m at *
   by_cases hm:(m:Int)=1
   ·cases token
    all_goals
     go_wp2_with fail
     go_ret
     refine HF.out _ _ ?_ HG.out
     rw [← HR.out zz,decide_eq_true (by omega:m=1)]<;>rfl
   ·have hmb:((m:Int) == 1)=false:=beq_eq_false_iff_ne.2 hm
    cases token
    all_goals
     go_wp2_with fail
     go_ret
     refine HF.out _ _ ?_ HG.out
     rw [← HR.out zz,decide_eq_false (by omega:¬ m=1)]<;>rfl
  simp only [if_neg k7] at hR
  have q7:(k == 7)=false:=beq_eq_false_iff_ne.2 k7
  by_cases k5:k=5
  ·subst k5
   simp only [if_true] at hR
   have HR:=hid hR
   have hN:Calls Tryz.prog 111 #[.string nm,.string { data:=#[97,98,99,100,101,102,103,104,105,106,107,108,109,110,111,112,113,114,115,116,117,118,119,120,121,122] }] w fun e W'=>e=.returned (.bool (nameB nm.data.toList smallL))∧Below w.heap.size w W':=nname_ok nm _ w HNM.out
   generalize nameB nm.data.toList smallL=NB at *
   have HN:=hid hN
   clear hN hR k0 k1 k2 k3 k4 k7 q0 q1 q2 q3 q4 q7
   generalize subs.length=m at *
   by_cases hm:(m:Int)=0
   ·cases token
    ·have hm0:m=0:=by omega
     subst hm0
     go_wp2_with fail
     refine HN.out.mono ?_
     rintro e w2 ⟨rfl,hb2⟩
     have HG2:=hid (HG.out.trans hb2)
     clear hb2
     go_wp2_with fail
     go_ret
     refine HF.out _ _ ?_ HG2.out
     rw [← HR.out zz];simp
    ·go_wp2_with fail
     go_ret
     refine HF.out _ _ ?_ HG.out
     rw [← HR.out zz,decide_eq_true (by omega:m=0)]<;>first | rfl | simp
   ·have hmb:((m:Int) == 0)=false:=beq_eq_false_iff_ne.2 hm
    go_wp2_with fail
    go_ret
    refine HF.out _ _ ?_ HG.out
    rw [← HR.out zz,decide_eq_false (by omega:¬ m=0)]<;>first | rfl | simp
  simp only [if_neg k5] at hR
  have q5:(k == 5)=false:=beq_eq_false_iff_ne.2 k5
  by_cases k6:k=6
  ·subst k6
   simp only [if_true] at hR
   have HR:=hid hR
   have hN:Calls Tryz.prog 111 #[.string nm,.string { data:=#[65,66,67,68,69,70,71,72,73,74,75,76,77,78,79,80,81,82,83,84,85,86,87,88,89,90] }] w fun e W'=>e=.returned (.bool (nameB nm.data.toList bigL))∧Below w.heap.size w W':=nname_ok nm _ w HNM.out
   generalize nameB nm.data.toList bigL=NB at *
   have HN:=hid hN
   clear hN hR k0 k1 k2 k3 k4 k5 k7 q0 q1 q2 q3 q4 q5 q7
   generalize subs.length=m at *
   by_cases hm:(m:Int)=0
   ·have hm0:m=0:=by omega
    subst hm0
    go_wp2_with fail
    refine HN.out.mono ?_
    rintro e w2 ⟨rfl,hb2⟩
    have HG2:=hid (HG.out.trans hb2)
    clear hb2
    go_wp2_with fail
    go_ret
    refine HF.out _ _ ?_ HG2.out
    rw [← HR.out zz];simp
   ·have hmb:((m:Int) == 0)=false:=beq_eq_false_iff_ne.2 hm
    go_wp2_with fail
    go_ret
    refine HF.out _ _ ?_ HG.out
    rw [← HR.out zz,decide_eq_false (by omega:¬ m=0)]<;>first | rfl | simp
  simp only [if_neg k6] at hR
  have q6:(k == 6)=false:=beq_eq_false_iff_ne.2 k6
  by_cases k8:k=8
  ·subst k8
   simp only [if_true] at hR
   have HR:=hid hR
   have hN:=ntext_ok tx w HTX.out (tabs_grew HT.out HG.out)
   generalize textB tx=NB at *
   have HN:=hid hN
   clear hN hR k0 k1 k2 k3 k4 k5 k6 k7 q0 q1 q2 q3 q4 q5 q6 q7
   generalize subs.length=m at *
   by_cases hm:(m:Int)=0
   ·have hm0:m=0:=by omega
    subst hm0
    cases token
    ·go_wp2_with fail
     go_ret
     refine HF.out _ _ ?_ HG.out
     rw [← HR.out zz];simp
    ·skip
     go_wp2_with fail
     refine HN.out.mono ?_
     rintro e w2 ⟨rfl,hb2⟩
     have HG2:=hid (HG.out.trans hb2)
     clear hb2
     go_wp2_with fail
     go_ret
     refine HF.out _ _ ?_ HG2.out
     rw [← HR.out zz];simp
   ·have hmb:((m:Int) == 0)=false:=beq_eq_false_iff_ne.2 hm
    go_wp2_with fail
    go_ret
    refine HF.out _ _ ?_ HG.out
    rw [← HR.out zz,decide_eq_false (by omega:¬ m=0)]<;>first | rfl | simp
  simp only [if_neg k8] at hR
  have q8:(k == 8)=false:=beq_eq_false_iff_ne.2 k8
  by_cases k9:k=9
  ·subst k9
   simp only [if_true] at hR
   have HR:=hid hR
   have hN:=contRanges_ok set w sa sc h6' ((H7.out.keep HG.out).mono HG.out.size)
   generalize set.any badR=NB at *
   have HN:=hid hN
   clear hN hR k0 k1 k2 k3 k4 k5 k6 k7 k8 q0 q1 q2 q3 q4 q5 q6 q7 q8
   generalize subs.length=m at *
   by_cases hm:(m:Int)=0
   ·have hm0:m=0:=by omega
    subst hm0
    cases token
    ·go_wp2_with fail
     go_ret
     refine HF.out _ _ ?_ HG.out
     rw [← HR.out zz];simp
    ·by_cases hsl:0 < set.length
     ·have hsi:(0:Int) < (set.length:Int):=by omega
      go_wp2_with fail
      refine HN.out.mono ?_
      rintro e w2 ⟨rfl,hb2⟩
      have HG2:=hid (HG.out.trans hb2)
      clear hb2
      go_wp2_with fail
      go_ret
      refine HF.out _ _ ?_ HG2.out
      rw [← HR.out zz];simp [hsl]
     ·have hsi:¬ (0:Int) < (set.length:Int):=by omega
      go_wp2_with fail
      go_ret
      refine HF.out _ _ ?_ HG.out
      rw [← HR.out zz];simp [hsl]
   ·have hmb:((m:Int) == 0)=false:=beq_eq_false_iff_ne.2 hm
    go_wp2_with fail
    go_ret
    refine HF.out _ _ ?_ HG.out
    rw [← HR.out zz,decide_eq_false (by omega:¬ m=0)]<;>first | rfl | simp
  simp only [if_neg k9] at hR
  have q9:(k == 9)=false:=beq_eq_false_iff_ne.2 k9
  have HR:=hid hR
  clear hR k0 k1 k2 k3 k4 k5 k6 k7 k8 k9
  go_wp2_with fail
  go_ret
  exact HF.out _ _ (HR.out zz).symm HG.out
end Go.Proofs.YtppjmdanckdobaaGreatDoor

/- checks.parser,names,sorted,Start: what they answer. -/
namespace Go.Proofs.YtppjmdanckdobaaGreatDoor
open Go.RowKit
open Lib (hid)
theorem parser_ok (r:Rl) (W:World) (v0 v1 v2 v3 v4 v5 v6 v7 v8 v9:Value) (hR:v1=.int .u8 r.sort) :
  Calls Tryz.prog 122 #[.agg #[v0,v1,v2,v3,v4,v5,v6,v7,v8,v9]] W fun e W'=>e=.returned (.bool r.parser)∧Below W.heap.size W W':=by
 subst hR
 go_enter Tryz.func122,Tryz.ntmps122
 go_wp2
 go_ret
 exact ⟨rfl,(Below.refl _ _).alloc (Nat.le_refl _) _⟩
theorem names_ok (n:Nd) (W:World) (v0 v1 v2 v3 v4:Value) (h:v0=.int .u8 n.kind) :
  Calls Tryz.prog 121 #[.agg #[v0,v1,v2,v3,v4]] W fun e W'=>e=.returned (.bool n.isName)∧Below W.heap.size W W':=by
 subst h
 unfold Nd.isName
 by_cases h5:n.kind=5
 ·rw [h5]
  go_enter Tryz.func121,Tryz.ntmps121
  go_wp2
  go_ret
  exact ⟨rfl,(Below.refl _ _).alloc (Nat.le_refl _) _⟩
 ·have e5:(n.kind == 5)=false:=beq_eq_false_iff_ne.2 h5
  go_enter Tryz.func121,Tryz.ntmps121
  go_wp2
  go_ret
  exact ⟨by rw [e5];first | rfl | simp,(Below.refl _ _).alloc (Nat.le_refl _) _⟩
theorem enters_parser:Enters 122:=fun _ _=>by kernel_rfl
theorem start_ok (g:Gr) (W:World) (v0 v1 v2 v3:Value) (hG:GrAt W W.heap.size (some v0) (some v1) (some v2) (some v3) g) :
  Calls Tryz.prog 87 #[.agg #[v0,v1,v2,v3]] W fun e W'=>e=.returned (.int .i64 g.start)∧Below W.heap.size W W':=by
 obtain ⟨h1,hs,h2,h3,h4,h5,ra,rc,h6,h7,h8⟩:=hG
 obtain rfl:=Option.some.inj h1
 obtain rfl:=Option.some.inj h2
 obtain rfl:=Option.some.inj h3
 obtain rfl:=Option.some.inj h6
 clear h1 h2 h3 h4 h5 h6
 have hB:Below W.heap.size W (W.alloc (.cells #[.string g.name,.int .i64 g.bound,.int .i64 g.states,.slice ra g.rules.length rc] 44)):=(Below.refl _ _).alloc (Nat.le_refl _) _
 have hS:=hid (indexRules_ok g.rules (fun r=>r.parser) 122 #[] enters_parser _ ra rc h7 ((h8.keep hB).mono hB.size)
  (fun i hi W' v0 v1 v2 v3 v4 v5 v6 v7 v8 v9 hb hr=>by
   obtain ⟨_,_,_,_,_,_,e1,_⟩:=hr.vals
   exact parser_ok _ W' _ _ _ _ _ _ _ _ _ _ (Option.some.inj e1)))
 have HB:=hid hB
 clear hB h8
 unfold reachN at h7 hs
 go_enter Tryz.func87,Tryz.ntmps87
 go_wp2_with (go_at_call 79;refine hS.out.mono ?_;rintro e w' ⟨rfl,hb2⟩)
 go_ret
 exact ⟨rfl,HB.out.trans (hb2.mono (by simp))⟩
set_option maxRecDepth 20000 in
theorem sorted_ok (r:Rl) (n:Nd) (o:Int) (W:World) (v0 v1 v2 v3 v4 v5 v6 v7 v8 v9 u0 u1 u2 u3 u4:Value) (hR:v1=.int .u8 r.sort) (hN:u0=.int .u8 n.kind) :
  Calls Tryz.prog 126 #[.agg #[v0,v1,v2,v3,v4,v5,v6,v7,v8,v9],.agg #[u0,u1,u2,u3,u4],.int .u8 o] W fun e W'=>e=.returned (.bool (sortedB r n o))∧Below W.heap.size W W':=by
 subst hN
 have HP:=hid (fun w=>parser_ok r w v0 v1 v2 v3 v4 v5 v6 v7 v8 v9 hR)
 clear hR
 unfold sortedB
 generalize r.parser=p at *
 by_cases h5:n.kind=5
 ·rw [h5]
  cases p
  ·go_enter Tryz.func126,Tryz.ntmps126
   go_wp2_with fail
   refine (HP.out _).mono ?_
   rintro e w1 ⟨rfl,hb1⟩
   go_wp2_with fail
   go_ret
   have s1:=hb1.size
   exact ⟨rfl,(((Below.refl W.heap.size W).alloc (Nat.le_refl _) _).alloc (by simp) _).trans (hb1.mono (by simp;omega))⟩
  ·go_enter Tryz.func126,Tryz.ntmps126
   go_wp2_with fail
   refine (HP.out _).mono ?_
   rintro e w1 ⟨rfl,hb1⟩
   go_wp2_with fail
   go_ret
   have s1:=hb1.size
   exact ⟨rfl,(((Below.refl W.heap.size W).alloc (Nat.le_refl _) _).alloc (by simp) _).trans (hb1.mono (by simp;omega))⟩
 ·rw [show (n.kind == 5)=false from beq_eq_false_iff_ne.2 h5]
  cases p
  ·go_enter Tryz.func126,Tryz.ntmps126
   go_wp2_with fail
   refine (HP.out _).mono ?_
   rintro e w1 ⟨rfl,hb1⟩
   go_wp2_with fail
   go_ret
   have s1:=hb1.size
   exact ⟨rfl,(((Below.refl W.heap.size W).alloc (Nat.le_refl _) _).alloc (by simp) _).trans (hb1.mono (by simp;omega))⟩
  ·go_enter Tryz.func126,Tryz.ntmps126
   go_wp2_with fail
   refine (HP.out _).mono ?_
   rintro e w1 ⟨rfl,hb1⟩
   go_wp2_with fail
   go_ret
   have s1:=hb1.size
   exact ⟨rfl,(((Below.refl W.heap.size W).alloc (Nat.le_refl _) _).alloc (by simp) _).trans (hb1.mono (by simp;omega))⟩
end Go.Proofs.YtppjmdanckdobaaGreatDoor

/- checks.tell: a problem more;what stays as it was. -/
namespace Go.Proofs.YtppjmdanckdobaaGreatDoor
open Go.RowKit
open Lib (hid)
def Prob.cells (p:Prob):List Value:=[.int .u8 p.code,.int .i64 p.rule,.string p.name]
def probCells (L:List Prob):List Value:=L.flatMap Prob.cells
theorem probCells_snoc (L:List Prob) (p:Prob):probCells L++p.cells=probCells (L++[p]):=by
 unfold probCells
 simp [List.flatMap_append]
structure ChkVals where
 c0:Value
 c1:Value
 c2:Value
 c3:Value
 c4:Value
 c5:Value
 c6:Value
def ChkVals.list (c:ChkVals) (v:Value):List Value:=[c.c0,c.c1,c.c2,c.c3,c.c4,c.c5,c.c6,v]
structure ChkAt (W:World) (base cb:Nat) (c:ChkVals) (L:List Prob):Prop where
 lo:base≤cb
 own:∃ v,Owns W cb (c.list v) 156∧W.ownsRow base 163 3 v L.length (probCells L)
structure Told (base cb:Nat) (W W':World):Prop where
 low:Below base W W'
 block:∀ b o,W.heap[b]? = some o→b≠cb→(∀ cs f,o≠.cells cs 163 f)→W'.heap[b]? = some o
theorem Told.refl (base cb:Nat) (W:World):Told base cb W W:=⟨Below.refl _ _,fun _ _ h _ _=>h⟩
theorem Told.trans {base cb:Nat} {A B C:World} (h:Told base cb A B) (k:Told base cb B C):Told base cb A C :=
 ⟨h.low.trans k.low,fun b o hb hn hT=>k.block b o (h.block b o hb hn hT) hn hT⟩
theorem Told.grew {base cb:Nat} {A B:World} (h:Grew A B) (hl:base≤A.heap.size):Told base cb A B :=
 ⟨h.mono hl,fun b o hb _ _=>by rw [h.block b (Array.getElem?_eq_some_iff.1 hb).1];exact hb⟩
theorem Told.owns {base cb b:Nat} {A B:World} (h:Told base cb A B) {cs:List Value} {T:Nat} (ho:Owns A b cs T) (hn:b≠cb) (hT:T≠163):Owns B b cs T :=
 h.block b _ ho hn (fun cs' f e=>by cases e;exact hT rfl)
theorem Told.kpn {base cb lim:Nat} {A B:World} (h:Told base cb A B) (hl:lim≤base) {cs:List Value} (ho:Owns A cb cs 156):KpN lim A B :=
 ⟨h.low.mono hl,fun b cs' T f hb hT=>h.block b _ hb (fun e=>by subst e;unfold Owns at ho;rw [ho] at hb;cases hb;rcases hT with h | h<;>cases h) (fun cs'' f' e=>by cases e;rcases hT with h | h<;>cases h)⟩
theorem ChkAt.grew {W W':World} {base cb:Nat} {c:ChkVals} {L:List Prob} (h:ChkAt W base cb c L) (hg:Grew W W'):ChkAt W' base cb c L:=by
 obtain ⟨v,ho,hr⟩:=h.own
 exact ⟨h.lo,v,ho.keep hg,hr.kept (w':=W') (row:=none) ⟨hg.os,hg.tape,hg.output,hg.size,fun k hk _=>hg.block k hk⟩ (by cases hv:v.ownBlock<;>simp)⟩
theorem row_block {W:World} {base e size n:Nat} {v:Value} {xs:List Value} (h:W.ownsRow base e size v n xs) {g:Nat} (hg:v.ownBlock=some g):base≤g∧∃ cs,W.heap[g]? = some (.cells cs e (0,0)):=by
 rcases h.2 with ⟨rfl,_⟩ | ⟨g',cap,cur,rfl,h1,h2,_⟩
 ·simp [Value.ownBlock] at hg
 ·simp only [Value.ownBlock,Option.some.injEq] at hg
  subst hg
  exact ⟨h1,cur,h2⟩
theorem told_grown {W W':World} {base cb n:Nat} {v:Value} {xs:List Value} (h:W.ownsRow base 163 3 v n xs) (hg:W.grownBy W' v.ownBlock) (hb:base≤W.heap.size):Told base cb W W' :=
 ⟨(Below.refl base W).grown hg hb (fun k e=>(row_block h e).1),fun b o hb' _ hT=>by
  rw [hg.block b (Array.getElem?_eq_some_iff.1 hb').1 (fun e=>by
   obtain ⟨_,cs,h2⟩:=row_block h e.symm
   rw [hb'] at h2
   exact hT cs (0,0) (Option.some.inj h2))]
  exact hb'⟩
theorem cell_add {W:World} {b T j:Nat} {cs:List Value} {u:Value} (hj:cs[j]? = some u) (h:Owns W b cs T):W.cell? ((⟨b,0,none⟩:Addr).add j)=some u:=by
 rw [show (⟨b,0,none⟩:Addr).add j=⟨b,j,none⟩ by
  cases j with
  | zero=>rfl
  | succ j=>simp [Addr.add]]
 rw [h.cell,hj]
theorem told_set {W:World} {base cb:Nat} (hlo:base≤cb) (i:Nat) (v:Value):Told base cb W (W.setCell ⟨cb,i,none⟩ v) :=
 ⟨(Below.refl _ _).setCell hlo _,fun b o hb hn _=>by rw [Below.heap_setCell _ _ _ _ hn];exact hb⟩
theorem row_set {W:World} {base cb n T:Nat} {v:Value} {xs cs:List Value} (h:W.ownsRow base 163 3 v n xs) (ho:Owns W cb cs T) (hT:T≠163) (i:Nat) (u:Value):(W.setCell ⟨cb,i,none⟩ u).ownsRow base 163 3 v n xs:=by
 refine h.kept (w':=W.setCell ⟨cb,i,none⟩ u) (row:=some cb) ⟨rfl,rfl,rfl,((Below.refl 0 W).setCell (p:=⟨cb,i,none⟩) (by omega) u).size,fun k _ hk=>Below.heap_setCell _ _ _ _ (fun e=>hk (by rw [e]))⟩ ?_
 refine .inr fun hg=>?_
 obtain ⟨_,cs',h2⟩:=row_block h hg
 unfold Owns at ho
 rw [ho] at h2
 cases h2
 exact hT rfl
theorem info_problem:(Tryz.prog.info? 163).map (fun i=>(i.zero,i.size,i.bytes))=some (some (.agg #[.int .u8 0,.int .i64 0,.string ⟨#[]⟩]),3,32):=by kernel_rfl
set_option maxHeartbeats 1000000 in
set_option maxRecDepth 20000 in
theorem tell_ok (base cb:Nat) (c:ChkVals) (L:List Prob) (W:World) (hC:ChkAt W base cb c L) (hL:L.length≤1000000) (code rule:Int) (name:ByteArray) :
  Calls Tryz.prog 88 #[.pointer (some ⟨cb,0,none⟩),.int .u8 code,.int .i64 rule,.string name] W fun e W'=>(∃ v,e=.returned v)∧ChkAt W' base cb c (L++[⟨code,rule,name⟩])∧Told base cb W W':=by
 obtain ⟨hlo,v,ho,hr⟩:=hC
 obtain ⟨i0,hi,hz0,hz1,hz2⟩:=info_parts info_problem
 have hlt:=ho.lt
 have c7:W.cell? ⟨cb,7,none⟩=some v:=ho.cell_at rfl
 have f7:=ho.free 7
 have HO:=hid ho
 have HR:=hid hr
 have HI:=hid hi
 have HZ0:=hid hz0
 have HZ1:=hid hz1
 have HZ2:=hid hz2
 clear ho hr hi hz0 hz1 hz2
 go_enter Tryz.func88,Tryz.ntmps88
 have hbw:base≤W.heap.size:=by omega
 have hn:=grew_alloc W (.cells #[.int .u8 code,.int .i64 rule,.string name] 163)
 have on:=Owns.alloc W [.int .u8 code,.int .i64 rule,.string name] 163
 have HN:=hid hn
 have ON:=hid on
 clear hn on
 go_wp2_with (at_builtin;refine wpList_append_own _ rfl _ _ 114 rfl base 163 i0 _ 3 32 Tryz.underlying114 HI.out HZ0.out HZ1.out HZ2.out rfl (by decide) _ L.length _ rfl (HR.out.alloc _) ⟨W.heap.size,0,none⟩ 1 1 [.int .u8 code,.int .i64 rule,.string name] rfl rfl ?c1 ?c2 ?c3 ?c4 ?c5 ?_;rotate_right;intro v' w1 hown' hgrow _;obtain ⟨g',cap',rfl⟩:=ownsRow_succ hown';have htold:=told_grown (cb:=cb) (HR.out.alloc _) hgrow (by simp;omega);have how:=hgrow.size;simp at how;have hO1:Owns w1 cb (c.list v) 156:=(hgrow.block cb (by simp;omega) (fun e=>by obtain ⟨_,cs,h2⟩:=row_block (HR.out.alloc _) e.symm;have h3:=HO.out.keep HN.out;unfold Owns at h3;rw [h3] at h2;cases h2)).trans (HO.out.keep HN.out);have c7':=hO1.cell_at (i:=7) rfl;have f7':=hO1.free 7;have HTO:=hid htold;have ho':=hid hown';have HO1:=hid hO1;clear hgrow hown' htold hO1 c7 f7)
 case c1=>intro j u hj;exact cell_add hj ON.out
 case c2=>simp [Value.oneCell']
 case c3=>unfold maxLen;omega
 case c4=>omega
 case c5=>simp;omega
 go_end0
 refine ⟨⟨_,rfl⟩,⟨hlo,_,HO1.out.set 7 _,?_⟩,((Told.grew HN.out hbw).trans HTO.out).trans (told_set hlo _ _)⟩
 have:=row_set ho'.out HO1.out (by decide) 7 (.slice (some ⟨g',0,none⟩) (L.length+1) cap')
 rw [show [Value.int .u8 code,.int .i64 rule,.string name]=Prob.cells ⟨code,rule,name⟩ from rfl,probCells_snoc] at this
 simpa using this
end Go.Proofs.YtppjmdanckdobaaGreatDoor
