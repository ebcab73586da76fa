/- Rest: the first list that ends what is begun. -/
import Derived.Test.YtppjmdanckdobaaGreatDoorQR36
import Derived.Test.YtppjmdanckdobaaGreatDoorQR11
import Derived.Test.YtppjmdanckdobaaGreatDoorQR10
import Derived.Test.YtppjmdanckdobaaGreatDoorQR26
import Derived.Test.YtppjmdanckdobaaGreatDoorQR28
namespace Go.Proofs.YtppjmdanckdobaaGreatDoor
open Go.RowKit Go.Sort
open Lib (hid)
def askR (B:Bk) (r:Int) (w:List Int) (more:Int):Bool:=hasX B r w.length&&(decide (0≤more)&&(decide (more≤8)&&!(w.any fun y=>(-2:Int) == y)))
def mostN (w:List Int) (more:Int):Nat:=min more.toNat (48 - w.length)
structure RestV (B:Bk) (r:Nat) (w:List Int) (more:Int) (v:List Int):Prop where
 le:v.length≤mostN w more
 no:∀ m,m < v.length→¬ B.D r (w++rep m)
 der:B.D r (w++rep v.length)
 fil:Fil B r w v.length v
def RestIs (B:Bk) (r:Int) (w:List Int) (more:Int) (W:World) (e:Ending) (W':World):Prop:=Grew W W' ∧
 if askR B r w more then (∃ (v:List Int) (y:Value),e=.returned (.tuple #[y,.bool true])∧looseRow W' W.heap.size 3 1 y v.length (intVs v)∧RestV B r.toNat w more v) ∨
  (e=.returned (.tuple #[.slice none 0 0,.bool false])∧∀ m,m≤mostN w more→¬ B.D r.toNat (w++rep m))
 else e=.returned (.tuple #[.slice none 0 0,.bool false])
theorem loose_cap {w:World} {base e size n:Nat} {a:Option Addr} {c:Nat} {xs:List Value} (h:looseRow w base e size (.slice a n c) n xs):n≤c:=by
 rcases h.2 with ⟨h1,h0⟩ | ⟨b,cap,cur,h1,h2,h3,h4,h5⟩
 ·omega
 ·obtain ⟨-,-,rfl⟩:=Value.slice.inj h1
  exact h4
theorem size_intY (u:World):(sizeOf (Tryz.prog.elem 22)).run Tryz.prog u=.ok 1 u:=by kernel_rfl
theorem xfill_none (T:XT) (r at0:Int) (h0:0≤at0) (a:Option Addr) (c:Nat) (W:World):Calls Tryz.prog 25 #[T.ptr,.int .i64 r,.slice a 0 c,.int .i64 at0] W fun e W'=>e=.returned (.tuple #[])∧W'=W:=by
 unfold XT.ptr
 go_enter Tryz.func25,Tryz.ntmps25
 go_wp2_with fail
 go_loopw [8] (fun c wr=>c=.int .i64 at0∧wr=W) (fun c _=>0)
 case atStart=>exact ⟨rfl,rfl⟩
 case round =>
  obtain ⟨rfl,rfl⟩:=hrel
  go_wp2_with fail
  go_end0
  exact ⟨rfl,rfl⟩
theorem xfill_row (T:XT) (hG:T.B.Good) (hB:T.B.Lng) (k:Nat) (hk:k < T.B.bodies.length) (hT:∀ n∈T.B.bodies,TokIn T.B n) (hR:T.B.kinds.Pairwise (· < ·)) (hkl:T.B.kinds.length≤1000) (w:List Int) (n lim base:Nat) (y:Value) (hn:w.length+n≤48) (hlg:lim≤base) (W:World) (hA:T.At lim W) (hO:looseRow W base 3 1 y (w.length+n) (intVs (w++rep n))) (hd:T.B.D k (w++rep n)) :
  Calls Tryz.prog 25 #[T.ptr,.int .i64 (k:Int),y,.int .i64 (w.length:Int)] W fun e W'=>e=.returned (.tuple #[])∧∃ v,Fil T.B k w n v∧looseRow W' base 3 1 y (w.length+n) (intVs (w++v))∧Below lim W W':=by
 rcases hO.2 with ⟨rfl,h0⟩ | ⟨g,cap,cur,rfl,h1,h2,h3,h4,h5,h6⟩
 ·have hw:w=[]:=List.eq_nil_of_length_eq_zero (by omega)
  have hn0:n=0:=by omega
  subst hw hn0
  refine (xfill_none T k 0 (Int.le_refl _) none 0 W).mono ?_
  rintro e W' ⟨rfl,rfl⟩
  exact ⟨rfl,[],rfl,hO,Below.refl _ _⟩
 ·have hcur:cur=(intVs (w++rep n)++cur.toList.drop (w.length+n)).toArray:=by
   rw [Nat.mul_one] at h6
   rw [← h6,List.take_append_drop,Array.toArray_toList]
  have ho:Owns W g (intVs (w++rep n)++cur.toList.drop (w.length+n)) 3:=by
   unfold Owns
   rw [h2,← hcur]
  refine (xfill_ok T hG hB k hk hT hR hkl w n lim g cap _ hn (Nat.le_trans hlg h1) W hA ho hd).mono ?_
  rintro e W' ⟨rfl,v,k1,k2,k3⟩
  have hvl:(intVs (w++v)).length=w.length+n:=by simp [intVs,k1.len]
  refine ⟨rfl,v,k1,⟨by rw [hvl,Nat.mul_one],.inr ⟨g,cap,_,rfl,h1,k2,h3,h4,?_,?_⟩⟩,k3⟩
  ·simp [hvl]
   omega
  ·rw [Nat.mul_one,← hvl,List.take_left]
theorem xdrop {W:World} {lim sc:Nat} {wa:Option Addr} {wl:List Int} (hI:IntsAt W lim wa wl) (hsc:wl.length≤sc) {j:Nat} (hj:j≤wl.length) :
  ∃ a' c',(∀ u:World,(Instr.slice 22 (.slice wa wl.length sc) (some (.int .i64 (j:Int))) none none).run Tryz.prog u=.ok (.slice a' (wl.length - j) c') u)∧IntsAt W lim a' (wl.drop j):=by
 have h0:∀ u:World,(Instr.slice 22 (.slice wa wl.length sc) (some (.int .i64 (j:Int))) none none).run Tryz.prog u=.ok (sliced wa j wl.length sc 1) u:=fun u=>by
  have:=run_slice_l (P:=Tryz.prog) u 22 wa wl.length sc (by kernel_rfl) .i64 (j:Int) (by omega) (by omega)
  rw [this,size_intY,Int.toNat_natCast]
  rfl
 refine ⟨_,_,h0,fun k hk=>?_⟩
 rw [List.length_drop] at hk
 obtain ⟨b,off,rfl,hb,hc⟩:=hI (j+k) (by omega)
 refine ⟨b,off+j,?_,hb,by rw [List.getElem_drop,Nat.add_assoc];exact hc⟩
 rw [if_neg (by omega)]
 simp [Addr.add]
set_option maxHeartbeats 8000000 in
set_option maxRecDepth 40000 in
theorem xrest_ok (T:XT) (hG:T.B.Good) (hB:T.B.Lng) (hT:∀ n∈T.B.bodies,TokIn T.B n) (hR:T.B.kinds.Pairwise (· < ·)) (hkl:T.B.kinds.length≤1000) (r more:Int) (wa:Option Addr) (sc:Nat) (wl:List Int) (W:World) (hA:T.At W.heap.size W) (hI:IntsAt W W.heap.size wa wl) (hwl:wl.length≤reachN) :
  Calls Tryz.prog 6 #[T.ptr,.int .i64 r,.slice wa wl.length sc,.int .i64 more] W (RestIs T.B r wl more W):=by
 have HH:=hid (xhas_ok T r wa wl.length sc W hA)
 have HCO:=hid (containsInt_ok wl (-2) W (.slice wa wl.length sc) hwl ⟨wa,sc,rfl,hI⟩)
 obtain ⟨Q,hQ⟩:∃ Q,RestIs T.B r wl more W=Q:=⟨_,rfl⟩
 rw [hQ]
 have HQ:=hid hQ
 have HNO:Hid (askR T.B r wl more=false→∀ w',Grew W w'→Q (.returned (.tuple #[.slice none 0 0,.bool false])) w'):=hid fun h w' hw=>by
  rw [← HQ.out]
  unfold RestIs
  rw [if_neg (by rw [h];simp)]
  exact ⟨hw,rfl⟩
 have HA:=hid hA
 have HI:=hid hI
 have HDR:Hid (∀ k:Nat,k < T.B.bodies.length→∀ (u:List Int) (y:Value) (wi:World),u.length≤48→Grew W wi→looseRow wi W.heap.size 3 1 y u.length (intVs u)→Calls Tryz.prog 24 #[T.ptr,.int .i64 (k:Int),y] wi fun e w'=>∃ b,e=.returned (.bool b)∧(b=true↔T.B.D k u)∧Grew wi w'):=hid fun k hk u y wi hu hb ho=>by
  obtain ⟨a,c,rfl,hi⟩:=loose_ints ho
  exact xderived_ok T hG hB k hk a c u hu wi (hA.grew hb) hi
 have HFL:Hid (∀ k:Nat,k < T.B.bodies.length→∀ (n:Nat) (y:Value) (wi:World),wl.length+n≤48→Grew W wi→looseRow wi W.heap.size 3 1 y (wl.length+n) (intVs (wl++rep n))→T.B.D k (wl++rep n)→Calls Tryz.prog 25 #[T.ptr,.int .i64 (k:Int),y,.int .i64 (wl.length:Int)] wi fun e W'=>e=.returned (.tuple #[])∧∃ v,Fil T.B k wl n v∧looseRow W' W.heap.size 3 1 y (wl.length+n) (intVs (wl++v))∧Grew W W'):=hid fun k hk n y wi hn hb ho hd=>by
  refine (xfill_row T hG hB k hk hT hR hkl wl n W.heap.size W.heap.size y hn (Nat.le_refl _) wi (hA.keep hb) ho hd).mono ?_
  rintro e W' ⟨rfl,v,k1,k2,k3⟩
  exact ⟨rfl,v,k1,k2,Below.trans hb k3⟩
 unfold XT.ptr at *
 clear hA hI hQ hG hB hT hR hkl
 cases hh:hasX T.B r wl.length with
 | false =>
  rw [hh] at HH
  have HX:=hid (HNO.out (by unfold askR;rw [hh];rfl) _ (Grew.refl _))
  clear hh
  go_enter Tryz.func6,Tryz.ntmps6
  go_wp2_with fail
  refine HH.out.mono ?_
  rintro e w1 ⟨rfl,rfl⟩
  go_wp2_with fail
  exact HX.out
 | true =>
  have hh':=hh
  unfold hasX at hh'
  simp only [Bool.and_eq_true,decide_eq_true_eq] at hh'
  obtain ⟨k,rfl⟩:=Int.eq_ofNat_of_zero_le hh'.1
  have HKB:=hid (show k < T.B.bodies.length by omega)
  have HW48:=hid hh'.2.2
  rw [hh] at HH
  have HHH:=hid hh
  obtain ⟨n,hn⟩:∃ n,wl.length=n:=⟨_,rfl⟩
  have HN:=hid hn
  rw [hn] at HH HCO HFL hwl ⊢
  clear hh hh' hn
  by_cases hm0:more < 0
  ·have hm1:decide (more < 0)=true:=decide_eq_true hm0
   have HX:=hid (HNO.out (by unfold askR;rw [HHH.out,decide_eq_false (by omega)];rfl) _ (Grew.refl _))
   go_enter Tryz.func6,Tryz.ntmps6
   go_wp2_with fail
   refine HH.out.mono ?_
   rintro e w1 ⟨rfl,rfl⟩
   go_wp2_with fail
   exact HX.out
  ·have hm1:decide (more < 0)=false:=decide_eq_false hm0
   by_cases hm8:8 < more
   ·have hm2:decide (8 < more)=true:=decide_eq_true hm8
    have HX:=hid (HNO.out (by unfold askR;rw [HHH.out,decide_eq_true (by omega),decide_eq_false (by omega)];rfl) _ (Grew.refl _))
    go_enter Tryz.func6,Tryz.ntmps6
    go_wp2_with fail
    refine HH.out.mono ?_
    rintro e w1 ⟨rfl,rfl⟩
    go_wp2_with fail
    exact HX.out
   ·have hm2:decide (8 < more)=false:=decide_eq_false hm8
    obtain ⟨cb,hcb⟩:∃ cb,(wl.any fun y=>(-2:Int) == y)=cb:=⟨_,rfl⟩
    rw [hcb] at HCO
    have HCB:=hid hcb
    clear hcb
    cases cb
    ·have HASK:Hid (askR T.B (k:Int) wl more=true):=hid (by
      unfold askR
      rw [HHH.out,decide_eq_true (by omega),decide_eq_true (by omega),HCB.out]
      rfl)
     obtain ⟨mm,rfl⟩:=Int.eq_ofNat_of_zero_le (show 0≤more by omega)
     obtain ⟨M,hM⟩:∃ M,mostN wl (mm:Int)=M:=⟨_,rfl⟩
     have HMM:=hid hM
     have hM2:min (mm:Int) (48 - (n:Int))=(M:Int):=by
      rw [← hM]
      unfold mostN
      have:=HW48.out
      have:=HN.out
      omega
     have hM8:M≤8:=by
      rw [← hM]
      unfold mostN
      omega
     have hM48:Hid (n+M≤48):=hid (by
      rw [← hM]
      unfold mostN
      have:=HW48.out
      have:=HN.out
      omega)
     have hN48:n≤48:=by have:=HW48.out;have:=HN.out;omega
     clear hM HNO
     go_enter Tryz.func6,Tryz.ntmps6
     go_wp2_with fail
     refine HH.out.mono ?_
     rintro e w1 ⟨rfl,rfl⟩
     go_wp2_with fail
     refine HCO.out.mono ?_
     rintro e w3 ⟨rfl,hg⟩
     have HG3:=hid hg
     clear hg
     go_wp2_with fail
     have HFIN:Hid (∀ (v:List Int) (y:Value) (w':World),Grew w1 w'→looseRow w' w1.heap.size 3 1 y v.length (intVs v)→v.length≤M→(∀ m,m < v.length→¬ T.B.D k (wl++rep m))→T.B.D k (wl++rep v.length)→Fil T.B k wl v.length v→Q (.returned (.tuple #[y,.bool true])) w'):=hid fun v y w' h1 h2 h3 h4 h5 h6=>by
      rw [← HQ.out]
      refine ⟨h1,?_⟩
      rw [if_pos HASK.out]
      exact .inl ⟨v,y,rfl,h2,⟨by rw [HMM.out];exact h3,h4,h5,h6⟩⟩
     have HFAIL:Hid (∀ w':World,Grew w1 w'→(∀ m,m < M+1→¬ T.B.D k (wl++rep m))→Q (.returned (.tuple #[.slice none 0 0,.bool false])) w'):=hid fun w' h1 h2=>by
      rw [← HQ.out]
      refine ⟨h1,?_⟩
      rw [if_pos HASK.out]
      exact .inr ⟨rfl,fun m hm=>h2 m (by rw [HMM.out] at hm;omega)⟩
     go_loopw [35] (fun c wr=>∃ (j:Nat),c=.int .i64 (j:Int)∧j≤M+1∧Hid (∀ m,m < j→¬ T.B.D k (wl++rep m))∧Hid (Grew w1 wr)) (fun c _=>M+1 - (intOf c).toNat)
     case atStart=>exact ⟨0,rfl,Nat.zero_le _,fun m hm=>absurd hm (by omega),HG3.out⟩
     case round =>
      obtain ⟨j,rfl,hj,HNOJ,HGW⟩:=hrel
      obtain ⟨wo,rfl⟩:∃ wo:World,wo=wr:=⟨_,rfl⟩
      by_cases hlt:j < M+1
      ·have hlti:(j:Int) < (M:Int)+1:=by omega
       obtain ⟨b,hb⟩:∃ b,wo.heap.size=b:=⟨_,rfl⟩
       obtain ⟨w4,hw4⟩:∃ w4,wo.alloc (.cells #[.int .i64 (-2)] 3)=w4:=⟨_,rfl⟩
       have g4:Grew wo w4:=hw4▸grew_alloc wo _
       have o4:Owns w4 b [.int .i64 (-2)] 3:=by rw [← hw4,← hb];exact Owns.alloc wo _ _
       have HRP:=hid (repeat_ok j (by omega) w4 b o4)
       have HG4:=hid (HGW.out.trans g4)
       clear g4 o4
       go_wp2_with fail
       refine HRP.out.mono ?_
       rintro e w5 ⟨g,rfl,hg5,o5,gr5⟩
       clear hw4 hb HRP
       obtain ⟨b5,hb5⟩:∃ b5,w5.heap.size=b5:=⟨_,rfl⟩
       obtain ⟨w6,hw6⟩:∃ w6,w5.alloc (.cells #[.slice wa n sc,.slice (some ⟨g,0,none⟩) j j] 22)=w6:=⟨_,rfl⟩
       have g6:Grew w5 w6:=hw6▸grew_alloc w5 _
       have o6:Owns w6 b5 [.slice wa n sc,.slice (some ⟨g,0,none⟩) j j] 22:=by rw [← hw6,← hb5];exact Owns.alloc w5 _ _
       have HG6:=hid ((HG4.out.trans gr5).trans g6)
       have hhalf:half j j=intVs (rep j):=by simp [half,intVs,rep]
       have HIV:IntsV w6 w6.heap.size (.slice (some ⟨g,0,none⟩) j j) (rep j):=by
        have:=owns_ints (cap:=j) (l:=rep j) (hhalf▸o5.keep g6)
        rw [rep_len] at this
        exact this
       have HIW:IntsV w6 w6.heap.size (.slice wa n sc) wl:=⟨wa,sc,by rw [HN.out],IntsAt.mono HG6.out.size (IntsAt.keep HG6.out HI.out)⟩
       have HC:=hid (concatInts_ok [wl,rep j] [.slice wa n sc,.slice (some ⟨g,0,none⟩) j j] rfl (by simp [lens,rep_len];rw [HN.out];omega) (by simp) w6 b5 2 o6.lt (fun q hq=>by
        have hk2:q=0∨q=1:=by simp at hq;omega
        rcases hk2 with rfl | rfl
        ·exact o6.cell_at rfl
        ·exact o6.cell_at rfl) (fun q hq hq2=>by
        have hk3:q=0∨q=1:=by simp at hq;omega
        rcases hk3 with rfl | rfl
        ·exact HIW
        ·exact HIV))
       simp only [List.length_cons,List.length_nil,Nat.zero_add,Nat.reduceAdd,List.flatten_cons,List.flatten_nil,List.append_nil] at HC
       clear HIV HIW hhalf o5 gr5 g6 o6 hg5
       go_wp2_with fail
       refine HC.out.mono ?_
       rintro e w7 ⟨y,rfl,hy,hg7⟩
       clear hw6 hb5 HC
       obtain ⟨ya,yc,hye⟩:=loose_form hy
       have hyl:(wl++rep j).length=n+j:=by rw [List.length_append,HN.out,rep_len]
       rw [hyl] at hy hye
       have HY:=hid (looseRow.weak hy HG6.out.size)
       have HG7:=hid (HG6.out.trans hg7)
       have hD:=HDR.out k HKB.out (wl++rep j) y w7 (by rw [hyl];have:=hM48.out;omega) HG7.out (by rw [hyl];exact HY.out)
       have HD:=hid hD
       subst hye
       clear hy hg7 hyl hD
       go_wp2_with fail
       refine HD.out.mono ?_
       rintro e w8 ⟨d,rfl,hd,hg8⟩
       have HD8:=hid hd
       have HG8:=hid (HG7.out.trans hg8)
       have HY8:=hid (row_but HY.out (But.of_grew (F:=fun _=>False) hg8) fun _ _=>id)
       clear hd hg8 HD
       cases d
       ·have HN2:Hid (∀ m,m < j+1→¬ T.B.D k (wl++rep m)):=hid fun m hm=>by
         by_cases e:m=j
         ·rw [e]
          exact fun h=>by have:=HD8.out.2 h;cases this
         ·exact HNOJ.out m (by omega)
        go_wp2_with fail
        refine ⟨⟨j+1,by push_cast;rfl,by omega,HN2.out,HG8.out⟩,by simp [intOf];omega⟩
       ·have HDER:=hid (HD8.out.1 rfl)
        have HF:=hid (HFL.out k HKB.out j (.slice ya (n+j) yc) w8 (by have:=hM48.out;omega) HG8.out HY8.out HDER.out)
        go_wp2_with fail
        refine HF.out.mono ?_
        rintro e w9 ⟨rfl,v,hfil,hrow9,hg9⟩
        have HFIL:=hid hfil
        have HG9:=hid hg9
        have hvl:v.length=j:=hfil.len
        have hwvl:(wl++v).length=n+j:=by rw [List.length_append,HN.out,hvl]
        rw [← hwvl] at hrow9
        obtain ⟨a2,c2,hy2,hi2⟩:=loose_ints hrow9
        have hcap:=loose_cap hrow9
        rw [hwvl] at hy2 hcap
        obtain ⟨rfl,-,rfl⟩:=Value.slice.inj hy2
        obtain ⟨a3,c3,hsl,hi3⟩:=xdrop hi2 (sc:=yc) (j:=n) (by rw [hwvl];exact hcap) (by rw [hwvl];omega)
        rw [hwvl] at hsl
        have hdr:(wl++v).drop n=v:=by rw [← HN.out,List.drop_left]
        have hsb:n+j - n=j:=by omega
        rw [hdr] at hi3
        rw [hsb] at hsl
        have hcl:=cloneInt_ok v w9 (.slice a3 j c3) (by omega) ⟨a3,c3,by rw [hvl],hi3⟩
        rw [hvl] at hcl
        have HCL:=hid hcl
        have HVL:=hid hvl
        clear hfil hrow9 hg9 hvl hwvl hi2 hi3 hdr hsb hy2 hcap hcl HF
        go_wp2_with fail
        refine HCL.out.mono ?_
        rintro e w10 ⟨z,rfl,hz,hg10⟩
        obtain ⟨za,zc,hze⟩:=loose_form hz
        have HZ:=hid hz
        have HG10:=hid (HG9.out.trans hg10)
        have hlow:=HG9.out.size
        have hcp:=clipInt_ok w10 w9.heap.size z v (by rw [HVL.out];exact hz)
        rw [hze,HVL.out] at hcp
        have HCP:=hid hcp
        have HLOW:=hid hlow
        subst hze
        clear hz hg10 hcp hlow HCL
        go_wp2_with fail
        refine HCP.out.mono ?_
        rintro e w11 ⟨⟨u,rfl,hu⟩,rfl⟩
        have HX:=hid (HFIN.out v u w10 HG10.out (by rw [HVL.out];exact looseRow.weak hu HLOW.out) (by rw [HVL.out];omega) (by rw [HVL.out];exact HNOJ.out) (by rw [HVL.out];exact HDER.out) (by rw [HVL.out];exact HFIL.out))
        clear hu
        go_wp2_with fail
        exact HX.out
      ·obtain rfl:j=M+1:=by omega
       have HX:=hid (HFAIL.out _ HGW.out HNOJ.out)
       go_wp2_with fail
       exact HX.out
    ·have HX:=hid (HNO.out (by unfold askR;rw [HCB.out];simp))
     go_enter Tryz.func6,Tryz.ntmps6
     go_wp2_with fail
     refine HH.out.mono ?_
     rintro e w1 ⟨rfl,rfl⟩
     go_wp2_with fail
     refine HCO.out.mono ?_
     rintro e w3 ⟨rfl,hg⟩
     have HG3:=hid hg
     clear hg
     go_wp2_with fail
     exact HX.out _ HG3.out
end Go.Proofs.YtppjmdanckdobaaGreatDoor

/- Far: how many tokens are a beginning. -/
namespace Go.Proofs.YtppjmdanckdobaaGreatDoor
open Go.RowKit Go.Sort
open Lib (hid)
def OkN (B:Bk) (r:Int) (wl:List Int):Prop:=askB B r wl=true∧∃ x,NextS B r.toNat wl x
theorem NextIs.okN {B:Bk} {r:Int} {wl:List Int} {W W':World} {e:Ending} (h:NextIs B r wl W e W'):Grew W W'∧∃ v b,e=.returned (.tuple #[v,.bool b])∧(b=true↔OkN B r wl):=by
 obtain ⟨hg,h⟩:=h
 refine ⟨hg,?_⟩
 by_cases ha:askB B r wl=true
 ·rw [if_pos ha] at h
  obtain ⟨L,v,rfl,_,hn⟩:=h
  refine ⟨v,_,rfl,?_⟩
  rw [decide_eq_true_eq]
  constructor
  ·intro hl
   exact ⟨ha,L[0],(hn.mem _).1 (List.getElem_mem hl)⟩
  ·rintro ⟨_,x,hx⟩
   exact List.length_pos_of_mem ((hn.mem x).2 hx)
 ·rw [if_neg ha] at h
  exact ⟨_,_,h,⟨nofun,fun h=>absurd h.1 ha⟩⟩
theorem size_intX (u:World):(sizeOf (Tryz.prog.elem 22)).run Tryz.prog u=.ok 1 u:=by kernel_rfl
theorem xcut {W:World} {lim sc:Nat} {wa:Option Addr} {wl:List Int} (hI:IntsAt W lim wa wl) (hsc:wl.length≤sc) {j:Nat} (hj:j≤wl.length) :
  ∃ a',(∀ u:World,(Instr.slice 22 (.slice wa wl.length sc) none (some (.int .i64 (j:Int))) none).run Tryz.prog u=.ok (.slice a' j sc) u)∧IntsAt W lim a' (wl.take j):=by
 have h0:∀ u:World,(Instr.slice 22 (.slice wa wl.length sc) none (some (.int .i64 (j:Int))) none).run Tryz.prog u=.ok (sliced wa 0 j sc 1) u:=fun u=>by
  have:=run_slice_h (P:=Tryz.prog) u 22 wa wl.length sc (by kernel_rfl) .i64 (j:Int) (by omega) (by omega)
  rw [this,size_intX,Int.toNat_natCast]
  rfl
 refine ⟨_,h0,fun k hk=>?_⟩
 rw [List.length_take] at hk
 obtain ⟨b,off,rfl,hb,hc⟩:=hI k (by omega)
 refine ⟨b,off,?_,hb,by rw [List.getElem_take];exact hc⟩
 rw [if_neg (by omega)]
 rfl
structure FarIs (B:Bk) (r:Int) (wl:List Int) (x:Int):Prop where
 lt:x≤(wl.length:Int)
 lo:-1≤x
 ok:0≤x→OkN B r (wl.take x.toNat)
 no:∀ m:Nat,x < (m:Int)→m≤wl.length→¬ OkN B r (wl.take m)
def FarAt (B:Bk) (r:Int) (wl:List Int) (W:World) (e:Ending) (W':World):Prop:=Grew W W'∧∃ x,e=.returned (.int .i64 x)∧if hasX B r wl.length then FarIs B r wl x else x = -1
set_option maxHeartbeats 8000000 in
set_option maxRecDepth 40000 in
theorem xfar_ok (T:XT) (hG:T.B.Good) (hB:T.B.Lng) (r:Int) (wa:Option Addr) (sc:Nat) (wl:List Int) (W:World) (hT:T.At W.heap.size W) (hI:IntsAt W W.heap.size wa wl) (hwl:wl.length≤reachN) (hsc:wl.length≤sc) (htk:∀ nm,T.B.tok nm≤1000000) :
  Calls Tryz.prog 7 #[T.ptr,.int .i64 r,.slice wa wl.length sc] W (FarAt T.B r wl W):=by
 have HH:=hid (xhas_ok T r wa wl.length sc W hT)
 have HT:=hid hT
 have HI:=hid hI
 have HNX:Hid (∀ (w:World) (n:Nat) (a:Option Addr) (c:Nat),n≤wl.length→IntsAt W W.heap.size a (wl.take n)→Grew W w→Calls Tryz.prog 5 #[T.ptr,.int .i64 r,.slice a n c] w fun e w'=>Grew W w'∧∃ v b,e=.returned (.tuple #[v,.bool b])∧(b=true↔OkN T.B r (wl.take n))):=hid fun w n a c hn hI hg=>by
  have hl:(wl.take n).length=n:=by rw [List.length_take];omega
  have h1:=xnext_ok T hG hB r a c (wl.take n) w (hT.grew hg) (IntsAt.mono hg.size (IntsAt.keep hg hI)) (by omega) htk
  rw [hl] at h1
  exact h1.mono fun e w' h=>⟨hg.trans h.okN.1,h.okN.2⟩
 obtain ⟨Q,hQ⟩:∃ Q,FarAt T.B r wl W=Q:=⟨_,rfl⟩
 rw [hQ]
 unfold XT.ptr at *
 cases hh:hasX T.B r wl.length with
 | false =>
  rw [hh] at HH
  have HX:Hid (Q (.returned (.int .i64 (-1))) W):=hid (by
   rw [← hQ]
   refine ⟨Grew.refl _,_,rfl,?_⟩
   rw [if_neg (by rw [hh];simp)])
  clear hQ hG hB hT hI hh
  go_enter Tryz.func7,Tryz.ntmps7
  go_wp2_with fail
  refine HH.out.mono ?_
  rintro e w1 ⟨rfl,rfl⟩
  go_wp2_with fail
  exact HX.out
 | true =>
  rw [hh] at HH
  have HX:Hid (∀ w' x,Grew W w'→FarIs T.B r wl x→Q (.returned (.int .i64 x)) w'):=hid fun w' x h1 h2=>by
   rw [← hQ]
   refine ⟨h1,_,rfl,?_⟩
   rw [if_pos hh]
   exact h2
  have HW48:Hid (wl.length≤48):=hid (by
   unfold hasX at hh
   simp only [Bool.and_eq_true,decide_eq_true_eq] at hh
   exact hh.2.2)
  obtain ⟨n0,hn⟩:∃ n,wl.length=n:=⟨_,rfl⟩
  have HN:=hid hn
  have HCUT:Hid (∀ j,j≤wl.length→∃ a',(∀ u:World,(Instr.slice 22 (.slice wa wl.length sc) none (some (.int .i64 (j:Int))) none).run Tryz.prog u=.ok (.slice a' j sc) u)∧IntsAt W W.heap.size a' (wl.take j)):=hid fun j hj=>xcut HI.out hsc hj
  rw [hn] at HH hsc HNX HCUT ⊢
  clear hQ hG hB hT hI hh hwl hn
  go_enter Tryz.func7,Tryz.ntmps7
  go_wp2_with fail
  refine HH.out.mono ?_
  rintro e w1 ⟨rfl,rfl⟩
  go_wp2_with fail
  go_loopw [7] (fun v wr=>∃ (j:Nat),v=.int .i64 ((j:Int) - 1)∧j≤n0+1∧Hid (∀ m:Nat,(j:Int) - 1 < (m:Int)→m≤n0→¬ OkN T.B r (wl.take m))∧Hid (Grew w1 wr)) (fun v _=>(intOf v+1).toNat)
  case atStart=>exact ⟨n0+1,by simp,Nat.le_refl _,fun m h1 h2=>by omega,Grew.refl _⟩
  case round =>
   obtain ⟨j,rfl,hj,hno,hgw⟩:=hrel
   by_cases h0:j=0
   ·subst h0
    have HXN:=hid (HX.out wr (-1) hgw.out ⟨by omega,by omega,fun h=>absurd h (by omega),fun m h1 h2=>hno.out m (by omega) (by rw [← HN.out];exact h2)⟩)
    go_wp2_with fail
    exact HXN.out
   ·obtain ⟨i,rfl⟩:∃ i,j=i+1:=⟨j - 1,by omega⟩
    have e1:((i+1:Nat):Int) - 1=(i:Int):=by omega
    rw [e1] at hno ⊢
    obtain ⟨a',hrun,hia⟩:=HCUT.out i (by omega)
    have HCL:=hid (HNX.out wr i a' sc (by omega) hia hgw.out)
    have HSTEP:Hid (¬ OkN T.B r (wl.take i)→∀ m:Nat,(i:Int) - 1 < (m:Int)→m≤n0→¬ OkN T.B r (wl.take m)):=hid fun h m h1 h2=>by
     by_cases e:m=i
     ·rw [e];exact h
     ·exact hno.out m (by omega) h2
    have HFND:Hid (OkN T.B r (wl.take i)→∀ w',Grew w1 w'→Q (.returned (.int .i64 (i:Int))) w'):=hid fun h w' hg=>HX.out w' _ hg ⟨by have:=HN.out;omega,by omega,fun _=>by rw [Int.toNat_natCast];exact h,fun m h1 h2=>hno.out m (by omega) (by rw [← HN.out];exact h2)⟩
    clear hia
    go_wp2_with fail
    refine HCL.out.mono ?_
    rintro e w3 ⟨hg3,v,b,rfl,hb⟩
    have HG3:=hid hg3
    have HB3:=hid hb
    clear hg3 hb
    cases b
    ·have HX3:=hid (HSTEP.out fun h=>by have:=HB3.out.2 h;cases this)
     go_wp2_with fail
     have hwr:wrap64 ((i:Int) - 1)=(i:Int) - 1:=by have:=HW48.out;have:=HN.out;unfold wrap64;omega
     rw [hwr]
     exact ⟨⟨i,rfl,by omega,HX3.out,HG3.out⟩,by simp only [intOf];omega⟩
    ·have HX3:=hid (HFND.out (HB3.out.1 rfl) _ HG3.out)
     go_wp2_with fail
     exact HX3.out
end Go.Proofs.YtppjmdanckdobaaGreatDoor

/- What holds of a grammar's book,for a table. -/
namespace Go.Proofs.YtppjmdanckdobaaGreatDoor
open Go.RowKit
open Lib (hid)
structure Bk.Okx (B:Bk):Prop where
 good:B.Good
 lng:B.Lng
 toks:∀ n∈B.bodies,TokIn B n
 rise:B.kinds.Pairwise (· < ·)
 few:B.kinds.length≤1000
 tok:∀ nm,B.tok nm≤1000000
theorem of_len (g:Gr) (S:List Int):(g.of S).length≤g.rules.length:=Gr.ofTo_len g S _
theorem book_tok_le (g:Gr) (nm:ByteArray):(bookOf g).tok nm≤g.rules.length:=by
 unfold Bk.tok bookOf
 rw [(Bk.iter_rest _ _).2.1]
 show (lookS (nmsTo g (g.of [1,3]) (g.of [1,3]).length) nm).getD 0≤_
 cases h:lookS (nmsTo g (g.of [1,3]) (g.of [1,3]).length) nm with
 | none=>exact Nat.zero_le _
 | some k =>
  obtain ⟨x,hx,_,rfl⟩:=lookS_mem h
  have h1:=(nmsTo_mem hx).1
  have h2:=of_len g [1,3]
  show x.2≤_
  omega
theorem book_okx {g:Gr} (hs:soundP g) (hf:g.Fine) (hl:g.rules.length≤1000):(bookOf g).Okx:=by
 have hn:=hf.names
 have hf':=hf
 obtain ⟨es,M,N,he,hM,hN,ht⟩:=hf'
 have hkr:=kindsTo_rise g (g.of [1,3]) (g.of [1,3]).length
 have hkl:=kindsTo_len g (g.of [1,3]) (g.of [1,3]).length
 rw [← bookOf_kinds] at hkr hkl
 refine ⟨book_good hs hf,book_lng hs,book_toks ht hn,hkr.2,?_,fun nm=>Nat.le_trans (book_tok_le g nm) (by omega)⟩
 have:=of_len g [1,3]
 omega
theorem rise_uniq:∀ {u v:List Int},u.Pairwise (· < ·)→v.Pairwise (· < ·)→(∀ x,x∈u↔x∈v)→u=v
 | [],[],_,_,_=>rfl
 | [],y::v,_,_,h=>absurd ((h y).2 (List.mem_cons_self ..)) (by simp)
 | x::u,[],_,_,h=>absurd ((h x).1 (List.mem_cons_self ..)) (by simp)
 | x::u,y::v,hu,hv,h=>by
  obtain ⟨u1,u2⟩:=List.pairwise_cons.1 hu
  obtain ⟨v1,v2⟩:=List.pairwise_cons.1 hv
  have e:x=y:=by
   rcases List.mem_cons.1 ((h x).1 (List.mem_cons_self ..)) with e | hx
   ·exact e
   ·rcases List.mem_cons.1 ((h y).2 (List.mem_cons_self ..)) with e | hy
    ·exact e.symm
    ·have:=v1 x hx
     have:=u1 y hy
     omega
  subst e
  rw [rise_uniq u2 v2 fun z=>?_]
  have hz:=h z
  rw [List.mem_cons,List.mem_cons] at hz
  constructor
  ·intro hm
   rcases hz.1 (.inr hm) with rfl | h
   ·have:=u1 z hm;omega
   ·exact h
  ·intro hm
   rcases hz.2 (.inr hm) with rfl | h
   ·have:=v1 z hm;omega
   ·exact h
theorem NextL.uniq {B:Bk} {r:Nat} {wl L L':List Int} (h:NextL B r wl L) (h':NextL B r wl L'):L=L':=rise_uniq h.rise h'.rise fun x=>(h.mem x).trans (h'.mem x).symm
theorem RestV.uniq {B:Bk} {r:Nat} {w v v':List Int} {more more':Int} (h:RestV B r w more v) (h':RestV B r w more' v'):v=v':=by
 have e:v.length=v'.length:=by
  rcases Nat.lt_trichotomy v.length v'.length with hl | hl | hl
  ·exact absurd h.der (h'.no _ hl)
  ·exact hl
  ·exact absurd h'.der (h.no _ hl)
 have h1:=h.fil
 rw [e] at h1
 exact h1.uniq h'.fil
end Go.Proofs.YtppjmdanckdobaaGreatDoor
