/- fill: a list from a place on. -/
import Derived.Deep.DeepCutAuto
import Derived.Deep.LoopGhost
import Derived.Test.YtppjmdanckdobaaGreatDoorQR35
namespace Go.Proofs.YtppjmdanckdobaaGreatDoor
open Go.RowKit Go.Sort
open Lib (hid)
theorem intsR_at (p:List Int) (x:Int) (q:List Int) (rest:List Value):(intVs (p++x::q)++rest)[p.length]? = some (.int .i64 x):=by
 simp [intVs]
theorem intsR_set (p:List Int) (x t:Int) (q:List Int) (rest:List Value):(intVs (p++x::q)++rest).set p.length (.int .i64 t)=intVs (p++t::q)++rest:=by
 simp [intVs]
theorem ownsR_ints {w:World} {b T:Nat} {l:List Int} {rest:List Value} (h:Owns w b (intVs l++rest) T):IntsAt w w.heap.size (some ⟨b,0,none⟩) l:=fun k hk =>
 ⟨b,0,rfl,h.lt,by rw [Nat.zero_add];exact h.cell_at (by simp [intVs,hk,List.getElem?_append])⟩
structure FilAt (B:Bk) (r:Nat) (w:List Int) (n i:Nat) (v:List Int):Prop where
 le:i≤n
 len:v.length=i
 der:B.D r (w++v++rep (n - i))
 fil:∀ u,Fil B r (w++v) (n - i) u→Fil B r w n (v++u)
theorem FilAt.start {B:Bk} {r:Nat} {w:List Int} {n:Nat} (h:B.D r (w++rep n)):FilAt B r w n 0 []:=⟨Nat.zero_le _,rfl,by rw [List.append_nil];exact h,fun u hu=>by rw [List.append_nil] at hu;exact hu⟩
theorem FilAt.more {B:Bk} {r:Nat} {w v:List Int} {n i:Nat} (h:FilAt B r w n i v) (hi:i < n) {x:Int} (hx:x∈B.kinds) (hd:B.D r (w++v++x::rep (n - (i+1)))) (hno:∀ y∈B.kinds,y < x→¬ B.D r (w++v++y::rep (n - (i+1)))):FilAt B r w n (i+1) (v++[x]):=by
 have e:n - i=n - (i+1)+1:=by omega
 refine ⟨hi,by rw [List.length_append,h.len];rfl,by rw [← List.append_assoc,List.append_assoc (w++v)];exact hd,fun u hu=>?_⟩
 have:=h.fil (x::u) (by
  rw [e]
  exact ⟨x,u,rfl,hx,hd,hno,by rw [← List.append_assoc] at hu;exact hu⟩)
 rw [List.append_assoc]
 exact this
theorem first_kind {K:List Int} (hr:K.Pairwise (· < ·)) {j:Nat} (hj:j < K.length) {P:Int→Prop} (hno:∀ x∈K.take j,¬ P x):∀ y∈K,y < K[j]→¬ P y:=by
 intro y hy hl
 obtain ⟨i,hi,rfl⟩:=List.mem_iff_getElem.1 hy
 by_cases hij:i < j
 ·exact hno _ (List.mem_iff_getElem.2 ⟨i,by rw [List.length_take];omega,by rw [List.getElem_take]⟩)
 ·rcases Nat.lt_or_ge j i with h | h
  ·have:=List.pairwise_iff_getElem.1 hr j i hj hi h
   omega
  ·have:i=j:=by omega
   subst this
   omega
set_option maxHeartbeats 8000000 in
set_option maxRecDepth 40000 in
theorem xfill_ok (T:XT) (hG:T.B.Good) (hB:T.B.Lng) (k:Nat) (hk:k < T.B.bodies.length) (hT:∀ n∈T.B.bodies,TokIn T.B n) (hR:T.B.kinds.Pairwise (· < ·)) (hkl:T.B.kinds.length≤1000) (w:List Int) (n lim g cap:Nat) (rest:List Value) (hn:w.length+n≤48) (hlg:lim≤g) (W:World) (hA:T.At lim W) (hO:Owns W g (intVs (w++rep n)++rest) 3) (hd:T.B.D k (w++rep n)) :
  Calls Tryz.prog 25 #[T.ptr,.int .i64 (k:Int),.slice (some ⟨g,0,none⟩) (w.length+n) cap,.int .i64 (w.length:Int)] W fun e W'=>e=.returned (.tuple #[])∧∃ v,Fil T.B k w n v∧Owns W' g (intVs (w++v)++rest) 3∧Below lim W W':=by
 have HDR:Hid (∀ (u:List Int) (wi:World),u.length=w.length+n→Below lim W wi→Owns wi g (intVs u++rest) 3→Calls Tryz.prog 24 #[T.ptr,.int .i64 (k:Int),.slice (some ⟨g,0,none⟩) (w.length+n) cap] wi fun e w'=>∃ b,e=.returned (.bool b)∧(b=true↔T.B.D k u)∧Grew wi w'):=hid fun u wi hu hb ho=>by
  have h1:=xderived_ok T hG hB k hk (some ⟨g,0,none⟩) cap u (by omega) wi ((hA.keep hb).mono (Nat.le_trans hA.low hb.size) (Nat.le_refl _)) (ownsR_ints ho)
  rw [hu] at h1
  exact h1
 have HSOME:Hid (∀ p q,T.B.D k (p++-2::q)→∃ x∈T.B.kinds,T.B.D k (p++x::q)):=hid fun p q h=>d_some hT h
 have HR:=hid hR
 have HA:=hid hA
 have HO:=hid hO
 have HF0:=hid (FilAt.start hd)
 have c0:=hA.box.cell_at (i:=0) rfl
 have c3:=hA.box.cell_at (i:=3) rfl
 have cl:=hA.box.lt
 have htlo:=hA.tbl
 obtain ⟨ka,kc,hkv,hks⟩:=hA.kinds
 unfold XT.e at c3 cl hkv hks htlo
 dsimp only at c3 cl hkv hks htlo
 rw [hkv] at c3
 obtain ⟨kn,hkn⟩:∃ kn,T.B.kinds.length=kn:=⟨_,rfl⟩
 rw [hkn] at c3 hkl
 have HKN:=hid hkn
 have HKS:=hid hks
 have HC3:Hid (∀ wr,Below lim W wr→wr.cell? ⟨T.tb,3,none⟩=some (.slice ka kn kc)∧T.tb < wr.heap.size):=hid fun wr hb=>⟨by rw [hb.cell htlo];exact c3,Nat.lt_of_lt_of_le cl hb.size⟩
 obtain ⟨wn,hwn⟩:∃ wn,w.length=wn:=⟨_,rfl⟩
 have HWN:=hid hwn
 unfold XT.ptr at *
 rw [hwn] at HDR hn ⊢
 obtain ⟨N,hN⟩:∃ N,wn+n=N:=⟨_,rfl⟩
 rw [hN] at HDR hn ⊢
 have HNN:=hid hN
 clear hkv hks hkn c0 c3 cl htlo hG hB hT hR hA hO hd hwn hk hN
 go_enter Tryz.func25,Tryz.ntmps25
 go_wp2_with fail
 go_loopw [8] (fun c wr=>∃ (a i:Nat) (v:List Int),c=.int .i64 (a:Int)∧a≤N∧Hid (a=wn+i)∧Hid (FilAt T.B k w n i v)∧Hid (Owns wr g (intVs (w++v++rep (n - i))++rest) 3)∧Hid (Below lim W wr)) (fun c _=>N - (intOf c).toNat)
 case atStart =>
  exact ⟨wn,0,[],rfl,by have:=HNN.out;omega,rfl,HF0.out,by unfold Hid;rw [List.append_nil];exact HO.out,Below.refl _ _⟩
 case round =>
  obtain ⟨a,i,v,rfl,ha,HAI,HF,HOW,HBL⟩:=hrel
  by_cases hltN:a < N
  ·have HLTN:Hid (i < n):=hid (by have:=HAI.out;have:=HNN.out;omega)
   obtain ⟨c3,cl⟩:=HC3.out wr HBL.out
   obtain ⟨wo,rfl⟩:∃ wo:World,wo=wr:=⟨_,rfl⟩
   obtain ⟨m,hm⟩:∃ m,n - (i+1)=m:=⟨_,rfl⟩
   have HM:=hid hm
   have HOW2:Hid (Owns wo g (intVs (w++v++-2::rep m)++rest) 3):=hid (by
    have:=HOW.out
    rw [show n - i=m+1 by have:=HLTN.out;omega,rep_succ] at this
    exact this)
   have HLV:Hid ((w++v).length=a):=hid (by rw [List.length_append,HWN.out,HF.out.len,HAI.out])
   clear hm
   go_wp2_with fail
   go_loopw [24] (fun c wi=>∃ (j:Nat) (y:Int),c=.int .i64 (j:Int)∧j≤kn∧Hid (∀ x∈T.B.kinds.take j,¬ T.B.D k (w++v++x::rep m))∧Hid (Owns wi g (intVs (w++v++y::rep m)++rest) 3)∧Hid (Below lim W wi)) (fun c _=>kn - (intOf c).toNat)
   case atStart=>exact ⟨0,-2,rfl,Nat.zero_le _,fun x hx=>by simp at hx,HOW2.out,HBL.out⟩
   case round =>
    obtain ⟨j,y,rfl,hj,HNO,HOI,HBI⟩:=hrel
    obtain ⟨wi,rfl⟩:∃ wi:World,wi=wr:=⟨_,rfl⟩
    by_cases hjl:j < kn
    ·have hjl':j < T.B.kinds.length:=by rw [HKN.out];exact hjl
     obtain ⟨b,off,rfl,hb,hkc⟩:=HKS.out j hjl'
     have hlw:=(HA.out.keep HBI.out).low
     have hkc2:wi.cell? ⟨b,off+j,none⟩=some (.int .i64 T.B.kinds[j]):=by rw [HBI.out.cell hb];exact hkc
     have hb2:b < wi.heap.size:=Nat.lt_of_lt_of_le hb hlw
     have HTK:=hid (List.take_succ_eq_append_getElem hjl')
     have HFK:=hid (first_kind HR.out hjl' (P:=fun x=>T.B.D k (w++v++x::rep m)) HNO.out)
     have HMEM:=hid (List.getElem_mem hjl')
     obtain ⟨t,ht⟩:∃ t,T.B.kinds[j]=t:=⟨_,rfl⟩
     rw [ht] at hkc2 HTK HFK HMEM
     have w0:wi.cell? ⟨g,a,none⟩=some (.int .i64 y):=by rw [← HLV.out,HOI.out.cell];exact intsR_at _ _ _ _
     have wl:=HOI.out.lt
     have wf:=HOI.out.free a
     have hat2:(a:Int) < (N:Int):=by omega
     have ho2:Owns (wi.setCell ⟨g,a,none⟩ (.int .i64 t)) g (intVs (w++v++t::rep m)++rest) 3:=by
      have:=HOI.out.set a (.int .i64 t)
      rw [← HLV.out,intsR_set,HLV.out] at this
      exact this
     have HO2:=hid ho2
     have hbt:=set_but (i:=a) (v:=.int .i64 t) HOI.out
     have HBL2:=hid (Below.trans HBI.out (hbt.below hlw fun q e=>by rw [e];exact hlg))
     have hD:=HDR.out (w++v++t::rep m) (wi.setCell ⟨g,a,none⟩ (.int .i64 t)) (by rw [List.length_append,HLV.out,List.length_cons,rep_len];have:=HM.out;have:=HAI.out;have:=HNN.out;omega) HBL2.out HO2.out
     have HD:=hid hD
     clear ht hkc hb hjl' ho2 hbt hlw hD
     go_wp2_with fail
     refine HD.out.mono ?_
     rintro e w3 ⟨b3,rfl,hb3,hg3⟩
     have HB3:=hid hb3
     have HG3:=hid (Below.trans HBL2.out (hg3.mono (HA.out.keep HBL2.out).low))
     have HO3:=hid (HO2.out.keep hg3)
     clear hb3 hg3 HD w0 wl wf hkc2 hb2
     cases b3
     ·have HN2:Hid (∀ x∈T.B.kinds.take (j+1),¬ T.B.D k (w++v++x::rep m)):=hid fun x hx=>by
       rw [HTK.out] at hx
       rcases List.mem_append.1 hx with hx | hx
       ·exact HNO.out x hx
       ·rw [List.mem_singleton.1 hx]
        exact fun h=>by have:=HB3.out.2 h;cases this
      go_wp2_with fail
      refine ⟨⟨j+1,t,by go_num,by omega,HN2.out,HO3.out,HG3.out⟩,by simp [intOf];omega⟩
     ·have HF2:=hid (HF.out.more HLTN.out HMEM.out (by rw [HM.out];exact HB3.out.1 rfl) (by rw [HM.out];exact HFK.out))
      go_wp2_with fail
      refine ⟨⟨a+1,i+1,v++[t],by go_num,by omega,by unfold Hid;rw [HAI.out];rfl,HF2.out,?_,HG3.out⟩,by simp [intOf];omega⟩
      unfold Hid
      rw [HM.out,← List.append_assoc,List.append_assoc (w++v)]
      exact HO3.out
    ·obtain rfl:j=kn:=by omega
     exfalso
     have hd:=HF.out.der
     have hm:=HM.out
     rw [show n - i=m+1 by have:=HLTN.out;omega,rep_succ] at hd
     obtain ⟨x,hx,hdx⟩:=HSOME.out _ _ hd
     exact HNO.out x (by rw [List.take_of_length_le (by rw [HKN.out];exact Nat.le_refl _)];exact hx) hdx
  ·obtain rfl:a=N:=by omega
   obtain rfl:i=n:=by have:=HAI.out;have:=HNN.out;omega
   have HFIN:Hid (∃ v,Fil T.B k w i v∧Owns wr g (intVs (w++v)++rest) 3∧Below lim W wr):=hid (by
    refine ⟨v,?_,?_,HBL.out⟩
    ·have:=HF.out.fil [] (by rw [Nat.sub_self];rfl)
     rw [List.append_nil] at this
     exact this
    ·have:=HOW.out
     rw [Nat.sub_self,show rep 0=[] from rfl,List.append_nil] at this
     exact this)
   go_wp2_with fail
   go_end0
   exact ⟨rfl,HFIN.out⟩
end Go.Proofs.YtppjmdanckdobaaGreatDoor

/- Next: with what a list may go on. -/
namespace Go.Proofs.YtppjmdanckdobaaGreatDoor
open Go.RowKit Go.Sort
open Lib (hid)
def NextS (B:Bk) (r:Nat) (wl:List Int) (x:Int):Prop:=(x = -1∧B.D r wl)∨XNextS B r wl x
structure NextL (B:Bk) (r:Nat) (wl:List Int) (L:List Int):Prop where
 rise:L.Pairwise (· < ·)
 mem:∀ x,x∈L↔NextS B r wl x
def askB (B:Bk) (r:Int) (wl:List Int):Bool:=hasX B r wl.length&&(decide (0≤B.longN r.toNat)&&!(wl.any fun y=>(-2:Int) == y))
def NextIs (B:Bk) (r:Int) (wl:List Int) (W:World) (e:Ending) (W':World):Prop:=Grew W W' ∧
 if askB B r wl then ∃ (L:List Int) (v:Value),e=.returned (.tuple #[v,.bool (decide (0 < L.length))])∧looseRow W' W.heap.size 3 1 v L.length (intVs L)∧NextL B r.toNat wl L
 else e=.returned (.tuple #[.slice none 0 0,.bool false])
mutual
theorem nx_tok {B:Bk} {w:List Int} {M:Nat} (h:∀ nm,B.tok nm≤M):∀ {n:Nd} {i t:Nat},Nx B w n i t→t≤M
 | .mk _ nm _ _ _,_,_,.tok _=>h nm
 | _,_,_,.ref _ _ hd=>nx_tok h hd
 | _,_,_,.seq _ hd=>nxL_tok h hd
 | _,_,_,.alt _ hd=>nx_tok h hd
 | _,_,_,.loop _ _ hd=>nx_tok h hd
 | _,_,_,.again _ _ hd=>nx_tok h hd
theorem nxL_tok {B:Bk} {w:List Int} {M:Nat} (h:∀ nm,B.tok nm≤M):∀ {l:List Nd} {i t:Nat},NxL B w l i t→t≤M
 | _,_,_,.here hd=>nx_tok h hd
 | _,_,_,.next _ hd=>nxL_tok h hd
end
set_option maxHeartbeats 8000000 in
set_option maxRecDepth 40000 in
theorem xnext_ok (T:XT) (hG:T.B.Good) (hB:T.B.Lng) (r:Int) (wa:Option Addr) (sc:Nat) (wl:List Int) (W:World) (hT:T.At W.heap.size W) (hI:IntsAt W W.heap.size wa wl) (hwl:wl.length≤reachN) (htk:∀ nm,T.B.tok nm≤1000000) :
  Calls Tryz.prog 5 #[T.ptr,.int .i64 r,.slice wa wl.length sc] W (NextIs T.B r wl W):=by
 have HH:=hid (xhas_ok T r wa wl.length sc W hT)
 have HCO:=hid (containsInt_ok wl (-2) W (.slice wa wl.length sc) hwl ⟨wa,sc,rfl,hI⟩)
 have HT:=hid hT
 have HI:=hid hI
 have HG:=hid hG
 have HB:=hid hB
 have HTK:Hid (∀ (k:Nat) (L:List Int),L.Nodup→(∀ t,t∈L↔NextS T.B k wl t)→L.length≤1000002):=hid fun k L hd hm=>nodup_ints hd fun x hx=>by
  rcases (hm x).1 hx with ⟨rfl,_⟩ | ⟨n,t,h1,h2,rfl⟩
  ·omega
  ·have:=nx_tok htk h2
   omega
 obtain ⟨Q,hQ⟩:∃ Q,NextIs T.B r wl W=Q:=⟨_,rfl⟩
 rw [hQ]
 have HQ:=hid hQ
 have t0:=hT.box.cell_at (i:=0) rfl
 have tl:=hT.box.lt
 unfold XT.e at t0 tl
 dsimp only at t0 tl
 unfold XT.ptr at HH ⊢
 have HNO:Hid (askB T.B r wl=false→∀ w',Grew W w'→Q (.returned (.tuple #[.slice none 0 0,.bool false])) w'):=hid fun h w' hw=>by
  rw [← HQ.out]
  unfold NextIs
  rw [if_neg (by rw [h];simp)]
  exact ⟨hw,rfl⟩
 have HFEW:=hid hT.book.few.2
 unfold XT.e at HFEW
 dsimp only at HFEW
 have HLG:Hid (∀ k:Nat,r=(k:Int)→Calls Tryz.prog 17 #[.pointer (some ⟨T.bk,0,none⟩),.int .i64 r] W fun e W'=>e=.returned (.int .i64 (T.B.longN k))∧W'=W):=hid fun k hk=>by
  subst hk
  rw [← longN_eq HFEW.out]
  exact slong_ok T.B _ T.V T.bk W.heap.size W hT.book
 clear hT hI hQ hG hB
 cases hh:hasX T.B r wl.length with
 | false =>
  rw [hh] at HH
  have hno:=HNO.out (by unfold askB;rw [hh];rfl)
  have HX:=hid hno
  clear hno
  go_enter Tryz.func5,Tryz.ntmps5
  go_wp2_with fail
  refine HH.out.mono ?_
  rintro e w1 ⟨rfl,rfl⟩
  go_wp2_with fail
  exact HX.out _ (Grew.refl _)
 | true =>
  have hh':=hh
  unfold hasX at hh'
  simp only [Bool.and_eq_true,decide_eq_true_eq] at hh'
  obtain ⟨k,rfl⟩:=Int.eq_ofNat_of_zero_le hh'.1
  have HL:=hid (HLG.out k rfl)
  have HKB:=hid (show k < T.B.bodies.length by omega)
  have HW48:=hid hh'.2.2
  rw [hh] at HH
  obtain ⟨lg,hlg⟩:∃ lg,T.B.longN k=lg:=⟨_,rfl⟩
  rw [hlg] at HL
  have HLE:=hid hlg
  have HHH:=hid hh
  obtain ⟨n,hn⟩:∃ n,wl.length=n:=⟨_,rfl⟩
  have HN:=hid hn
  rw [hn] at HH HCO ⊢
  clear hlg hh hh' HLG hn
  by_cases hl0:lg < 0
  ·have hl1:decide (lg < 0)=true:=decide_eq_true hl0
   have HX:=hid (HNO.out (by
    unfold askB
    rw [HHH.out,Int.toNat_natCast,HLE.out,decide_eq_false (by omega)]
    rfl))
   go_enter Tryz.func5,Tryz.ntmps5
   go_wp2_with fail
   refine HH.out.mono ?_
   rintro e w1 ⟨rfl,rfl⟩
   go_wp2_with fail
   refine HL.out.mono ?_
   rintro e w2 ⟨rfl,rfl⟩
   go_wp2_with fail
   exact HX.out _ (Grew.refl _)
  ·have hl1:decide (lg < 0)=false:=decide_eq_false hl0
   obtain ⟨cb,hcb⟩:∃ cb,(wl.any fun y=>(-2:Int) == y)=cb:=⟨_,rfl⟩
   rw [hcb] at HCO
   have HCB:=hid hcb
   clear hcb
   cases cb
   ·have hnoc:=HCB.out
    have HASK:Hid (askB T.B (k:Int) wl=true):=hid (by
     unfold askB
     rw [HHH.out,Int.toNat_natCast,HLE.out,decide_eq_true (by omega),hnoc]
     rfl)
    clear HNO hnoc
    have hmk:∀ (t:TypeId) (w:World),(Instr.makeMap t none).run Tryz.prog w=.ok (.map (some w.heap.size)) (w.alloc (.map #[] 0)):=fun _ _=>rfl
    go_enter Tryz.func5,Tryz.ntmps5
    go_wp2_with fail
    refine HH.out.mono ?_
    rintro e w1 ⟨rfl,rfl⟩
    go_wp2_with fail
    refine HL.out.mono ?_
    rintro e w2 ⟨rfl,rfl⟩
    go_wp2_with fail
    refine HCO.out.mono ?_
    rintro e w3 ⟨rfl,hg⟩
    have HG3:=hid hg
    have HT3:=hid (HT.out.grew hg)
    have HI3:=hid (IntsAt.mono hg.size (IntsAt.keep hg HI.out))
    clear hg t0 tl HH HL HCO
    obtain ⟨kb,hkb⟩:∃ kb,w3.heap.size=kb:=⟨_,rfl⟩
    obtain ⟨w4,hw4⟩:∃ w4,w3.alloc (.map #[] 0)=w4:=⟨_,rfl⟩
    have z4:w4.heap.size=kb+1:=by rw [← hw4,← hkb];exact World.size_alloc _ _
    have hm4:(Instr.makeMap 61 none).run Tryz.prog w3=.ok (.map (some kb)) w4:=by rw [hmk,hw4,hkb]
    obtain ⟨w5,hw5⟩:∃ w5,w4.alloc (.map #[] 0)=w5:=⟨_,rfl⟩
    have z5:w5.heap.size=kb+1+1:=by rw [← hw5,← z4];exact World.size_alloc _ _
    have hm5:(Instr.makeMap 62 none).run Tryz.prog w4=.ok (.map (some (kb+1))) w5:=by rw [hmk,hw5,z4]
    obtain ⟨w6,hw6⟩:∃ w6,w5.alloc (.cells #[.pointer (some ⟨T.tb,0,none⟩),.slice wa n sc,.map (some kb),.map (some (kb+1))] 64)=w6:=⟨_,rfl⟩
    have g4:Grew w3 w4:=hw4▸grew_alloc w3 _
    have g5:Grew w4 w5:=hw5▸grew_alloc w4 _
    have g6:Grew w5 w6:=hw6▸grew_alloc w5 _
    have hmap4:w6.heap[kb]? = some (mapObj []):=by
     rw [g6.block kb (by omega),g5.block kb (by omega),← hw4,← hkb]
     exact heap_alloc_new w3 _
    have hmap5:w6.heap[kb+1]? = some (mapObj []):=by
     rw [g6.block (kb+1) (by omega),← hw5,← z4]
     exact heap_alloc_new w4 _
    have o6:Owns w6 (kb+1+1) [.pointer (some ⟨T.tb,0,none⟩),.slice wa n sc,.map (some kb),.map (some (kb+1))] 64:=by rw [← hw6,← z5];exact Owns.alloc w5 _ _
    have HG36:=hid ((g4.trans g5).trans g6)
    have O6:=hid o6
    have hE:(T.e kb (kb+1+1) kb (kb+1) wa sc wl).At (fun _=>False) w6:=XE.At.begin (hkb▸HT3.out.keep HG36.out) (by rw [HN.out];exact o6) (hkb▸IntsAt.keep HG36.out HI3.out) (by omega) (Nat.le_refl _) (by omega) (by omega) HW48.out hmap4 hmap5
    have HS:=hid (xstart_ok T HG.out HB.out hE k HKB.out)
    have HKB3:=hid hkb
    clear g4 g5 g6 hmap4 hmap5 o6 hE hmk
    go_wp2_with fail
    refine HS.out.mono ?_
    rintro e w7 ⟨q,rfl,q1,q2,q3,q4⟩
    clear hw4 hw5 hw6 z4 z5 hm4 hm5 hkb HS
    obtain ⟨d,hd⟩:∃ d,q.testBit n=d:=⟨_,rfl⟩
    have hidx:(Instr.index 66 (setV q) (.int .i64 (n:Int))).run Tryz.prog w7=.ok (.bool d) w7:=index_set (by have:=HW48.out;have:=HN.out;omega) (by rw [← hd];simpa using setL_get q (by have:=HW48.out;have:=HN.out;omega)) w7
    have O7:=hid (q4.owns O6.out (by omega))
    have HNT:=hid q3
    have HBT:=hid q4
    have HDD:Hid (d=true↔T.B.D k wl):=hid (by rw [← hd,← HN.out];exact q2)
    have k3:=O7.out.cell_at (i:=3) rfl
    have kl:=O7.out.lt
    clear q2 q3 q4 hd
    go_upto_if 41 with fail
    go_cut [] (fun wx=>Hid (NoteX (NextS T.B k wl) (kb+1) wx)∧Hid (But (fun x=>x=kb+1) w7 wx))
    case first =>
     cases d
     ·go_wp2_with fail
      go_meet
      have hnd:¬ T.B.D k wl:=fun h=>by have:=HDD.out.2 h;cases this
      obtain ⟨L,h1,h2,h3⟩:=HNT.out
      exact ⟨hid ⟨L,h1,h2,fun t=>by rw [h3];exact ⟨.inr,fun h=>h.elim (fun h=>absurd h.2 hnd) id⟩⟩,hid (But.refl _ _)⟩
     ·obtain ⟨w8,hrun,hnote,hb8⟩:=run_noteX HNT.out (-1)
      have HN8:=hid hnote
      have HB8:=hid hb8
      clear hnote hb8
      go_wp2_with fail
      go_meet
      obtain ⟨L,h1,h2,h3⟩:=HN8.out
      exact ⟨hid ⟨L,h1,h2,fun t=>by rw [h3];exact ⟨fun h=>h.elim .inr fun h=>.inl ⟨h,HDD.out.1 trivial⟩,fun h=>h.elim (fun h=>.inr h.1) .inl⟩⟩,HB8⟩
    case rest =>
    obtain ⟨hnt,hbt⟩:=hcut
    obtain ⟨w8,hw8⟩:∃ w8,wc=w8:=⟨_,rfl⟩
    subst hw8
    obtain ⟨L,hmL,hdL,hsL⟩:=hnt.out
    have HSL:=hid hsL
    have HDL:=hid hdL
    have h2lo:w2.heap.size≤kb:=by rw [← HKB3.out];exact HG3.out.size
    have h4lo:kb≤w3.heap.size:=Nat.le_of_eq HKB3.out.symm
    have hWw8:Grew w2 wc:=by
     have h1:Below w2.heap.size _ w7:=HBT.out.below (Nat.le_trans HG3.out.size HG36.out.size) fun q hq=>by rcases hq with e | e<;>omega
     have h2:Below w2.heap.size w7 wc:=hbt.out.below (Nat.le_trans (Nat.le_trans HG3.out.size HG36.out.size) HBT.out.size) fun q hq=>by omega
     exact Below.trans (Below.trans (HG3.out.trans HG36.out) h1) h2
    have HL0:=hid (LoopX.begin hWw8 hmL (Nat.le_succ_of_le h2lo))
    have hrg:(Instr.range 62 (.map (some (kb+1)))).run Tryz.prog wc=.ok (.pointer (some ⟨wc.heap.size,0,none⟩)) (wc.alloc (.mapIter (some (kb+1)) L.length #[] L.length)):=by
     have h1:=run_range_mapObj (P:=Tryz.prog) (t:=62) Tryz.underlying62 hmL
     rw [show (noteL L).length=L.length by simp [noteL]] at h1
     exact h1
    have O8:=hid (hbt.out.owns O7.out (by omega))
    have p3:=O8.out.cell_at (i:=3) rfl
    have pl:=O8.out.lt
    have HKL:=hid (HTK.out k L hdL hsL)
    clear hmL hdL hsL hWw8 hnt hbt k3 kl hidx h2lo h4lo
    go_wp2_with fail
    clear p3 pl hrg
    obtain ⟨r,hr10⟩:∃ r,wc.heap.size=r:=⟨_,rfl⟩
    have HR10:=hid hr10
    rw [hr10] at HL0
    generalize wc.alloc (.mapIter (some (kb+1)) L.length #[] L.length)=wA at *
    rw [hr10]
    clear hr10
    go_loopg [6] (L.length+1) (fun k v wr=>∃ (seen:List Nat) (last:Nat),Hid (LoopX w2 L (kb+1) r seen last k v wr))
    case atStart=>exact ⟨[],_,HL0.out⟩
    case round =>
     obtain ⟨seen,last,hL⟩:=hrel
     rcases hL.out.step HDL.out 0 with ⟨w9,hrun,hrow,hgw,hnd,hmm⟩ | ⟨j,t,w9,hrun,hent,hrow,hgw,hlt,hkk,hnext⟩
     ·obtain ⟨M,hM⟩:∃ M,metL L seen=M:=⟨_,rfl⟩
      have hml:=metL_len L seen
      rw [hM] at hrow hnd hmm hml
      rw [← hml] at hrow
      obtain ⟨va,vc,hv⟩:=loose_form hrow
      obtain ⟨m,hm⟩:∃ m,M.length=m:=⟨_,rfl⟩
      rw [hm] at hv
      have hmle:m≤1000002:=by
       rw [← hm,hml]
       have h1:=hL.out.sees.1
       have h2:=nodup_nats h1 hL.out.sees.2.1
       exact Nat.le_trans h2 HKL.out
      have hso:=sortInt_ok w9 w2.heap.size u6 M (by unfold reachN;omega) hrow
      rw [hm,hv] at hso
      have HSO:=hid hso
      have hsl:(M.mergeSort fun x y=>decide (x≤y)).length=m:=by rw [List.length_mergeSort,hm]
      have HCL:Hid (∀ w10,looseRow w10 w2.heap.size 3 1 (.slice va m vc) m (intVs (M.mergeSort fun x y=>decide (x≤y)))→Calls Tryz.prog 21 #[.slice va m vc] w10 fun e W'=>(∃ u,e=.returned u∧looseRow w10 w2.heap.size 3 1 u m (intVs (M.mergeSort fun x y=>decide (x≤y))))∧w10=W'):=hid fun w10 h=>by
       have h1:=clipInt_ok w10 w2.heap.size (.slice va m vc) (M.mergeSort fun x y=>decide (x≤y)) (by rw [hsl];exact h)
       rw [hsl] at h1
       exact h1
      have HFIN:Hid (∀ w10 u,w9.grownBy w10 u6.ownBlock→looseRow w10 w2.heap.size 3 1 u m (intVs (M.mergeSort fun x y=>decide (x≤y)))→Q (.returned (.tuple #[u,.bool (decide (0 < m))])) w10):=hid fun w10 u h1 h2=>by
       rw [← HQ.out]
       refine ⟨grew_loose hrow hgw h1,?_⟩
       rw [if_pos HASK.out]
       refine ⟨M.mergeSort fun x y=>decide (x≤y),u,by rw [hsl],by rw [hsl];exact h2,?_,fun x=>?_⟩
       ·exact sort_rise hnd
       ·rw [List.mem_mergeSort,hmm,HSL.out]
        rfl
      rw [hv] at HFIN
      subst hv
      clear hrow hnd hmm hml hgw hso hsl hm hL hM
      go_wp2_with fail
      refine HSO.out.mono ?_
      rintro e w10 ⟨rfl,hr10,hg10⟩
      have HR:=hid hr10
      have HG10:=hid hg10
      clear hr10 hg10
      go_wp2_with fail
      refine (HCL.out _ HR.out).mono ?_
      rintro e w11 ⟨⟨u,rfl,hu⟩,rfl⟩
      have HU:=hid hu
      clear hu
      go_wp2_with fail
      exact HFIN.out _ _ HG10.out HU.out
     ·obtain ⟨n9,hn9⟩:∃ n9,seen.length=n9:=⟨_,rfl⟩
      have hLX:=hL.out
      rw [hn9] at hrow hlt hnext
      obtain ⟨va,vc,hv⟩:=loose_form hrow
      subst hv
      obtain ⟨w12,hw12⟩:∃ w12,w9.alloc (.cells #[.int .i64 t] 3)=w12:=⟨_,rfl⟩
      have g12:Grew w9 w12:=hw12▸grew_alloc w9 _
      have o12:Owns w12 w9.heap.size [.int .i64 t] 3:=hw12▸Owns.alloc w9 _ _
      have HROW:=hid (row_but hrow (But.of_grew (F:=fun _=>False) g12) fun _ _=>id)
      have HLIM:=hid (Nat.le_trans hgw.size g12.size)
      have HNS:=hid (owns_newsO o12)
      have HKK:=hid hkk
      have HNX:=hid (hnext w12 · · · g12)
      have H63:=hid (show n9+1≤maxLen by have:=HKL.out;unfold maxLen;omega)
      have H64:=hid (show (n9+1) * 8≤140737488355328 by have:=HKL.out;omega)
      obtain ⟨i0,hi,hz0,hz1,hz2⟩:=info_parts info_int
      have HI0:=hid hi
      have HZ0:=hid hz0
      have HZ1:=hid hz1
      have HZ2:=hid hz2
      clear g12 o12 hrow hlt hnext hL hLX hkk hgw hn9 hi hz0 hz1 hz2
      go_wp2_with (at_builtin;refine wpList_append_loose w12 rfl _ _ 22 rfl w2.heap.size 3 i0 _ 1 8 Tryz.underlying22 HI0.out HZ0.out HZ1.out HZ2.out rfl (by decide) _ n9 (intVs (metL L seen)) rfl HROW.out ⟨w9.heap.size,0,none⟩ 1 1 [.int .i64 t] rfl rfl HNS.out (fun u hu=>by rw [List.mem_singleton.1 hu];rfl) (by decide) H63.out H64.out HLIM.out _ rfl ?_;intro gb cap w13 hown hgrow hat hlt5;have HOWN:=hid hown;have HGROW:=hid hgrow;clear hown hgrow hat hlt5)
      go_roundg (gk - 1)
      case measure=>exact HKK.out
      case rel=>exact ⟨_,_,hid (HNX.out _ _ _ HOWN.out HGROW.out)⟩
   ·have HX:=hid (HNO.out (by
     unfold askB
     rw [HCB.out]
     simp))
    go_enter Tryz.func5,Tryz.ntmps5
    go_wp2_with fail
    refine HH.out.mono ?_
    rintro e w1 ⟨rfl,rfl⟩
    go_wp2_with fail
    refine HL.out.mono ?_
    rintro e w2 ⟨rfl,rfl⟩
    go_wp2_with fail
    refine HCO.out.mono ?_
    rintro e w3 ⟨rfl,hg⟩
    have HG3:=hid hg
    clear hg
    go_wp2_with fail
    exact HX.out _ HG3.out
end Go.Proofs.YtppjmdanckdobaaGreatDoor
