/- samples.New: a grammar's book. -/
import Derived.Deep.DeepCutAuto
import Derived.Test.YtppjmdanckdobaaGreatDoorQR44
import Derived.Test.YtppjmdanckdobaaGreatDoorQR45
import Derived.Test.YtppjmdanckdobaaGreatDoorQR41
namespace Go.Proofs.YtppjmdanckdobaaGreatDoor
open Go.RowKit
open Lib (hid)
def NewIs (g:Gr) (W:World) (e:Ending) (W':World):Prop :=
 (e=.returned (.tuple #[.pointer none,.int .i64 1])∧Grew W W'∧(soundP g→∃ es M N,g.IsEmpty es∧IsReach (g.Once es) g.rules.length M∧IsReach g.rd0 g.rules.length N∧g.told es (at2 M) (at2 N)≠[])) ∨
 ∃ bk V,e=.returned (.tuple #[.pointer (some ⟨bk,0,none⟩),.int .i64 0])∧soundP g∧g.Fine∧BookFp W' bk V (bookOf g)∧Grew W W'
set_option maxHeartbeats 8000000 in
set_option maxRecDepth 40000 in
theorem snew_ok (g:Gr) (hfew:g.Few) (htot:∀ i (h:i < g.rules.length),g.rules[i].body.total≤3000) (W:World) (hT:Lib.Utf8Tabs 1 2 W) (v0 v1 v2 v3:Value) (hG:GrAt W W.heap.size (some v0) (some v1) (some v2) (some v3) g) :
  Calls Tryz.prog 11 #[.agg #[v0,v1,v2,v3]] W (NewIs g W):=by
 have hG0:=hG
 obtain ⟨q1,-,q2,q3,q4,q5,ra,rc,q6,-,hrules⟩:=hG0
 obtain rfl:=Option.some.inj q1
 obtain rfl:=Option.some.inj q2
 obtain rfl:=Option.some.inj q3
 obtain rfl:=Option.some.inj q6
 obtain ⟨Q,hQ⟩:∃ Q,NewIs g W=Q:=⟨_,rfl⟩
 rw [hQ]
 have HQ:=hid hQ
 clear hQ
 have hlen:=hfew.len
 have HFEW:=hid hfew
 have HTOT:=hid htot
 obtain ⟨f,hf⟩:∃ f,W.heap.size=f:=⟨_,rfl⟩
 have HFS:=hid hf
 obtain ⟨w1,hw1⟩:∃ w1,W.alloc (.cells #[.string g.name,.int .i64 g.bound,.int .i64 g.states,.slice ra g.rules.length rc] 44)=w1:=⟨_,rfl⟩
 have g1:Grew W w1:=hw1▸grew_alloc W _
 have o1:Owns w1 f [.string g.name,.int .i64 g.bound,.int .i64 g.states,.slice ra g.rules.length rc] 44:=hf▸hw1▸Owns.alloc W _ _
 have HG1:=hid g1
 have HO1:=hid o1
 have HGR:=hid hG
 have HS:=hid (sound_ok g (by omega) w1 (tabs_grew hT g1) _ _ _ _ ((hG.keep g1).mono g1.size))
 have c0:=o1.cell_at (i:=0) rfl
 have c1:=o1.cell_at (i:=1) rfl
 have c2:=o1.cell_at (i:=2) rfl
 have c3:=o1.cell_at (i:=3) rfl
 have cl:=o1.lt
 obtain ⟨L,hL⟩:∃ L,g.rules.length=L:=⟨_,rfl⟩
 have HL:=hid hL
 rw [hL] at c3 hw1 hlen HS HO1 ⊢
 clear g1 o1 hG q1 q2 q3 q4 q5 q6 hrules hT hL hfew htot
 go_enter Tryz.func11,Tryz.ntmps11
 go_wp2_with fail
 refine HS.out.mono ?_
 rintro e w2 ⟨⟨b,rfl,hb⟩,hg2⟩
 have HSP:=hid hb
 have HG2:=hid (HG1.out.trans hg2)
 have o2:=HO1.out.keep hg2
 have HO2:=hid o2
 have d0:=o2.cell_at (i:=0) rfl
 have d1:=o2.cell_at (i:=1) rfl
 have d2:=o2.cell_at (i:=2) rfl
 have d3:=o2.cell_at (i:=3) rfl
 have dl:=o2.lt
 clear o2 hg2 hb c0 c1 c2 c3 cl hw1 hf HS
 cases b
 ·go_wp2_with fail
  show Q (.returned (.tuple #[.pointer none,.int .i64 1])) _
  rw [← HQ.out]
  exact .inl ⟨rfl,HG2.out,fun h=>absurd (HSP.out.2 h) (by simp)⟩
 have HC:=hid (cfine_ok g HFEW.out w2 _ _ _ _ ((HGR.out.keep HG2.out).mono HG2.out.size))
 rw [HL.out] at HC
 go_wp2_with fail
 refine HC.out.mono ?_
 rintro e w3 ⟨es,M,N,rfl,he,hM,hN,hg3⟩
 have HFI:=hid (And.intro he (And.intro hM hN))
 have HG3:=hid (show Grew W w3 from HG2.out.trans hg3)
 have o3:=HO2.out.keep hg3
 have HO3:=hid o3
 obtain ⟨t,ht⟩:∃ t,(g.told es (at2 M) (at2 N)).isEmpty=t:=⟨_,rfl⟩
 have HTD:=hid ht
 rw [ht]
 clear o3 hg3 he hM hN d0 d1 d2 d3 dl ht HC HO2 HO1 HG1 HG2
 cases t
 ·go_wp2_with fail
  show Q (.returned (.tuple #[.pointer none,.int .i64 1])) _
  rw [← HQ.out]
  exact .inl ⟨rfl,HG3.out,fun _=>⟨es,M,N,HFI.out.1,HFI.out.2.1,HFI.out.2.2,fun e=>by have:=HTD.out;rw [e] at this;simp at this⟩⟩
 have HFINE:Hid g.Fine:=hid ⟨es,M,N,HFI.out.1,HFI.out.2.1,HFI.out.2.2,List.isEmpty_iff.1 HTD.out⟩
 have HSOUND:Hid (soundP g):=hid (HSP.out.1 (by simp))
 have HNM:Hid g.Names:=hid HFINE.out.names
 obtain ⟨B,hB⟩:∃ B,w3.heap.size=B:=⟨_,rfl⟩
 have HBB:=hid hB
 have HFB:=hid (show f < B by have:=HO3.out.lt;omega)
 have hmk:∀ (t:TypeId) (w:World),(Instr.makeMap t none).run Tryz.prog w=.ok (.map (some w.heap.size)) (w.alloc (.map #[] 0)):=fun _ _=>rfl
 obtain ⟨wA,hwA⟩:∃ wA,w3.alloc (.map #[] 0)=wA:=⟨_,rfl⟩
 obtain ⟨wB,hwB⟩:∃ wB,wA.alloc (.map #[] 0)=wB:=⟨_,rfl⟩
 obtain ⟨wC,hwC⟩:∃ wC,wB.alloc (.cells #[.map (some B),.map (some (B+1)),.slice none 0 0,.slice none 0 0,.slice none 0 0] 89)=wC:=⟨_,rfl⟩
 obtain ⟨wD,hwD⟩:∃ wD,wC.alloc (.cells #[.int .u8 1,.int .u8 3] 52)=wD:=⟨_,rfl⟩
 have zA:wA.heap.size=B+1:=by rw [← hwA,← hB];exact World.size_alloc _ _
 have zB:wB.heap.size=B+1+1:=by rw [← hwB,← zA];exact World.size_alloc _ _
 have zC:wC.heap.size=B+1+1+1:=by rw [← hwC,← zB];exact World.size_alloc _ _
 have gA:Grew w3 wA:=hwA▸grew_alloc w3 _
 have gB:Grew wA wB:=hwB▸grew_alloc wA _
 have gC:Grew wB wC:=hwC▸grew_alloc wB _
 have gD:Grew wC wD:=hwD▸grew_alloc wC _
 have hm1:∀ ty,(Instr.makeMap ty none).run Tryz.prog w3=.ok (.map (some B)) wA:=fun ty=>by rw [hmk,hwA,hB]
 have hm2:∀ ty,(Instr.makeMap ty none).run Tryz.prog wA=.ok (.map (some (B+1))) wB:=fun ty=>by rw [hmk,hwB,zA]
 have oM1:wD.heap[B]? = some (mapObj []):=by
  have h1:wA.heap[B]? = some (mapObj []):=by rw [← hwA,← hB];exact World.alloc_heap_new _ _
  rw [((gB.trans gC).trans gD).block B (by omega)];exact h1
 have oM2:wD.heap[B+1]? = some (mapObj []):=by
  have h1:wB.heap[B+1]? = some (mapObj []):=by rw [← hwB,← zA];exact World.alloc_heap_new _ _
  rw [(gC.trans gD).block (B+1) (by omega)];exact h1
 have oS:Owns wD (B+1+1) [.map (some B),.map (some (B+1)),.slice none 0 0,.slice none 0 0,.slice none 0 0] 89:=by
  have h1:Owns wC (B+1+1) [.map (some B),.map (some (B+1)),.slice none 0 0,.slice none 0 0,.slice none 0 0] 89:=by rw [← hwC,← zB];exact Owns.alloc wB _ _
  exact h1.keep gD
 have hso:SortsAt wD wC.heap.size [1,3]:=by
  have ho:Owns wD wC.heap.size [.int .u8 1,.int .u8 3] 52:=hwD▸Owns.alloc wC _ _
  refine ⟨ho.lt,fun k hk=>?_⟩
  have hk:k=0∨k=1:=by simp at hk;omega
  rcases hk with rfl | rfl
  ·exact ho.cell_at (i:=0) rfl
  ·exact ho.cell_at (i:=1) rfl
 have gC3:Grew w3 wC:=(gA.trans gB).trans gC
 have HGC:=hid gC3
 have HGD:=hid (HG3.out.trans (gC3.trans gD))
 have oC:=HO3.out.keep gC3
 have c0:=oC.cell_at (i:=0) rfl
 have c1:=oC.cell_at (i:=1) rfl
 have c2:=oC.cell_at (i:=2) rfl
 have c3:=oC.cell_at (i:=3) rfl
 have cl:=oC.lt
 have HOD:=hid (oC.keep gD)
 have hot:=mof_ok g [1,3] (by simp) wD _ _ _ _ ((HGR.out.keep HGD.out).mono HGD.out.size) (by rw [HL.out];omega) (B+1+1+1) 2 (zC▸hso)
 obtain ⟨T,hT⟩:∃ T,g.of [1,3]=T:=⟨_,rfl⟩
 have HT:=hid hT
 rw [hT,HL.out] at hot
 have HOT:=hid hot
 have HM1:=hid oM1
 have HM2:=hid oM2
 have HSB:=hid oS
 clear hmk hwA hwB gA gB gC gD gC3 oM1 oM2 oS hso oC hot hT zA hB HG3 HO3 HTD HFI HSP
 go_wp2_with fail
 refine HOT.out.mono ?_
 rintro e w4 ⟨tv,rfl,hrow,hg4⟩
 obtain ⟨ta,tc,rfl⟩:∃ a c,tv=.slice a T.length c:=loose_form hrow
 have HTI:=hid (loose_ints hrow)
 have htl9:T.length≤60:=by rw [← HT.out];have:=Gr.ofTo_len g [1,3] g.rules.length;unfold Gr.of;rw [HL.out] at this ⊢;omega
 have HG4:=hid (HGD.out.trans hg4)
 have hm1:w4.heap[B]? = some (mapObj []):=by rw [hg4.block B (Array.getElem?_eq_some_iff.1 HM1.out).1];exact HM1.out
 have hm2:w4.heap[B+1]? = some (mapObj []):=by rw [hg4.block (B+1) (Array.getElem?_eq_some_iff.1 HM2.out).1];exact HM2.out
 have HM14:=hid hm1
 have HM24:=hid hm2
 have HSB4:=hid (HSB.out.keep hg4)
 have HOG:=hid (HOD.out.keep hg4)
 have HRG:=hid ((HGR.out.keep HG4.out).mono (Nat.le_refl _))
 clear hrow hg4 hm1 hm2 c0 c1 c2 c3 cl HOT HM1 HM2 HSB HOD HGD HGC
 go_wp2_with fail
 go_loopw [28] (fun c wr=>∃ (j:Nat) (ka:Option Addr) (kc:Nat),c=.int .i64 j∧j≤T.length∧Hid (But (fun q=>q=B+1∨q=B+1+1) w4 wr)∧Hid (wr.heap[B+1]? = some (mapObj (nmapL (nmsTo g T j))))∧Hid (Owns wr (B+1+1) [.map (some B),.map (some (B+1)),.slice ka (kindsTo g T j).length kc,.slice none 0 0,.slice none 0 0] 89)∧Hid (looseRow wr w4.heap.size 3 1 (.slice ka (kindsTo g T j).length kc) (kindsTo g T j).length (intVs (kindsTo g T j)))) (fun c _=>T.length - (intOf c).toNat)
 case atStart=>exact ⟨0,none,0,rfl,by omega,But.refl _ _,HM24.out,HSB4.out,⟨rfl,.inl ⟨rfl,rfl⟩⟩⟩
 case round =>
  obtain ⟨j,ka,kc,rfl,hj,HB,HM,HOB,HKR⟩:=hrel
  by_cases hlt:j < T.length
  ·as_aux_lemma =>
   have hTj:(g.of [1,3])[j]? = some (T[j]):=by rw [HT.out];exact List.getElem?_eq_getElem hlt
   obtain ⟨k,hk,hTk,-⟩:=of_get hTj
   obtain ⟨ta',tc',hta,hin⟩:=HTI.out
   cases hta
   obtain ⟨tb,to',rfl,htl,htc⟩:=hin j hlt
   rw [hTk] at htc hTj
   have hne1:=cell_mapS htc HM24.out
   have hne2:=owns_not HSB4.out htc (by simp)
   have t0:=cell_butS HB.out htc (by rintro (e | e);exact hne1 e;exact hne2 e)
   have tl:=lt_of_cell t0
   have HNEW:=hid (nms_new HNM.out hTj hk)
   rw [HT.out] at HNEW
   have hget:T.getD j 0=(k:Int):=by rw [List.getD_eq_getElem?_getD,← HT.out,hTj];rfl
   have HNX:Hid (nmsTo g T (j+1)=nmsTo g T j++[(g.rules[k].name,j)]):=hid (by rw [nmsTo,hget,Gr.rAt_nat g hk])
   have HKX:Hid (kindsTo g T (j+1)=if g.rules[k].sort=1 then kindsTo g T j++[(j:Int)] else kindsTo g T j):=hid (by rw [kindsTo,hget,Gr.rAt_nat g hk])
   have HKL:=hid (kindsTo_len g T j)
   obtain ⟨K,hK⟩:∃ K,kindsTo g T j=K:=⟨_,rfl⟩
   obtain ⟨NMS,hNMS⟩:∃ K,nmsTo g T j=K:=⟨_,rfl⟩
   rw [hK] at HKX HKR HOB HKL
   rw [hNMS] at HNX HNEW HM
   obtain ⟨kl,hkl⟩:∃ n,K.length=n:=⟨_,rfl⟩
   have HKLE:=hid hkl
   rw [hkl] at HKR HOB HKL
   have hkL:k < L:=by rw [← HL.out];exact hk
   have HUP:=hid (fun w' (hg:Grew wr w')=>run_name_new (w:=w') (b:=B+1) (nm:=g.rules[k].name) (k:=j) (l:=NMS) (by rw [hg.block _ (Array.getElem?_eq_some_iff.1 HM.out).1];exact HM.out) HNEW.out)
   have hblA:=HB.out.below (show W.heap.size≤w4.heap.size from HG4.out.size) (fun q e=>by have:=HFS.out;have:=HFB.out;omega)
   have hrgA:=HRG.out.keep hblA
   obtain ⟨-,-,-,-,-,-,xra,xrc,hxr,-,hrules⟩:=hrgA
   cases hxr
   obtain ⟨rb,ro,rfl,hrb,hrule⟩:=hrules.get hk
   simp only [Nat.zero_add] at hrule
   obtain ⟨x2,x3,x4,x5,x6,f0,f1,f2,f3,f4,f5,f6,f7,f8,f9,-,hbody⟩:=hrule.vals
   have gl:rb < wr.heap.size:=lt_of_cell f0
   have ogA:=HB.out.owns HOG.out (by have:=HFB.out;omega)
   have e3:=ogA.cell_at (i:=3) rfl
   have el:=ogA.lt
   have n1:=HOB.out.cell_at (i:=1) rfl
   have nl:=HOB.out.lt
   clear hTj hTk hin htc hne1 hne2 hget hrules hrule hK hNMS hkl f1 f2 f3 f4 f5 f6 f7 f8 f9 ogA hblA hbody
   go_upto_region 7 with fail
   refine wp_region_hav_lit follows (by kernel_rfl) ?_
   repeat ((first | refine HavG.skip (fun _=>rfl) ?_ | (refine HavG.val (fun _=>rfl) ?_ (fun x w hw _=>?_) ?_;rotate_left;(focus (have hc:=hw.cells;clear hw;go_simp;first | done | rfl))));simp only [Act.put,sia,scz,scs])
   refine HavG.tail (by kernel_rfl) (by kernel_rfl) (fun x w hw _=>?_)
   have HUW:=hid (HUP.out w hw)
   have HW9:=hid hw
   clear hw HUP t0 tl f0 gl e3 el n1 nl
   go_wp2_with fail
   rw [HUW.out]
   simp only [Result.andThen]
   have hMw:w.heap[B+1]? = some (mapObj (nmapL NMS)):=by rw [HW9.out.block _ (Array.getElem?_eq_some_iff.1 HM.out).1];exact HM.out
   have HB9:=hid (HB.out.trans (But.trans (But.of_grew (F:=fun q=>q=B+1∨q=B+1+1) HW9.out) (But.put (b:=B+1) (o:=mapObj (nmapL (NMS++[(g.rules[k].name,j)]))) (F:=fun q=>q=B+1∨q=B+1+1) (.inl rfl)) (fun _ _ h=>h)) (fun _ _ h=>h))
   have HM9:=hid (putObj_same (Array.getElem?_eq_some_iff.1 hMw).1 (mapObj (nmapL (NMS++[(g.rules[k].name,j)]))))
   have hbw:=(But.of_grew (F:=fun q=>q=B+1) HW9.out).trans (But.put (b:=B+1) (o:=mapObj (nmapL (NMS++[(g.rules[k].name,j)]))) (F:=fun q=>q=B+1) rfl) (fun _ _ h=>h)
   have HOB9:=hid (hbw.owns HOB.out (by omega))
   have HKR9:=hid (hbw.row HKR.out fun q hq e=>row_mapS HKR.out HM.out q hq e)
   clear hMw hbw
   generalize putObj w (B+1) (mapObj (nmapL (NMS++[(g.rules[k].name,j)])))=w9 at *
   have hblB:=HB9.out.below (show W.heap.size≤w4.heap.size from HG4.out.size) (fun q e=>by have:=HFS.out;have:=HFB.out;omega)
   have hrgB:=HRG.out.keep hblB
   obtain ⟨-,-,-,-,-,-,xra,xrc,hxr,-,hrules⟩:=hrgB
   cases hxr
   obtain ⟨rb',ro',hre,hrb,hrule⟩:=hrules.get hk
   cases hre
   simp only [Nat.zero_add] at hrule
   obtain ⟨x2,x3,x4,x5,x6,f0,f1,f2,f3,f4,f5,f6,f7,f8,f9,-,hbody⟩:=hrule.vals
   have gl:rb < w9.heap.size:=lt_of_cell f0
   have ogB:=HB9.out.owns HOG.out (by have:=HFB.out;omega)
   have e3:=ogB.cell_at (i:=3) rfl
   have el:=ogB.lt
   have n2:=HOB9.out.cell_at (i:=2) rfl
   have nl:=HOB9.out.lt
   clear hrules hrule f0 f2 f3 f4 f5 f6 f7 f8 f9 ogB hblB hbody
   by_cases hs1:g.rules[k].sort=1
   ·have hsb:(g.rules[k].sort == 1)=true:=by rw [hs1];rfl
    rw [if_pos hs1] at HKX
    go_upto_region 9 with fail
    clear f1 gl e3 el hsb hs1
    obtain ⟨w10,hw10⟩:∃ w10,w9.alloc (.cells #[.int .i64 (j:Int)] 3)=w10:=⟨_,rfl⟩
    have g10:Grew w9 w10:=hw10▸grew_alloc w9 _
    have o10:Owns w10 w9.heap.size [.int .i64 (j:Int)] 3:=hw10▸Owns.alloc w9 _ _
    have HNW:=hid (owns_newsO o10)
    have HG10:=hid g10
    have HKR10:=hid ((But.of_grew (F:=fun _=>False) g10).row HKR9.out (fun _ _ h=>h))
    have HONE:Hid (∀ x∈[Value.int .i64 (j:Int)],x.oneCell'=true):=hid fun x hx=>by rw [List.mem_singleton.1 hx];rfl
    obtain ⟨i0,hi,hz0,hz1,hz2⟩:=info_parts info_int
    have HI:=hid hi
    have HZ0:=hid hz0
    have HZ1:=hid hz1
    have HZ2:=hid hz2
    have hkl60:kl≤60:=by have:=HKL.out;omega
    have h63:kl+1≤maxLen:=by unfold maxLen;omega
    have h64:(kl+1) * 8≤140737488355328:=by omega
    have HLL:=hid (Nat.le_trans HB9.out.size g10.size)
    clear g10 o10 hi hz0 hz1 hz2
    have HAP:Hid (∀ gk cap' w11,looseRow w11 w4.heap.size 3 1 (.slice (some ⟨gk,0,none⟩) (kl+1) cap') (kl+1) (intVs K++[Value.int .i64 (j:Int)])→w10.grownBy w11 (Value.slice ka kl kc).ownBlock →
      B+1+1 < w11.heap.size∧w11.cell? ⟨B+1+1,2,none⟩=some (.slice ka kl kc)∧w11.frozen? ⟨B+1+1,2,none⟩=false ∧
      Hid (Owns (w11.setCell ⟨B+1+1,2,none⟩ (.slice (some ⟨gk,0,none⟩) (kl+1) cap')) (B+1+1) [.map (some B),.map (some (B+1)),.slice (some ⟨gk,0,none⟩) (kl+1) cap',.slice none 0 0,.slice none 0 0] 89) ∧
      Hid (But (fun q=>q=B+1∨q=B+1+1) w4 (w11.setCell ⟨B+1+1,2,none⟩ (.slice (some ⟨gk,0,none⟩) (kl+1) cap'))) ∧
      Hid ((w11.setCell ⟨B+1+1,2,none⟩ (.slice (some ⟨gk,0,none⟩) (kl+1) cap')).heap[B+1]? = some (mapObj (nmapL (NMS++[(g.rules[k].name,j)])))) ∧
      Hid (looseRow (w11.setCell ⟨B+1+1,2,none⟩ (.slice (some ⟨gk,0,none⟩) (kl+1) cap')) w4.heap.size 3 1 (.slice (some ⟨gk,0,none⟩) (kl+1) cap') (kl+1) (intVs K++[Value.int .i64 (j:Int)]))):=hid fun gk cap' w11 hown hgrow=>by
     have hgb:=But.grown (F:=fun q=>(Value.slice ka kl kc).ownBlock=some q) hgrow fun _ e=>e
     have hkb:∀ q,(Value.slice ka kl kc).ownBlock=some q→w4.heap.size≤q:=fun q hq=>(row_type HKR10.out hq).1
     have hb4:B+1+1 < w4.heap.size:=HSB4.out.lt
     have O11:=hgb.owns (HOB9.out.keep HG10.out) (fun e=>by have:=hkb _ e;omega)
     have hM10:w10.heap[B+1]? = some (mapObj (nmapL (NMS++[(g.rules[k].name,j)]))):=by rw [HG10.out.block _ (Array.getElem?_eq_some_iff.1 HM9.out).1];exact HM9.out
     have hM11:w11.heap[B+1]? = some (mapObj (nmapL (NMS++[(g.rules[k].name,j)]))):=by rw [hgb.block _ (Array.getElem?_eq_some_iff.1 hM10).1 (fun e=>by have:=hkb _ e;omega)];exact hM10
     have hB11:But (fun q=>q=B+1∨q=B+1+1) w4 w11:=(HB9.out.trans (But.of_grew (F:=fun _=>False) HG10.out) (fun _ _ h=>h.elim)).trans hgb (fun i hi e=>by have:=hkb _ e;omega)
     have hb12:=set_but (i:=2) (v:=.slice (some ⟨gk,0,none⟩) (kl+1) cap') O11
     refine ⟨O11.lt,O11.cell_at (i:=2) rfl,O11.free 2,hid (O11.set 2 (.slice (some ⟨gk,0,none⟩) (kl+1) cap')),hid (hB11.trans hb12 (fun _ _ e=>.inr e)),hid ?_,hid (hb12.row hown fun q hq e=>type_ne (row_type hown hq).2.2 (owns_type O11) (by decide) e)⟩
     rw [hb12.block _ (Array.getElem?_eq_some_iff.1 hM11).1 (by omega)]
     exact hM11
    go_wp2_with (at_builtin;refine wpList_append_loose w10 rfl _ _ 22 rfl w4.heap.size 3 i0 _ 1 8 Tryz.underlying22 HI.out HZ0.out HZ1.out HZ2.out rfl (by decide) _ kl (intVs K) rfl HKR10.out ⟨w9.heap.size,0,none⟩ 1 1 [Value.int .i64 (j:Int)] rfl rfl HNW.out HONE.out (by decide) h63 h64 HLL.out _ rfl ?_;intro gk cap' w11 hown hgrow hat hlt11;obtain ⟨nl4,n4,ne4,O12,HB12,HM12,HR12⟩:=HAP.out gk cap' w11 hown hgrow;clear hown hgrow hat hlt11 n2 nl)
    refine ⟨⟨j+1,some ⟨gk,0,none⟩,cap',by go_num,by omega,HB12.out,by rw [HNX.out];exact HM12.out,?_,?_⟩,by simp [intOf];omega⟩
    ·rw [HKX.out,List.length_append,HKLE.out];exact O12.out
    ·rw [HKX.out,List.length_append,HKLE.out,intVs_snoc];exact HR12.out
   ·have hsb:(g.rules[k].sort == 1)=false:=beq_eq_false_iff_ne.2 hs1
    rw [if_neg hs1] at HKX
    go_wp2_with fail
    refine ⟨⟨j+1,ka,kc,by go_num,by omega,HB9.out,by rw [HNX.out];exact HM9.out,?_,?_⟩,by simp [intOf];omega⟩
    ·rw [HKX.out,HKLE.out];exact HOB9.out
    ·rw [HKX.out,HKLE.out];exact HKR9.out
  ·obtain rfl:j=T.length:=by omega
   have hblB:Below W.heap.size w4 wr:=HB.out.below HG4.out.size (fun q e=>by have:=HFS.out;have:=HFB.out;omega)
   have HGW:=hid (show Grew W wr from Below.trans HG4.out hblB)
   have ogW:=HB.out.owns HOG.out (by have:=HFB.out;omega)
   have e0:=ogW.cell_at (i:=0) rfl
   have e1:=ogW.cell_at (i:=1) rfl
   have e2:=ogW.cell_at (i:=2) rfl
   have e3:=ogW.cell_at (i:=3) rfl
   have el:=ogW.lt
   have hmB:wr.heap[B]? = some (mapObj []):=by rw [HB.out.block B (Array.getElem?_eq_some_iff.1 HM14.out).1 (by omega)];exact HM14.out
   obtain ⟨w5,hw5⟩:∃ w5,wr.alloc (.cells #[.int .u8 0] 52)=w5:=⟨_,rfl⟩
   have g5:Grew wr w5:=hw5▸grew_alloc wr _
   have hso:SortsAt w5 wr.heap.size [0]:=by
    have ho:Owns w5 wr.heap.size [.int .u8 0] 52:=hw5▸Owns.alloc wr _ _
    refine ⟨ho.lt,fun k hk=>?_⟩
    have hk:k=0:=by simp at hk;omega
    subst hk
    exact ho.cell_at (i:=0) rfl
   have hop:=mof_ok g [0] (by simp) w5 _ _ _ _ ((HGR.out.keep (HGW.out.trans g5)).mono (HGW.out.trans g5).size) (by rw [HL.out];omega) wr.heap.size 1 hso
   obtain ⟨P,hP⟩:∃ P,g.of [0]=P:=⟨_,rfl⟩
   have HP:=hid hP
   have HP0:Hid (0 < P.length):=hid (hP▸HFINE.out.start)
   rw [hP,HL.out] at hop
   have HOP:=hid hop
   have HG5:=hid g5
   have HOGW:=hid ogW
   have HMB:=hid hmB
   obtain ⟨K,hK⟩:∃ K,kindsTo g T T.length=K:=⟨_,rfl⟩
   have HKK:=hid hK
   have HKL:=hid (kindsTo_len g T T.length)
   rw [hK] at HKR HOB HKL
   obtain ⟨kl,hkl⟩:∃ n,K.length=n:=⟨_,rfl⟩
   have HKLE:=hid hkl
   rw [hkl] at HKR HOB HKL
   have hzB:B+1+1 < wr.heap.size:=HOB.out.lt
   clear hblB ogW hmB g5 hso hop hP hK hkl
   go_wp2_with fail
   refine HOP.out.mono ?_
   rintro e w6 ⟨pv,rfl,hrow,hg6⟩
   obtain ⟨pa,pc,rfl⟩:∃ a c,pv=.slice a P.length c:=loose_form hrow
   have HPI:=hid (loose_ints hrow)
   have hpl9:P.length≤60:=by rw [← HP.out];have:=Gr.ofTo_len g [0] g.rules.length;unfold Gr.of;rw [HL.out] at this ⊢;omega
   have hg56:=HG5.out.trans hg6
   have HG6:=hid (HGW.out.trans hg56)
   have HMB6:=hid (show w6.heap[B]? = some (mapObj []) by rw [hg56.block B (Array.getElem?_eq_some_iff.1 HMB.out).1];exact HMB.out)
   have HMT6:=hid (show w6.heap[B+1]? = some (mapObj (nmapL (nmsTo g T T.length))) by rw [hg56.block (B+1) (Array.getElem?_eq_some_iff.1 HM.out).1];exact HM.out)
   have HOB6:=hid (HOB.out.keep hg56)
   have HKR6:=hid ((But.of_grew (F:=fun _=>False) hg56).row HKR.out (fun _ _ h=>h))
   have HOG6:=hid (HOGW.out.keep hg56)
   have HRG6:=hid ((HGR.out.keep HG6.out).mono (Nat.le_refl _))
   have HK4:=hid (show B+1+1 < w4.heap.size from HSB4.out.lt)
   clear hrow hg6 hg56 e0 e1 e2 e3 el HOP HMB HM HOB HKR HOGW HGW HB HG5 hw5 hzB HM14 HM24 HSB4 HRG HOG HTI
   go_wp2_with fail
   clear htl9
   go_loopw [66] (fun c wr=>∃ (j:Nat) (ba:Option Addr) (bc:Nat) (fa:Option Addr) (fc:Nat),c=.int .i64 j∧j≤P.length∧Hid (But (fun q=>q=B∨q=B+1+1) w6 wr)∧Hid (wr.heap[B]? = some (mapObj (nmapL (nmsTo g P j))))∧Hid (Owns wr (B+1+1) [.map (some B),.map (some (B+1)),.slice ka kl kc,.slice ba j bc,.slice fa j fc] 89)∧Hid (SubsFp wr (fun b=>w6.heap.size≤b∧b < wr.heap.size∧(Value.slice ba j bc).ownBlock≠some b∧(Value.slice fa j fc).ownBlock≠some b) w6.heap.size (.slice ba j bc) (bodsTo g P j))∧Hid (looseRow wr w6.heap.size 91 2 (.slice fa j fc) j (noneVs j))) (fun c _=>P.length - (intOf c).toNat)
   case atStart=>exact ⟨0,none,0,none,0,rfl,by omega,But.refl _ _,HMB6.out,HOB6.out,SubsFp.nil _ _ _,⟨rfl,.inl ⟨rfl,rfl⟩⟩⟩
   case round =>
    obtain ⟨j,ba,bc,fa,fc,rfl,hj,HB,HM,HOB,HSU,HFR⟩:=hrel
    by_cases hlt:j < P.length
    ·as_aux_lemma =>
     have hPj:(g.of [0])[j]? = some (P[j]):=by rw [HP.out];exact List.getElem?_eq_getElem hlt
     obtain ⟨k,hk,hPk,-⟩:=of_get hPj
     obtain ⟨pa',pc',hpa,hin⟩:=HPI.out
     cases hpa
     obtain ⟨pb,po',rfl,hpl,hpc⟩:=hin j hlt
     rw [hPk] at hpc hPj
     have hne1:=cell_mapS hpc HMB6.out
     have hne2:=owns_not HOB6.out hpc (by simp)
     have t0:=cell_butS HB.out hpc (by rintro (e | e);exact hne1 e;exact hne2 e)
     have tl:=lt_of_cell t0
     have HNEW:=hid (nms_new HNM.out hPj hk)
     rw [HP.out] at HNEW
     have hget:P.getD j 0=(k:Int):=by rw [List.getD_eq_getElem?_getD,← HP.out,hPj];rfl
     have HNX:Hid (nmsTo g P (j+1)=nmsTo g P j++[(g.rules[k].name,j)]):=hid (by rw [nmsTo,hget,Gr.rAt_nat g hk])
     have HBX:Hid (bodsTo g P (j+1)=bodsTo g P j++[g.rules[k].body]):=hid (by rw [bodsTo,hget,Gr.rAt_nat g hk])
     have HBL:=hid (bodsTo_len g P j)
     have HTB:=hid (HTOT.out k hk)
     obtain ⟨NMS,hNMS⟩:∃ K,nmsTo g P j=K:=⟨_,rfl⟩
     rw [hNMS] at HNX HNEW HM
     have hkL:k < L:=by rw [← HL.out];exact hk
     have HUP:=hid (fun w' (hg:Grew wr w')=>run_name_new (w:=w') (b:=B) (nm:=g.rules[k].name) (k:=j) (l:=NMS) (by rw [hg.block _ (Array.getElem?_eq_some_iff.1 HM.out).1];exact HM.out) HNEW.out)
     have hblA:=HB.out.below (show W.heap.size≤w6.heap.size from HG6.out.size) (fun q e=>by have:=HFS.out;have:=HFB.out;omega)
     have hrgA:=HRG6.out.keep hblA
     obtain ⟨-,-,-,-,-,-,xra,xrc,hxr,-,hrules⟩:=hrgA
     cases hxr
     obtain ⟨rb,ro,rfl,hrb,hrule⟩:=hrules.get hk
     simp only [Nat.zero_add] at hrule
     obtain ⟨x2,x3,x4,x5,x6,f0,f1,f2,f3,f4,f5,f6,f7,f8,f9,-,hbody⟩:=hrule.vals
     have gl:rb < wr.heap.size:=lt_of_cell f0
     have ogA:=HB.out.owns HOG6.out (by have:=HFB.out;omega)
     have e3:=ogA.cell_at (i:=3) rfl
     have el:=ogA.lt
     have n0:=HOB.out.cell_at (i:=0) rfl
     have nl:=HOB.out.lt
     clear hPj hPk hin hpc hne1 hne2 hget hrules hrule hNMS f1 f2 f3 f4 f5 f6 f7 f8 f9 ogA hblA hbody
     go_upto_region 14 with fail
     refine wp_region_hav_lit follows (by kernel_rfl) ?_
     repeat ((first | refine HavG.skip (fun _=>rfl) ?_ | (refine HavG.val (fun _=>rfl) ?_ (fun x w hw _=>?_) ?_;rotate_left;(focus (have hc:=hw.cells;clear hw;go_simp;first | done | rfl))));simp only [Act.put,sia,scz,scs])
     refine HavG.tail (by kernel_rfl) (by kernel_rfl) (fun x w hw _=>?_)
     have HUW:=hid (HUP.out w hw)
     have HW9:=hid hw
     clear hw HUP t0 tl f0 gl e3 el n0 nl
     go_wp2_with fail
     rw [HUW.out]
     simp only [Result.andThen]
     have hMw:w.heap[B]? = some (mapObj (nmapL NMS)):=by rw [HW9.out.block _ (Array.getElem?_eq_some_iff.1 HM.out).1];exact HM.out
     have HB9:=hid (HB.out.trans (But.trans (But.of_grew (F:=fun q=>q=B∨q=B+1+1) HW9.out) (But.put (b:=B) (o:=mapObj (nmapL (NMS++[(g.rules[k].name,j)]))) (F:=fun q=>q=B∨q=B+1+1) (.inl rfl)) (fun _ _ h=>h)) (fun _ _ h=>h))
     have HM9:=hid (putObj_same (Array.getElem?_eq_some_iff.1 hMw).1 (mapObj (nmapL (NMS++[(g.rules[k].name,j)]))))
     have hbw:=(But.of_grew (F:=fun q=>q=B) HW9.out).trans (But.put (b:=B) (o:=mapObj (nmapL (NMS++[(g.rules[k].name,j)]))) (F:=fun q=>q=B) rfl) (fun _ _ h=>h)
     have HOB9:=hid (hbw.owns HOB.out (by omega))
     have HFR9:=hid (hbw.row HFR.out fun q hq e=>row_mapS HFR.out HM.out q hq e)
     have hB6:B < w6.heap.size:=(Array.getElem?_eq_some_iff.1 HMB6.out).1
     have HSU9:=hid (HSU.out.keep (T:=fun b=>w6.heap.size≤b∧b < (putObj w B (mapObj (nmapL (NMS++[(g.rules[k].name,j)])))).heap.size∧(Value.slice ba j bc).ownBlock≠some b∧(Value.slice fa j fc).ownBlock≠some b) (fun b hb=>⟨⟨hb.1,Nat.lt_of_lt_of_le hb.2.1 hbw.size,hb.2.2⟩,hbw.block b hb.2.1 (by omega)⟩) (fun b hb=>by
      obtain ⟨us,k1,k2,k3⟩:=HSU.out
      obtain ⟨q1,q2,-⟩:=row_type k2 hb
      exact hbw.block b q2 (by omega)))
     clear hMw hbw hB6
     generalize putObj w B (mapObj (nmapL (NMS++[(g.rules[k].name,j)])))=w9 at *
     have hblB:=HB9.out.below (show W.heap.size≤w6.heap.size from HG6.out.size) (fun q e=>by have:=HFS.out;have:=HFB.out;omega)
     have hrgB:=HRG6.out.keep hblB
     obtain ⟨-,-,-,-,-,-,xra,xrc,hxr,-,hrules⟩:=hrgB
     cases hxr
     obtain ⟨rb',ro',hre,hrb,hrule⟩:=hrules.get hk
     cases hre
     simp only [Nat.zero_add] at hrule
     obtain ⟨x2,x3,x4,x5,x6,f0,f1,f2,f3,f4,f5,f6,f7,f8,f9,-,hbody⟩:=hrule.vals
     have gl:rb < w9.heap.size:=lt_of_cell f0
     have ogB:=HB9.out.owns HOG6.out (by have:=HFB.out;omega)
     have e3:=ogB.cell_at (i:=3) rfl
     have el:=ogB.lt
     have n3:=HOB9.out.cell_at (i:=3) rfl
     have nl:=HOB9.out.lt
     obtain ⟨m0,m1,m2,m3,m4,m5,m6,m7,m8,rfl,rfl,rfl,rfl,rfl⟩:=hbody.forms
     obtain ⟨bd,hbd⟩:∃ bd,g.rules[k].body=bd:=⟨_,rfl⟩
     rw [hbd] at hbody HBX HTB
     have HNB:=hid hbody
     have HGW9:=hid (show Grew W w9 from Below.trans HG6.out hblB)
     have HCALL:Hid (∀ w,Grew w9 w→Calls Tryz.prog 30 #[.agg #[.int .u8 m0,.string m1,.string m2,.slice m3 m4 m5,.slice m6 m7 m8]] w (CopyIs bd w)):=hid fun w hw =>
      ncopy_ok bd HTB.out w _ _ _ _ _ ((HNB.out.keep (hw.mono HGW9.out.size)).mono (HGW9.out.trans hw).size)
     clear hrules hrule f0 f1 f7 f8 f9 ogB hblB hbody hbd
     go_upto_region 15 with fail
     go_cut [] (fun wx=>∃ (ba':Option Addr) (bc':Nat),Hid (But (fun q=>q=B∨q=B+1+1) w6 wx)∧Hid (wx.heap[B]? = some (mapObj (nmapL (NMS++[(g.rules[k].name,j)]))))∧Hid (Owns wx (B+1+1) [.map (some B),.map (some (B+1)),.slice ka kl kc,.slice ba' (j+1) bc',.slice fa j fc] 89)∧Hid (SubsFp wx (fun b=>w6.heap.size≤b∧b < wx.heap.size∧(Value.slice ba' (j+1) bc').ownBlock≠some b∧(Value.slice fa j fc).ownBlock≠some b) w6.heap.size (.slice ba' (j+1) bc') (bodsTo g P (j+1)))∧Hid (looseRow wx w6.heap.size 91 2 (.slice fa j fc) j (noneVs j)))
     case first =>
      refine wp_region_havA_lit follows (by kernel_rfl) ?_
      iterate 10 ((first | refine HavA.skip (fun _=>rfl) ?_ | (refine HavA.val (fun _=>rfl) ?_ (fun x w hw _=>?_) ?_;rotate_left;(focus (have hc:=hw.cells;clear hw;go_simp;first | done | rfl))));simp only [Act.put,sia,scz,scs])
      refine HavA.any (fun _=>rfl) (CpA bd w9.heap.size) (fun _ _ _ hg h=>h.keep hg) (fun x w hw hd=>?_) ?_
      ·clear hd
       have HW:=hid hw
       clear hw
       go_simp
       refine (HCALL.out w HW.out).mono ?_
       rintro e w' ⟨x0,x1,x2,x3,x4,rfl,hn,hg⟩
       exact ⟨hg,x0,x1,x2,x3,x4,rfl,hn.keep fun b hb=>⟨⟨Nat.le_trans HW.out.size hb.1,hb.2⟩,rfl⟩⟩
      simp only [Act.put,sia,scz,scs]
      iterate 1 ((first | refine HavA.skip (fun _=>rfl) ?_ | (refine HavA.val (fun _=>rfl) ?_ (fun x w hw _=>?_) ?_;rotate_left;(focus (have hc:=hw.cells;clear hw;go_simp;first | done | rfl))));simp only [Act.put,sia,scz,scs])
      refine HavA.any (fun _=>rfl) (ZeR w9.heap.size) (fun _ _ _ hg h=>h.keep hg) (fun x w hw hd=>?_) ?_
      ·have HW:=hid hw
       clear hd hw
       obtain ⟨BU,hBU⟩:∃ f,f=Instr.buildSlice 27 1:=⟨_,rfl⟩
       have hbs:=build_node1 w 0 ⟨#[]⟩ ⟨#[]⟩ none 0 0 none 0 0
       rw [← hBU] at hbs
       rw [exec_slice (w':=w.alloc (.cells #[.int .u8 0,.string { data:=#[] },.string { data:=#[] },.slice none 0 0,.slice none 0 0] 80)) BU rfl hBU (v:=.slice (some ⟨w.heap.size,0,none⟩) 1 1) (by clear hBU;go_simp)]
       exact ⟨grew_alloc w _,_,rfl,HW.out.size,Owns.alloc w _ _⟩
      simp only [Act.put,sia,scz,scs]
      refine HavA.tail (by kernel_rfl) (fun x w10 hg hd=>?_)
      obtain ⟨x0,x1,x2,x3,x4,hx,hn⟩:=hd _ (List.mem_append_left _ (List.mem_append_right _ (List.mem_singleton.2 rfl)))
      obtain ⟨t,hx2,ht,hot⟩:=hd _ (List.mem_append_right _ (List.mem_singleton.2 rfl))
      dsimp only at hx hx2
      obtain ⟨y0,y1,y2,y3,y4,y5,y6,y7,y8,rfl,rfl,rfl,rfl,rfl⟩:=hn.forms
      simp only [hx,hx2]
      clear hd hx hx2
      have HN10:=hid hn
      have HG10:=hid hg
      have HNW:=hid (owns_newsO hot)
      have HONE:Hid (∀ x∈[Value.int .u8 0,.string { data:=#[] },.string { data:=#[] },.slice none 0 0,.slice none 0 0],x.oneCell'=true):=hid fun x hx=>by
       simp only [List.mem_cons,List.not_mem_nil,or_false] at hx
       rcases hx with rfl | rfl | rfl | rfl | rfl<;>rfl
      obtain ⟨us,k1,k2,k3⟩:=HSU9.out
      rw [HBL.out] at k1 k2
      have hrow10:=(But.of_grew (F:=fun _=>False) hg).row k2 (fun _ _ h=>h)
      have HROW10:=hid hrow10
      have HKT:=hid fun q hq=>(row_type k2 (k:=q) hq).1
      have HKS:=hid fun q hq=>(row_type k2 (k:=q) hq).2.1
      have HK1:=hid k1
      have HK3:=hid k3
      obtain ⟨i0,hi,hz0,hz1,hz2⟩:=info_parts info_node
      have h63:j+1≤maxLen:=by unfold maxLen;omega
      have h64:(j+1) * 88≤140737488355328:=by omega
      have HLL:=hid (Nat.le_trans HB9.out.size hg.size)
      clear hn hg hot k1 k2 k3 hrow10 n3 nl gl e3 el f2 f3 f4 f5 f6
      refine wpAny_all (rs:=[13]) (by kernel_rfl) (by simp) (fun i hi=>?_)
      obtain rfl:=List.mem_singleton.1 hi
      refine wpOp_at rfl rfl ?_
      refine wp_append_loose w10 _ _ 27 rfl w6.heap.size 80 i0 _ 5 88 Tryz.underlying27 (by assumption) hz0 hz1 hz2 rfl (by decide) _ j (us.flatMap v5) rfl HROW10.out ⟨t,0,none⟩ 1 1 [Value.int .u8 0,.string { data:=#[] },.string { data:=#[] },.slice none 0 0,.slice none 0 0] rfl rfl HNW.out HONE.out (by decide) h63 h64 HLL.out _ rfl ?_
      intro gb cap' w11 hown hgrow hat hlt11
      simp only [List.getElem_toArray,List.getElem_cons_succ,List.getElem_cons_zero,Act.put,sia,scz,scs]
      refine wpAny_take (i:=14) (v:=.pointer (some ⟨gb,j * 5,none⟩)) rfl (by kernel_rfl) (by kernel_rfl) (by kernel_rfl) (fun _ _ _ h=>h) (.inl ⟨rfl,fun w=>?_⟩) ?_
      ·clear hown hgrow hat hlt11 h63 h64 hz0 hz1 hz2
       go_simp
       intro h
       omega
      simp only [List.getElem_toArray,List.getElem_cons_succ,List.getElem_cons_zero,Act.put,sia,scz,scs]
      refine wpAny_take (i:=16) (v:=.pointer (some ⟨B+1+1,0,none⟩)) rfl (by kernel_rfl) (by kernel_rfl) (by kernel_rfl) (fun _ _ _ h=>h) (.inl ⟨rfl,fun w=>?_⟩) ?_
      ·clear hown hgrow hat hlt11 h63 h64 hz0 hz1 hz2
       go_simp
      simp only [List.getElem_toArray,List.getElem_cons_succ,List.getElem_cons_zero,Act.put,sia,scz,scs]
      refine wpAny_take (i:=17) (v:=.pointer (some ⟨B+1+1,3,none⟩)) rfl (by kernel_rfl) (by kernel_rfl) (by kernel_rfl) (fun _ _ _ h=>h) (.inl ⟨rfl,fun w=>?_⟩) ?_
      ·clear hown hgrow hat hlt11 h63 h64 hz0 hz1 hz2
       go_simp
      simp only [List.getElem_toArray,List.getElem_cons_succ,List.getElem_cons_zero,Act.put,sia,scz,scs]
      have hgb:=But.grown (F:=fun q=>(Value.slice ba j bc).ownBlock=some q) hgrow fun _ e=>e
      have hb6:B+1+1 < w6.heap.size:=HOB6.out.lt
      have hg6:w6.heap.size≤gb:=by
       rcases hat with e | e
       ·exact HKT.out _ e
       ·have:=HLL.out;omega
      have HGB6:=hid hg6
      have O11:=hgb.owns (HOB9.out.keep HG10.out) (fun e=>by have:=HKT.out _ e;omega)
      have HO11:=hid O11
      have HOWN:=hid hown
      have hxl:(us.flatMap v5).length=j * 5:=by rw [fmap_len v5 5 v5_len,HK1.out]
      obtain ⟨hset,hbset⟩:=loose_set5 hown hxl (.int .u8 y0) (.string y1) (.string y2) (.slice y3 y4 y5) (.slice y6 y7 y8)
      have HSET:=hid hset
      have HBSET:=hid hbset
      have hxl2:∀ i,i < 5→j * 5+i < (us.flatMap v5++[Value.int .u8 0,.string { data:=#[] },.string { data:=#[] },.slice none 0 0,.slice none 0 0]).length:=fun i hi=>by rw [List.length_append,hxl];simp;omega
      have hzz:∀ i,(us.flatMap v5++[Value.int .u8 0,.string { data:=#[] },.string { data:=#[] },.slice none 0 0,.slice none 0 0])[j * 5+i]? = [Value.int .u8 0,.string { data:=#[] },.string { data:=#[] },.slice none 0 0,.slice none 0 0][i]?:=fun i=>by rw [List.getElem?_append_right (by rw [hxl];omega),hxl,show j * 5+i - j * 5=i by omega]
      have hcell:=looseRow_cells hown (g:=gb) rfl
      have HCELL:Hid (w11.cell? ⟨gb,j * 5,none⟩=some (.int .u8 0)∧w11.cell? ⟨gb,j * 5+1,none⟩=some (.string { data:=#[] })∧w11.cell? ⟨gb,j * 5+2,none⟩=some (.string { data:=#[] })∧w11.cell? ⟨gb,j * 5+3,none⟩=some (.slice none 0 0)∧w11.cell? ⟨gb,j * 5+4,none⟩=some (.slice none 0 0)):=hid ⟨hcell _ _ (by have:=hzz 0;simpa using this),hcell _ _ (by rw [hzz 1];rfl),hcell _ _ (by rw [hzz 2];rfl),hcell _ _ (by rw [hzz 3];rfl),hcell _ _ (by rw [hzz 4];rfl)⟩
      have HFREE:Hid (∀ o,w11.frozen? ⟨gb,o,none⟩=false):=hid fun o=>by
       obtain ⟨-,-,cur,hc⟩:=row_type hown (k:=gb) rfl
       simp [World.frozen?,hc]
      have HLT:=hid hlt11
      have HFIN:Hid (∀ wx,But (fun q=>q=gb∨q=B+1+1) w11 wx→Owns wx (B+1+1) [.map (some B),.map (some (B+1)),.slice ka kl kc,.slice (some ⟨gb,0,none⟩) (j+1) cap',.slice fa j fc] 89→looseRow wx w6.heap.size 80 5 (.slice (some ⟨gb,0,none⟩) (j+1) cap') (j+1) (us.flatMap v5++[.int .u8 y0,.string y1,.string y2,.slice y3 y4 y5,.slice y6 y7 y8]) →
        ∃ (ba':Option Addr) (bc':Nat),Hid (But (fun q=>q=B∨q=B+1+1) w6 wx)∧Hid (wx.heap[B]? = some (mapObj (nmapL (NMS++[(g.rules[k].name,j)]))))∧Hid (Owns wx (B+1+1) [.map (some B),.map (some (B+1)),.slice ka kl kc,.slice ba' (j+1) bc',.slice fa j fc] 89)∧Hid (SubsFp wx (fun b=>w6.heap.size≤b∧b < wx.heap.size∧(Value.slice ba' (j+1) bc').ownBlock≠some b∧(Value.slice fa j fc).ownBlock≠some b) w6.heap.size (.slice ba' (j+1) bc') (bodsTo g P (j+1)))∧Hid (looseRow wx w6.heap.size 91 2 (.slice fa j fc) j (noneVs j))):=hid fun wx hbx hox hrx=>by
       have hM10:w10.heap[B]? = some (mapObj (nmapL (NMS++[(g.rules[k].name,j)]))):=by rw [HG10.out.block _ (Array.getElem?_eq_some_iff.1 HM9.out).1];exact HM9.out
       have hM11:w11.heap[B]? = some (mapObj (nmapL (NMS++[(g.rules[k].name,j)]))):=by rw [hgb.block _ (Array.getElem?_eq_some_iff.1 hM10).1 (fun e=>by have:=HKT.out _ e;omega)];exact hM10
       have hFR10:=(But.of_grew (F:=fun _=>False) HG10.out).row HFR9.out (fun _ _ h=>h)
       have hFR11:=hgb.row hFR10 fun q hq e=>type_ne (row_type hFR10 hq).2.2 (row_type HROW10.out e).2.2 (by decide) rfl
       have hB11:But (fun q=>q=B∨q=B+1+1) w6 w11:=(HB9.out.trans (But.of_grew (F:=fun _=>False) HG10.out) (fun _ _ h=>h.elim)).trans hgb (fun i hi e=>by have:=HKT.out _ e;omega)
       have hfab:∀ q,(Value.slice fa j fc).ownBlock=some q→q < w9.heap.size:=fun q hq=>(row_type HFR9.out hq).2.1
       have hold:∀ b,(w6.heap.size≤b∧b < w9.heap.size∧(Value.slice ba j bc).ownBlock≠some b∧(Value.slice fa j fc).ownBlock≠some b)→(w6.heap.size≤b∧b < wx.heap.size∧(Value.slice (some ⟨gb,0,none⟩) (j+1) cap').ownBlock≠some b∧(Value.slice fa j fc).ownBlock≠some b)∧wx.heap[b]? = w9.heap[b]?:=by
        rintro b ⟨r1,r2,r3,r4⟩
        have r5:b < w10.heap.size:=Nat.lt_of_lt_of_le r2 HG10.out.size
        have r6:b < w11.heap.size:=Nat.lt_of_lt_of_le r5 hgb.size
        have r7:b≠gb:=by
         rintro rfl
         rcases hat with e | e
         ·exact r3 e
         ·omega
        refine ⟨⟨r1,Nat.lt_of_lt_of_le r6 hbx.size,fun e=>r7 (Option.some.inj e).symm,r4⟩,?_⟩
        rw [hbx.block b r6 (by rintro (e | e);exact r7 e;omega),hgb.block b r5 r3,HG10.out.block b r2]
       have hnew:∀ b,(w9.heap.size≤b∧b < w10.heap.size)→(w6.heap.size≤b∧b < wx.heap.size∧(Value.slice (some ⟨gb,0,none⟩) (j+1) cap').ownBlock≠some b∧(Value.slice fa j fc).ownBlock≠some b)∧wx.heap[b]? = w10.heap[b]?:=by
        rintro b ⟨r1,r2⟩
        have r6:b < w11.heap.size:=Nat.lt_of_lt_of_le r2 hgb.size
        have r8:w6.heap.size≤b:=Nat.le_trans HB9.out.size r1
        have r3:(Value.slice ba j bc).ownBlock≠some b:=fun e=>by have:=HKS.out _ e;omega
        have r7:b≠gb:=by
         rintro rfl
         rcases hat with e | e
         ·exact r3 e
         ·omega
        refine ⟨⟨r8,Nat.lt_of_lt_of_le r6 hbx.size,fun e=>r7 (Option.some.inj e).symm,fun e=>by have:=hfab _ e;omega⟩,?_⟩
        rw [hbx.block b r6 (by rintro (e | e);exact r7 e;omega),hgb.block b r2 r3]
       refine ⟨some ⟨gb,0,none⟩,cap',hid (hB11.trans hbx ?_),hid ?_,hid hox,hid ⟨us++[(.int .u8 y0,.string y1,.string y2,.slice y3 y4 y5,.slice y6 y7 y8)],?_,?_,?_⟩,hid (hbx.row hFR11 ?_)⟩
       ·rintro i hi (e | e)
        ·omega
        ·exact .inr e
       ·rw [hbx.block _ (Array.getElem?_eq_some_iff.1 hM11).1 (by rintro (e | e)<;>omega)]
        exact hM11
       ·rw [List.length_append,List.length_singleton,bodsTo_len,HK1.out]
       ·rw [bodsTo_len,List.flatMap_append,List.flatMap_singleton]
        exact hrx
       ·rw [HBX.out]
        intro i u n hu hn
        by_cases hi:i < us.length
        ·rw [List.getElem?_append_left hi] at hu
         rw [List.getElem?_append_left (by rw [HBL.out,← HK1.out];exact hi)] at hn
         exact (HK3.out i u n hu hn).keep hold
        ·have hil:i=us.length:=by
          have:=(List.getElem?_eq_some_iff.1 hu).1
          simp at this
          omega
         subst hil
         rw [List.getElem?_append_right (Nat.le_refl _),Nat.sub_self] at hu
         rw [HK1.out,List.getElem?_append_right (by rw [HBL.out];exact Nat.le_refl _),HBL.out,Nat.sub_self] at hn
         cases hu
         cases hn
         exact HN10.out.keep hnew
       ·rintro q hq (e | e)
        ·exact type_ne (row_type hFR11 hq).2.2 (row_type hown (k:=gb) rfl).2.2 (by decide) e
        ·have:=(row_type hFR11 hq).1
         omega
      clear hgb hset hbset hxl hxl2 hzz hcell hown hgrow hat hlt11 h63 h64 hz0 hz1 hz2 hg6 O11
      refine wpAny_all (rs:=[15,18]) (by kernel_rfl) (by simp) (fun i hi=>?_)
      rcases List.mem_cons.1 hi with rfl | hi
      ·refine wpOp_at rfl rfl ?_
       obtain ⟨z0,z1,z2,z3,z4⟩:=HCELL.out
       have hst:=run_store_node z0 z1 z2 z3 z4 HFREE.out y0 y1 y2 y3 y4 y5 y6 y7 y8
       have hbk:=HBSET.out.owns HO11.out (by have:=HGB6.out;have:=HOB6.out.lt;omega)
       have HBK:=hid hbk
       have hst2:=run_store_sl (hbk.cell_at (i:=3) rfl) (hbk.free 3) (some ⟨gb,0,none⟩) (j+1) cap'
       have hF:=HFIN.out _ ((HBSET.out.wide (G:=fun q=>q=gb∨q=B+1+1) fun _ _ e=>.inl e).trans (set_but (i:=3) (v:=.slice (some ⟨gb,0,none⟩) (j+1) cap') hbk) fun _ _ e=>.inr e) (hbk.set 3 (.slice (some ⟨gb,0,none⟩) (j+1) cap')) ((set_but (i:=3) (v:=.slice (some ⟨gb,0,none⟩) (j+1) cap') hbk).row HSET.out fun q hq e=>by
        have:=(row_type HSET.out hq).1
        have:=HOB6.out.lt
        omega)
       have HF:=hid hF
       refine wp_store rfl _ _ rfl rfl hst ?_
       simp only [List.getElem_toArray,List.getElem_cons_succ,List.getElem_cons_zero,Act.put]
       refine wpAny_all (rs:=[18]) (by kernel_rfl) (by simp) (fun i hi=>?_)
       obtain rfl:=List.mem_singleton.1 hi
       refine wpOp_at rfl rfl ?_
       refine wp_store rfl _ _ rfl rfl hst2 ?_
       simp only [List.getElem_toArray,List.getElem_cons_succ,List.getElem_cons_zero,Act.put]
       refine wpAny_done (by kernel_rfl) ?_ _
       go_wp2_with fail
       go_meet
       exact HF.out
      ·obtain rfl:=List.mem_singleton.1 hi
       refine wpOp_at rfl rfl ?_
       have hst2:=run_store_sl (HO11.out.cell_at (i:=3) rfl) (HO11.out.free 3) (some ⟨gb,0,none⟩) (j+1) cap'
       have hb12:=set_but (i:=3) (v:=.slice (some ⟨gb,0,none⟩) (j+1) cap') HO11.out
       have ho12:=HO11.out.set 3 (.slice (some ⟨gb,0,none⟩) (j+1) cap')
       have hne:gb≠B+1+1:=by have:=HGB6.out;have:=HOB6.out.lt;omega
       have hr12:=hb12.row HOWN.out fun q hq e=>by
        have:=(row_type HOWN.out hq).1
        have:=HOB6.out.lt
        omega
       have hxl:(us.flatMap v5).length=j * 5:=by rw [fmap_len v5 5 v5_len,HK1.out]
       obtain ⟨hset,hbset⟩:=loose_set5 hr12 hxl (.int .u8 y0) (.string y1) (.string y2) (.slice y3 y4 y5) (.slice y6 y7 y8)
       obtain ⟨z0,z1,z2,z3,z4⟩:=HCELL.out
       have hst:=run_store_node (cell_butS hb12 z0 hne) (cell_butS hb12 z1 hne) (cell_butS hb12 z2 hne) (cell_butS hb12 z3 hne) (cell_butS hb12 z4 hne) (fun o=>by
        obtain ⟨-,-,cur,hc⟩:=row_type hr12 (k:=gb) rfl
        simp [World.frozen?,hc]) y0 y1 y2 y3 y4 y5 y6 y7 y8
       have hF:=HFIN.out _ ((hb12.wide (G:=fun q=>q=gb∨q=B+1+1) fun _ _ e=>.inr e).trans hbset fun _ _ e=>.inl e) (hbset.owns ho12 fun e=>hne e.symm) hset
       have HF:=hid hF
       refine wp_store rfl _ _ rfl rfl hst2 ?_
       simp only [List.getElem_toArray,List.getElem_cons_succ,List.getElem_cons_zero,Act.put]
       refine wpAny_all (rs:=[15]) (by kernel_rfl) (by simp) (fun i hi=>?_)
       obtain rfl:=List.mem_singleton.1 hi
       refine wpOp_at rfl rfl ?_
       refine wp_store rfl _ _ rfl rfl hst ?_
       simp only [List.getElem_toArray,List.getElem_cons_succ,List.getElem_cons_zero,Act.put]
       refine wpAny_done (by kernel_rfl) ?_ _
       go_wp2_with fail
       go_meet
       exact HF.out
     case rest =>
      obtain ⟨ba',bc',HB10,HM10,HOB10,HSU10,HFR10⟩:=hcut
      clear HCALL HNB HGW9 HB9 HM9 HOB9 HFR9 HSU9 HW9 n3 nl gl e3 el f2 f3 f4 f5 f6 HUW HB HM HOB HSU HFR
      have n4:=HOB10.out.cell_at (i:=4) rfl
      have nl:=HOB10.out.lt
      obtain ⟨w11,hw11⟩:∃ w11,wc.alloc (.cells #[.int .i64 (-1),.slice none 0 0] 91)=w11:=⟨_,rfl⟩
      have g11:Grew wc w11:=hw11▸grew_alloc wc _
      have o11:Owns w11 wc.heap.size [.int .i64 (-1),.slice none 0 0] 91:=hw11▸Owns.alloc wc _ _
      have HNW:=hid (owns_newsO o11)
      have HG11:=hid g11
      have HFR11:=hid ((But.of_grew (F:=fun _=>False) g11).row HFR10.out (fun _ _ h=>h))
      have HONE:Hid (∀ x∈[Value.int .i64 (-1),.slice none 0 0],x.oneCell'=true):=hid fun x hx=>by
       simp only [List.mem_cons,List.not_mem_nil,or_false] at hx
       rcases hx with rfl | rfl<;>rfl
      obtain ⟨i0,hi,hz0,hz1,hz2⟩:=info_parts info_fst
      have HI:=hid hi
      have HZ0:=hid hz0
      have HZ1:=hid hz1
      have HZ2:=hid hz2
      have h63:j+1≤maxLen:=by unfold maxLen;omega
      have h64:(j+1) * 32≤140737488355328:=by omega
      have HLL:=hid (Nat.le_trans HB10.out.size g11.size)
      clear g11 o11 hi hz0 hz1 hz2
      have HAP:Hid (∀ gf cap' w12,looseRow w12 w6.heap.size 91 2 (.slice (some ⟨gf,0,none⟩) (j+1) cap') (j+1) (noneVs j++[Value.int .i64 (-1),.slice none 0 0])→w11.grownBy w12 (Value.slice fa j fc).ownBlock→((Value.slice fa j fc).ownBlock=some gf∨gf=w11.heap.size) →
        B+1+1 < w12.heap.size∧w12.cell? ⟨B+1+1,4,none⟩=some (.slice fa j fc)∧w12.frozen? ⟨B+1+1,4,none⟩=false ∧
        Hid (But (fun q=>q=B∨q=B+1+1) w6 (w12.setCell ⟨B+1+1,4,none⟩ (.slice (some ⟨gf,0,none⟩) (j+1) cap'))) ∧
        Hid ((w12.setCell ⟨B+1+1,4,none⟩ (.slice (some ⟨gf,0,none⟩) (j+1) cap')).heap[B]? = some (mapObj (nmapL (NMS++[(g.rules[k].name,j)])))) ∧
        Hid (Owns (w12.setCell ⟨B+1+1,4,none⟩ (.slice (some ⟨gf,0,none⟩) (j+1) cap')) (B+1+1) [.map (some B),.map (some (B+1)),.slice ka kl kc,.slice ba' (j+1) bc',.slice (some ⟨gf,0,none⟩) (j+1) cap'] 89) ∧
        Hid (SubsFp (w12.setCell ⟨B+1+1,4,none⟩ (.slice (some ⟨gf,0,none⟩) (j+1) cap')) (fun b=>w6.heap.size≤b∧b < (w12.setCell ⟨B+1+1,4,none⟩ (.slice (some ⟨gf,0,none⟩) (j+1) cap')).heap.size∧(Value.slice ba' (j+1) bc').ownBlock≠some b∧(Value.slice (some ⟨gf,0,none⟩) (j+1) cap').ownBlock≠some b) w6.heap.size (.slice ba' (j+1) bc') (bodsTo g P (j+1))) ∧
        Hid (looseRow (w12.setCell ⟨B+1+1,4,none⟩ (.slice (some ⟨gf,0,none⟩) (j+1) cap')) w6.heap.size 91 2 (.slice (some ⟨gf,0,none⟩) (j+1) cap') (j+1) (noneVs (j+1)))):=hid fun gf cap' w12 hown hgrow hat=>by
       have hgb:=But.grown (F:=fun q=>(Value.slice fa j fc).ownBlock=some q) hgrow fun _ e=>e
       have hkb:∀ q,(Value.slice fa j fc).ownBlock=some q→w6.heap.size≤q:=fun q hq=>(row_type HFR11.out hq).1
       have hb6:B+1+1 < w6.heap.size:=HOB6.out.lt
       have O12:=hgb.owns (HOB10.out.keep HG11.out) (fun e=>by have:=hkb _ e;omega)
       have hM11:w11.heap[B]? = some (mapObj (nmapL (NMS++[(g.rules[k].name,j)]))):=by rw [HG11.out.block _ (Array.getElem?_eq_some_iff.1 HM10.out).1];exact HM10.out
       have hM12:w12.heap[B]? = some (mapObj (nmapL (NMS++[(g.rules[k].name,j)]))):=by rw [hgb.block _ (Array.getElem?_eq_some_iff.1 hM11).1 (fun e=>by have:=hkb _ e;omega)];exact hM11
       have hB12:But (fun q=>q=B∨q=B+1+1) w6 w12:=(HB10.out.trans (But.of_grew (F:=fun _=>False) HG11.out) (fun _ _ h=>h.elim)).trans hgb (fun i hi e=>by have:=hkb _ e;omega)
       have hb13:=set_but (i:=4) (v:=.slice (some ⟨gf,0,none⟩) (j+1) cap') O12
       have hgf:w6.heap.size≤gf:=by
        rcases hat with e | e
        ·exact hkb _ e
        ·have:=HLL.out;omega
       refine ⟨O12.lt,O12.cell_at (i:=4) rfl,O12.free 4,hid (hB12.trans hb13 (fun _ _ e=>.inr e)),hid ?_,hid (O12.set 4 (.slice (some ⟨gf,0,none⟩) (j+1) cap')),hid ?_,hid (hb13.row hown fun q hq e=>type_ne (row_type hown hq).2.2 (owns_type O12) (by decide) e)⟩
       ·rw [hb13.block _ (Array.getElem?_eq_some_iff.1 hM12).1 (by omega)]
        exact hM12
       ·obtain ⟨us,k1,k2,k3⟩:=HSU10.out
        refine SubsFp.keep ⟨us,k1,k2,k3⟩ (fun b hb=>?_) (fun b hb=>?_)
        ·obtain ⟨r1,r2,r3,r4⟩:=hb
         have r5:b < w11.heap.size:=Nat.lt_of_lt_of_le r2 HG11.out.size
         have r6:b < w12.heap.size:=Nat.lt_of_lt_of_le r5 hgb.size
         have r7:b≠gf:=by
          rintro rfl
          rcases hat with e | e
          ·exact r4 e
          ·omega
         refine ⟨⟨r1,Nat.lt_of_lt_of_le r6 hb13.size,r3,fun e=>r7 (Option.some.inj e).symm⟩,?_⟩
         rw [hb13.block b r6 (by omega),hgb.block b r5 r4,HG11.out.block b r2]
        ·obtain ⟨q1,q2,q3⟩:=row_type k2 hb
         have r5:b < w11.heap.size:=Nat.lt_of_lt_of_le q2 HG11.out.size
         have r6:b < w12.heap.size:=Nat.lt_of_lt_of_le r5 hgb.size
         have r4:(Value.slice fa j fc).ownBlock≠some b:=fun e=>type_ne q3 (row_type HFR10.out e).2.2 (by decide) rfl
         rw [hb13.block b r6 (by omega),hgb.block b r5 r4,HG11.out.block b q2]
      go_wp2_with (at_builtin;refine wpList_append_loose w11 rfl _ _ 87 rfl w6.heap.size 91 i0 _ 2 32 Tryz.underlying87 HI.out HZ0.out HZ1.out HZ2.out rfl (by decide) _ j (noneVs j) rfl HFR11.out ⟨wc.heap.size,0,none⟩ 1 1 [Value.int .i64 (-1),.slice none 0 0] rfl rfl HNW.out HONE.out (by decide) h63 h64 HLL.out _ rfl ?_;intro gf cap' w12 hown hgrow hat hlt12;obtain ⟨nl4,n4',ne4,HB13,HM13,HO13,HS13,HR13⟩:=HAP.out gf cap' w12 hown hgrow hat;clear hown hgrow hat hlt12 n4 nl)
      refine ⟨⟨j+1,ba',bc',some ⟨gf,0,none⟩,cap',by go_num,by omega,HB13.out,by rw [HNX.out];exact HM13.out,HO13.out,HS13.out,HR13.out⟩,by simp [intOf];omega⟩
    ·obtain rfl:j=P.length:=by omega
     obtain ⟨n,hn⟩:∃ n,P.length=n:=⟨_,rfl⟩
     have HN:=hid hn
     rw [hn] at HM HOB HSU HFR hpl9 HP0 ⊢
     obtain ⟨B0,hB0⟩:∃ B0,book0 g T P=B0:=⟨_,rfl⟩
     have HB0:=hid hB0
     have HBF:Hid (BookFp wr (B+1+1) ⟨B,B+1,.slice ka kl kc,ba,bc,fa,fc⟩ B0):=hid (by
      subst hB0
      have hb6:B+1+1 < w6.heap.size:=HOB6.out.lt
      have hkr:=HB.out.row HKR6.out fun q hq e=>by
       rcases e with e | e
       ·exact row_mapS HKR6.out HMB6.out q hq e
       ·exact type_ne (row_type HKR6.out hq).2.2 (owns_type HOB6.out) (by decide) e
      have hmt:wr.heap[B+1]? = some (mapObj (nmapL (nmsTo g T T.length))):=by rw [HB.out.block _ (Array.getElem?_eq_some_iff.1 HMT6.out).1 (by omega)];exact HMT6.out
      have hbk:=HOB.out.lt
      obtain ⟨a',c',e,-,hnodes⟩:=HSU.out.nodes (T:=fun b=>b < wr.heap.size∧b≠B+1+1) (fun b hb=>⟨hb.2.1,by have:=hb.1;omega⟩) (fun b hb=>by
       obtain ⟨us,k1,k2,k3⟩:=HSU.out
       obtain ⟨q1,q2,-⟩:=row_type k2 hb
       exact ⟨q2,by omega⟩)
      simp only [Value.slice.injEq] at e
      obtain ⟨rfl,-,rfl⟩:=e
      obtain ⟨a2,c2,e2,hfs⟩:=firsts_none (lim:=wr.heap.size) HFR.out fun q hq=>(row_type HFR.out hq).2.1
      cases e2
      have hpb:(bodsTo g P P.length).length=n:=by rw [bodsTo_len,hn]
      refine ⟨⟨Nat.le_refl _,hbk,?_,?_,hmt,⟨by show B < _;omega,by show B+1 < _;omega⟩,?_,?_,?_,?_⟩,?_⟩
      ·show Owns wr (B+1+1) [.map (some B),.map (some (B+1)),.slice ka kl kc,.slice ba (bodsTo g P P.length).length bc,.slice fa (List.replicate P.length _).length fc] 89
       rw [hpb,List.length_replicate,hn]
       exact HOB.out
      ·show wr.heap[B]? = some (mapObj (nmapL (nmsTo g P P.length)))
       rw [hn]
       exact HM.out
      ·show IntsV wr wr.heap.size (.slice ka kl kc) (kindsTo g T T.length)
       rw [HKK.out]
       rw [← HKLE.out] at hkr ⊢
       exact loose_ints hkr
      ·show NodesAt wr wr.heap.size ba 0 (bodsTo g P P.length)
       rw [hn]
       exact hnodes.at fun b hb=>hb.1
      ·show FirstsAt wr wr.heap.size fa (List.replicate P.length _)
       rw [hn]
       exact hfs
      ·show (bodsTo g P P.length).length≤60∧(List.replicate P.length _).length=(bodsTo g P P.length).length
       rw [List.length_replicate,hpb]
       exact ⟨hpl9,hn⟩
      ·show NodesFp wr _ ba 0 (bodsTo g P P.length)
       rw [hn]
       exact hnodes)
     have HLB:Hid (B0.bodies.length=n):=hid (by rw [← hB0];show (bodsTo g P P.length).length=n;rw [bodsTo_len,hn])
     have HOK:Hid (∀ k,∀ f∈(B0.iter k).firsts,f.Ok):=hid (by subst hB0;exact (book0 g T P).iter_ok (book0_ok g T P))
     have HIN:Hid (∀ k nm,(B0.iter k).rule nm < (B0.iter k).firsts.length):=hid (by subst hB0;exact book0_rule g T P (by rw [hn];exact HP0.out))
     have HLP:Hid (∀ m∈B0.bodies,m.lp):=hid (by
      subst hB0
      show ∀ m∈bodsTo g P P.length,m.lp
      rw [← HP.out]
      exact bods_lp HSOUND.out)
     have hGW:Grew W wr:=Below.trans HG6.out (HB.out.below HG6.out.size fun q e=>by have:=HFS.out;have:=HFB.out;omega)
     have HGW:=hid hGW
     have n3:=HOB.out.cell_at (i:=3) rfl
     have nl:=HOB.out.lt
     clear hB0 hn hGW HB HM HSU HFR HKR6 HMB6 HMT6 HOB6 HOG6 HRG6 HK4 HKK HKL HKLE HP0 HPI HOB HTOT HG4
     go_wp2_with fail
     clear n3 nl
     go_loopw [116] (fun c wr=>∃ (j:Nat) (fa:Option Addr) (fc:Nat),c=.int .i64 j∧j≤n+1∧Hid (Grew W wr)∧Hid (BookFp wr (B+1+1) ⟨B,B+1,.slice ka kl kc,ba,bc,fa,fc⟩ (B0.iter j))) (fun c _=>n+1 - (intOf c).toNat)
     case atStart=>exact ⟨0,fa,fc,rfl,by omega,HGW.out,HBF.out⟩
     case round =>
      obtain ⟨j,fa2,fc2,rfl,hj,HGR,HBR⟩:=hrel
      clear HBF HGW
      by_cases hlt:j < n+1
      ·as_aux_lemma =>
       obtain ⟨B1,hB1⟩:∃ B1,B0.iter j=B1:=⟨_,rfl⟩
       have HB1:=hid hB1
       have HLB1:Hid (B1.bodies.length=n):=hid (by rw [← hB1,(B0.iter_rest j).2.2.2];exact HLB.out)
       have HOK1:Hid (∀ f∈B1.firsts,f.Ok):=hid (hB1▸HOK.out j)
       have HIN1:Hid (∀ nm,B1.rule nm < B1.firsts.length):=hid (hB1▸HIN.out j)
       have HLP1:Hid (∀ m∈B1.bodies,m.lp):=hid (by rw [← hB1,(B0.iter_rest j).2.2.2];exact HLP.out)
       rw [hB1] at HBR
       have hms:=make_fsts n (by omega) wr
       obtain ⟨gn,hgn⟩:∃ gn,wr.heap.size=gn:=⟨_,rfl⟩
       have HGN:=hid hgn
       obtain ⟨w1',hw1'⟩:∃ w1',wr.alloc (.cells ((List.replicate n ((.int .i64 0,.slice none 0 0):V2)).flatMap v2).toArray 91)=w1':=⟨_,rfl⟩
       have g1:Grew wr w1':=hw1'▸grew_alloc wr _
       have o1:Owns w1' gn ((List.replicate n ((.int .i64 0,.slice none 0 0):V2)).flatMap v2) 91:=hgn▸hw1'▸Owns.alloc wr _ _
       rw [hw1',hgn] at hms
       have HG1':=hid g1
       have HO1':=hid o1
       have hbox:=HBR.out.at_.box
       have n3:=hbox.cell_at (i:=3) rfl
       rw [HLB1.out] at n3
       dsimp only at n3
       have nl:=hbox.lt
       have hbox1:=hbox.keep g1
       have p3:=hbox1.cell_at (i:=3) rfl
       rw [HLB1.out] at p3
       dsimp only at p3
       have pl:=hbox1.lt
       clear hB1 g1 o1 hbox hbox1 hgn hw1'
       go_wp2_with fail
       clear n3 nl p3 pl hms
       have dj:decide ((j:Int) < (n:Int)+1)=true:=decide_eq_true (by omega)
       simp only [dj]
       obtain ⟨wo,rfl⟩:∃ wo:World,wo=wr:=⟨_,rfl⟩
       go_loopw [129] (fun c wr=>∃ (i:Nat) (L2:List V2),c=.int .i64 i∧i≤n∧Hid (Grew wo wr)∧Hid (Owns wr gn (L2.flatMap v2) 91)∧Hid (FstRow wr B1 i L2)) (fun c _=>n - (intOf c).toNat)
       case atStart=>exact ⟨0,_,rfl,by omega,HG1'.out,HO1'.out,⟨by rw [List.length_replicate,HLB1.out],fun k hk=>absurd hk (by omega)⟩⟩
       case round =>
        obtain ⟨i,L2,rfl,hi,HGQ,HOQ,HFQ⟩:=hrel
        clear HG1' HO1'
        by_cases hlt2:i < n
        ·as_aux_lemma =>
          have HBQ:=hid (HBR.out.grew HGQ.out)
          have hi':i < B1.bodies.length:=by rw [HLB1.out];exact hlt2
          obtain ⟨bb,bo,hbe,hbb,hnode⟩:=HBQ.out.at_.bodies.get hi'
          simp only [Nat.zero_add] at hnode
          dsimp only at hbe
          subst hbe
          have hbg:B1.bodies[i]? = some B1.bodies[i]:=List.getElem?_eq_getElem hi'
          have hlp:=HLP1.out _ (List.getElem_mem hi')
          obtain ⟨nd,hnd⟩:∃ nd,B1.bodies[i]=nd:=⟨_,rfl⟩
          rw [hnd] at hnode hbg hlp
          have HBG:=hid hbg
          obtain ⟨u0,u1,u2,u3,u4,e0,e1,e2,e3,e4,hnode⟩:=hnode.vals
          obtain ⟨m0,m1,m2,m3,m4,m5,m6,m7,m8,rfl,rfl,rfl,rfl,rfl⟩:=hnode.forms
          obtain ⟨wa,hwa⟩:∃ wa,wr.alloc (.cells #[.int .u8 m0,.string m1,.string m2,.slice m3 m4 m5,.slice m6 m7 m8] 80)=wa:=⟨_,rfl⟩
          have ga:Grew wr wa:=hwa▸grew_alloc wr _
          have oa:Owns wa wr.heap.size [.int .u8 m0,.string m1,.string m2,.slice m3 m4 m5,.slice m6 m7 m8] 80:=hwa▸Owns.alloc wr _ _
          have HCF:=hid (sfirst_ok B1 HOK1.out HIN1.out nd hlp wa wr.heap.size (B+1+1) _ _ _ _ _ _ (HBQ.out.at_.keep ga) (hnode.keep ga))
          have HGA:=hid ga
          have HOA:=hid (HOQ.out.keep ga)
          have t0:=oa.cell_at (i:=0) rfl
          have t1:=oa.cell_at (i:=1) rfl
          have t2:=oa.cell_at (i:=2) rfl
          have t3:=oa.cell_at (i:=3) rfl
          have t4:=oa.cell_at (i:=4) rfl
          have tl:=oa.lt
          clear hbg hlp hnd hnode ga oa hi'
          go_wp2_with fail
          refine HCF.out.mono ?_
          rintro e wb ⟨u,rfl,hu,hgb⟩
          obtain ⟨fx,hfx⟩:∃ fx,B1.firstN nd=fx:=⟨_,rfl⟩
          have HFX:=hid hfx
          rw [hfx] at hu ⊢
          obtain ⟨ya,yc,rfl⟩:=loose_form hu
          clear t0 t1 t2 t3 t4 tl e0 e1 e2 e3 e4 hwa HCF hfx hbb
          have hgqb:=HGA.out.trans hgb
          have HGB:=hid (HGQ.out.trans hgqb)
          have ob:=HOA.out.keep hgb
          have hil:i < L2.length:=by rw [HFQ.out.1,HLB1.out];exact hlt2
          obtain ⟨z0,z1⟩:=v2_cells hil
          have c0:=ob.cell_at z0
          have c1:=ob.cell_at z1
          have cl:=ob.lt
          have f0:=ob.free (i * 2)
          have f1:=ob.free (i * 2+1)
          have hin2:(i:Int) < (n:Int):=by omega
          have hb1:=set_but (i:=i * 2) (v:=.int .i64 fx.long) ob
          have oc:=ob.set (i * 2) (.int .i64 fx.long)
          have hb2:=hb1.trans (set_but (i:=i * 2+1) (v:=.slice ya fx.w.length yc) oc) fun _ _ e=>e
          have od:=oc.set (i * 2+1) (.slice ya fx.w.length yc)
          rw [v2_set2 hil] at od
          have HOD:=hid od
          have HGD:=hid (show Grew wo _ from Below.trans HGB.out (hb2.below HGB.out.size fun q e=>by have:=HGN.out;omega))
          have hfr:=HFQ.out.but (But.of_grew (F:=fun _=>False) hgqb) (fun _ _ h=>h)
          have hfr2:=hfr.next HBG.out (u:=.slice ya fx.w.length yc) (by rw [HFX.out];exact hu)
          rw [HFX.out] at hfr2
          have HFR:=hid (hfr2.but hb2 fun b hb e=>type_ne hb (owns_type ob) (by decide) e)
          obtain ⟨q0,hq0⟩:∃ q,L2[i].1=q:=⟨_,rfl⟩
          obtain ⟨q1,hq1⟩:∃ q,L2[i].2=q:=⟨_,rfl⟩
          rw [hq0] at c0
          rw [hq1] at c1
          clear hq0 hq1 z0 z1
          clear hgqb ob hil hb1 oc hb2 od hfr hfr2 hu hgb
          go_wp2_with fail
          refine ⟨⟨i+1,_,by go_num,by omega,HGD.out,HOD.out,HFR.out⟩,by simp [intOf];omega⟩
        ·obtain rfl:i=n:=by omega
         have HBQ:=HBR.out.grew HGQ.out
         have hbox:=HBQ.at_.box
         have n4:=hbox.cell_at (i:=4) rfl
         have ne4:=hbox.free 4
         have nl:=hbox.lt
         have hnx:=HBQ.next HLB1.out HOQ.out HFQ.out
         have HNXT:=hid hnx
         have hgs:Grew W (wr.setCell ⟨B+1+1,4,none⟩ (.slice (some ⟨gn,0,none⟩) i i)):=Below.trans (HGR.out.trans HGQ.out) ((set_but hbox).below (HGR.out.trans HGQ.out).size fun q e=>by have:=HFS.out;have:=HFB.out;omega)
         have HGS:=hid hgs
         clear HBQ hbox hnx hgs
         go_wp2_with fail
         refine ⟨⟨j+1,some ⟨gn,0,none⟩,i,by go_num,by omega,HGS.out,?_⟩,by simp [intOf];omega⟩
         have e:B0.iter (j+1)=B1.step:=by rw [← HB1.out];rfl
         rw [e]
         exact HNXT
      ·obtain rfl:j=n+1:=by omega
       go_wp2_with fail
       show Q (.returned (.tuple #[.pointer (some ⟨B+1+1,0,none⟩),.int .i64 0])) wr
       rw [← HQ.out]
       refine .inr ⟨B+1+1,⟨B,B+1,.slice ka kl kc,ba,bc,fa2,fc2⟩,rfl,HSOUND.out,HFINE.out,?_,HGR.out⟩
       have e:bookOf g=B0.iter (n+1):=by
        unfold bookOf
        rw [HT.out,HP.out,HB0.out,HN.out]
       rw [e]
       exact HBR.out
end Go.Proofs.YtppjmdanckdobaaGreatDoor
