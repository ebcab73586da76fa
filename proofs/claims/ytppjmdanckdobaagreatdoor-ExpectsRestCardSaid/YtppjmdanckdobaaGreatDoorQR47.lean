/- expects.New: a grammar's table. -/
import Derived.Test.YtppjmdanckdobaaGreatDoorQR46
import Derived.Test.YtppjmdanckdobaaGreatDoorQR35
namespace Go.Proofs.YtppjmdanckdobaaGreatDoor
open Go.RowKit
open Lib (hid)
def XNewIs (g:Gr) (W:World) (e:Ending) (W':World):Prop :=
 (e=.returned (.tuple #[.pointer none,.int .i64 1])∧Grew W W'∧(soundP g→∃ es M N,g.IsEmpty es∧IsReach (g.Once es) g.rules.length M∧IsReach g.rd0 g.rules.length N∧g.told es (at2 M) (at2 N)≠[])) ∨
 ∃ T:XT,e=.returned (.tuple #[T.ptr,.int .i64 0])∧soundP g∧g.Fine∧T.B=bookOf g∧T.At W'.heap.size W'∧Grew W W'
set_option maxHeartbeats 8000000 in
set_option maxRecDepth 40000 in
theorem xnew_ok (g:Gr) (hfew:g.Few) (htot:∀ i (h:i < g.rules.length),g.rules[i].body.total≤3000) (W:World) (hT:Lib.Utf8Tabs 1 2 W) (v0 v1 v2 v3:Value) (hG:GrAt W W.heap.size (some v0) (some v1) (some v2) (some v3) g) :
  Calls Tryz.prog 10 #[.agg #[v0,v1,v2,v3]] W (XNewIs g W):=by
 have hG0:=hG
 obtain ⟨q1,-,q2,q3,q4,q5,ra,rc,q6,-,hrules⟩:=hG0
 obtain rfl:=Option.some.inj q1
 obtain rfl:=Option.some.inj q2
 obtain rfl:=Option.some.inj q3
 obtain rfl:=Option.some.inj q6
 obtain ⟨Q,hQ⟩:∃ Q,XNewIs g W=Q:=⟨_,rfl⟩
 rw [hQ]
 have HQ:=hid hQ
 clear hQ
 have hlen:=hfew.len
 have HTOT:=hid htot
 obtain ⟨f,hf⟩:∃ f,W.heap.size=f:=⟨_,rfl⟩
 have HFS:=hid hf
 obtain ⟨w1,hw1⟩:∃ w1,W.alloc (.cells #[.string g.name,.int .i64 g.bound,.int .i64 g.states,.slice ra g.rules.length rc] 44)=w1:=⟨_,rfl⟩
 have g1:Grew W w1:=hw1▸grew_alloc W _
 have o1:Owns w1 f [.string g.name,.int .i64 g.bound,.int .i64 g.states,.slice ra g.rules.length rc] 44:=hf▸hw1▸Owns.alloc W _ _
 have HG1:=hid g1
 have HO1:=hid o1
 have HGR:=hid hG
 have HS:=hid (snew_ok g hfew htot w1 (tabs_grew hT g1) _ _ _ _ ((hG.keep g1).mono g1.size))
 have c0:=o1.cell_at (i:=0) rfl
 have c1:=o1.cell_at (i:=1) rfl
 have c2:=o1.cell_at (i:=2) rfl
 have c3:=o1.cell_at (i:=3) rfl
 have cl:=o1.lt
 obtain ⟨L,hL⟩:∃ L,g.rules.length=L:=⟨_,rfl⟩
 have HL:=hid hL
 rw [hL] at c3 hw1 hlen HS HO1 ⊢
 clear g1 o1 hG q1 q2 q3 q4 q5 q6 hrules hT hL hfew htot
 go_enter Tryz.func10,Tryz.ntmps10
 go_wp2_with fail
 refine HS.out.mono ?_
 rintro e w3 (⟨rfl,hg3,hwhy⟩ | ⟨kp,V,rfl,hsound,hfine,hbook,hg3⟩)
 ·have HG3:=hid (HG1.out.trans hg3)
  have HWHY:=hid hwhy
  clear hg3 hwhy
  go_wp2_with fail
  show Q (.returned (.tuple #[.pointer none,.int .i64 1])) _
  rw [← HQ.out]
  exact .inl ⟨rfl,HG3.out,HWHY.out⟩
 have HG3:=hid (show Grew W w3 from HG1.out.trans hg3)
 have HO3:=hid (HO1.out.keep hg3)
 have HFINE:=hid hfine
 have HSOUND:=hid hsound
 have HBOOK:=hid hbook
 have HNM:Hid g.Names:=hid HFINE.out.names
 clear hg3 hfine hsound hbook c0 c1 c2 c3 cl hw1 hf HS HO1 HG1
 obtain ⟨B,hB⟩:∃ B,w3.heap.size=B:=⟨_,rfl⟩
 have HBB:=hid hB
 have HFB:=hid (show f < B by have:=HO3.out.lt;omega)
 have hmk:∀ (t:TypeId) (w:World),(Instr.makeMap t none).run Tryz.prog w=.ok (.map (some w.heap.size)) (w.alloc (.map #[] 0)):=fun _ _=>rfl
 obtain ⟨wA,hwA⟩:∃ wA,w3.alloc (.map #[] 0)=wA:=⟨_,rfl⟩
 obtain ⟨wB,hwB⟩:∃ wB,wA.alloc (.map #[] 0)=wB:=⟨_,rfl⟩
 obtain ⟨wC,hwC⟩:∃ wC,wB.alloc (.cells #[.pointer (some ⟨kp,0,none⟩),.map (some B),.map (some (B+1)),.slice none 0 0,.slice none 0 0] 31)=wC:=⟨_,rfl⟩
 obtain ⟨wD,hwD⟩:∃ wD,wC.alloc (.cells #[.int .u8 1,.int .u8 3] 52)=wD:=⟨_,rfl⟩
 have zA:wA.heap.size=B+1:=by rw [← hwA,← hB];exact World.size_alloc _ _
 have zB:wB.heap.size=B+1+1:=by rw [← hwB,← zA];exact World.size_alloc _ _
 have zC:wC.heap.size=B+1+1+1:=by rw [← hwC,← zB];exact World.size_alloc _ _
 have gA:Grew w3 wA:=hwA▸grew_alloc w3 _
 have gB:Grew wA wB:=hwB▸grew_alloc wA _
 have gC:Grew wB wC:=hwC▸grew_alloc wB _
 have gD:Grew wC wD:=hwD▸grew_alloc wC _
 have hm1:∀ ty,(Instr.makeMap ty none).run Tryz.prog w3=.ok (.map (some B)) wA:=fun ty=>by rw [hmk,hwA,hB]
 have hm2:∀ ty,(Instr.makeMap ty none).run Tryz.prog wA=.ok (.map (some (B+1))) wB:=fun ty=>by rw [hmk,hwB,zA]
 have oM1:wD.heap[B]? = some (mapObj []):=by
  have h1:wA.heap[B]? = some (mapObj []):=by rw [← hwA,← hB];exact World.alloc_heap_new _ _
  rw [((gB.trans gC).trans gD).block B (by omega)];exact h1
 have oM2:wD.heap[B+1]? = some (mapObj []):=by
  have h1:wB.heap[B+1]? = some (mapObj []):=by rw [← hwB,← zA];exact World.alloc_heap_new _ _
  rw [(gC.trans gD).block (B+1) (by omega)];exact h1
 have oS:Owns wD (B+1+1) [.pointer (some ⟨kp,0,none⟩),.map (some B),.map (some (B+1)),.slice none 0 0,.slice none 0 0] 31:=by
  have h1:Owns wC (B+1+1) [.pointer (some ⟨kp,0,none⟩),.map (some B),.map (some (B+1)),.slice none 0 0,.slice none 0 0] 31:=by rw [← hwC,← zB];exact Owns.alloc wB _ _
  exact h1.keep gD
 have hso:SortsAt wD wC.heap.size [1,3]:=by
  have ho:Owns wD wC.heap.size [.int .u8 1,.int .u8 3] 52:=hwD▸Owns.alloc wC _ _
  refine ⟨ho.lt,fun k hk=>?_⟩
  have hk:k=0∨k=1:=by simp at hk;omega
  rcases hk with rfl | rfl
  ·exact ho.cell_at (i:=0) rfl
  ·exact ho.cell_at (i:=1) rfl
 have gC3:Grew w3 wC:=(gA.trans gB).trans gC
 have HGC:=hid gC3
 have HGD:=hid (HG3.out.trans (gC3.trans gD))
 have HKD:=hid (gC3.trans gD)
 have oC:=HO3.out.keep gC3
 have c0:=oC.cell_at (i:=0) rfl
 have c1:=oC.cell_at (i:=1) rfl
 have c2:=oC.cell_at (i:=2) rfl
 have c3:=oC.cell_at (i:=3) rfl
 have cl:=oC.lt
 have HOD:=hid (oC.keep gD)
 have hot:=mof_ok g [1,3] (by simp) wD _ _ _ _ ((HGR.out.keep HGD.out).mono HGD.out.size) (by rw [HL.out];omega) (B+1+1+1) 2 (zC▸hso)
 obtain ⟨T,hT⟩:∃ T,g.of [1,3]=T:=⟨_,rfl⟩
 have HT:=hid hT
 rw [hT,HL.out] at hot
 have HOT:=hid hot
 have HM1:=hid oM1
 have HM2:=hid oM2
 have HSB:=hid oS
 clear hmk hwA hwB gA gB gC gD gC3 oM1 oM2 oS hso oC hot hT zA hB HG3 HO3
 go_wp2_with fail
 refine HOT.out.mono ?_
 rintro e w4 ⟨tv,rfl,hrow,hg4⟩
 obtain ⟨ta,tc,rfl⟩:∃ a c,tv=.slice a T.length c:=loose_form hrow
 have HTI:=hid (loose_ints hrow)
 have htl9:T.length≤60:=by rw [← HT.out];have:=Gr.ofTo_len g [1,3] g.rules.length;unfold Gr.of;rw [HL.out] at this ⊢;omega
 have HG4:=hid (HGD.out.trans hg4)
 have HK34:=hid (HKD.out.trans hg4)
 have hm1:w4.heap[B]? = some (mapObj []):=by rw [hg4.block B (Array.getElem?_eq_some_iff.1 HM1.out).1];exact HM1.out
 have hm2:w4.heap[B+1]? = some (mapObj []):=by rw [hg4.block (B+1) (Array.getElem?_eq_some_iff.1 HM2.out).1];exact HM2.out
 have HM14:=hid hm1
 have HM24:=hid hm2
 have HSB4:=hid (HSB.out.keep hg4)
 have HOG:=hid (HOD.out.keep hg4)
 have HRG:=hid ((HGR.out.keep HG4.out).mono (Nat.le_refl _))
 clear hrow hg4 hm1 hm2 c0 c1 c2 c3 cl HOT HM1 HM2 HSB HOD HGD HGC
 go_wp2_with fail
 go_loopw [29] (fun c wr=>∃ (j:Nat) (ka:Option Addr) (kc:Nat),c=.int .i64 j∧j≤T.length∧Hid (But (fun q=>q=B+1∨q=B+1+1) w4 wr)∧Hid (wr.heap[B+1]? = some (mapObj (nmapL (nmsTo g T j))))∧Hid (Owns wr (B+1+1) [.pointer (some ⟨kp,0,none⟩),.map (some B),.map (some (B+1)),.slice ka (kindsTo g T j).length kc,.slice none 0 0] 31)∧Hid (looseRow wr w4.heap.size 3 1 (.slice ka (kindsTo g T j).length kc) (kindsTo g T j).length (intVs (kindsTo g T j)))) (fun c _=>T.length - (intOf c).toNat)
 case atStart=>exact ⟨0,none,0,rfl,by omega,But.refl _ _,HM24.out,HSB4.out,⟨rfl,.inl ⟨rfl,rfl⟩⟩⟩
 case round =>
  obtain ⟨j,ka,kc,rfl,hj,HB,HM,HOB,HKR⟩:=hrel
  by_cases hlt:j < T.length
  ·as_aux_lemma =>
   have hTj:(g.of [1,3])[j]? = some (T[j]):=by rw [HT.out];exact List.getElem?_eq_getElem hlt
   obtain ⟨k,hk,hTk,-⟩:=of_get hTj
   obtain ⟨ta',tc',hta,hin⟩:=HTI.out
   cases hta
   obtain ⟨tb,to',rfl,htl,htc⟩:=hin j hlt
   rw [hTk] at htc hTj
   have hne1:=cell_mapS htc HM24.out
   have hne2:=owns_not HSB4.out htc (by simp)
   have t0:=cell_butS HB.out htc (by rintro (e | e);exact hne1 e;exact hne2 e)
   have tl:=lt_of_cell t0
   have HNEW:=hid (nms_new HNM.out hTj hk)
   rw [HT.out] at HNEW
   have hget:T.getD j 0=(k:Int):=by rw [List.getD_eq_getElem?_getD,← HT.out,hTj];rfl
   have HNX:Hid (nmsTo g T (j+1)=nmsTo g T j++[(g.rules[k].name,j)]):=hid (by rw [nmsTo,hget,Gr.rAt_nat g hk])
   have HKX:Hid (kindsTo g T (j+1)=if g.rules[k].sort=1 then kindsTo g T j++[(j:Int)] else kindsTo g T j):=hid (by rw [kindsTo,hget,Gr.rAt_nat g hk])
   have HKL:=hid (kindsTo_len g T j)
   obtain ⟨K,hK⟩:∃ K,kindsTo g T j=K:=⟨_,rfl⟩
   obtain ⟨NMS,hNMS⟩:∃ K,nmsTo g T j=K:=⟨_,rfl⟩
   rw [hK] at HKX HKR HOB HKL
   rw [hNMS] at HNX HNEW HM
   obtain ⟨kl,hkl⟩:∃ n,K.length=n:=⟨_,rfl⟩
   have HKLE:=hid hkl
   rw [hkl] at HKR HOB HKL
   have hkL:k < L:=by rw [← HL.out];exact hk
   have HUP:=hid (fun w' (hg:Grew wr w')=>run_name_new (w:=w') (b:=B+1) (nm:=g.rules[k].name) (k:=j) (l:=NMS) (by rw [hg.block _ (Array.getElem?_eq_some_iff.1 HM.out).1];exact HM.out) HNEW.out)
   have hblA:=HB.out.below (show W.heap.size≤w4.heap.size from HG4.out.size) (fun q e=>by have:=HFS.out;have:=HFB.out;omega)
   have hrgA:=HRG.out.keep hblA
   obtain ⟨-,-,-,-,-,-,xra,xrc,hxr,-,hrules⟩:=hrgA
   cases hxr
   obtain ⟨rb,ro,rfl,hrb,hrule⟩:=hrules.get hk
   simp only [Nat.zero_add] at hrule
   obtain ⟨x2,x3,x4,x5,x6,f0,f1,f2,f3,f4,f5,f6,f7,f8,f9,-,hbody⟩:=hrule.vals
   have gl:rb < wr.heap.size:=lt_of_cell f0
   have ogA:=HB.out.owns HOG.out (by have:=HFB.out;omega)
   have e3:=ogA.cell_at (i:=3) rfl
   have el:=ogA.lt
   have n1:=HOB.out.cell_at (i:=2) rfl
   have nl:=HOB.out.lt
   clear hTj hTk hin htc hne1 hne2 hget hrules hrule hK hNMS hkl f1 f2 f3 f4 f5 f6 f7 f8 f9 ogA hblA hbody
   go_upto_region 8 with fail
   refine wp_region_hav_lit follows (by kernel_rfl) ?_
   repeat ((first | refine HavG.skip (fun _=>rfl) ?_ | (refine HavG.val (fun _=>rfl) ?_ (fun x w hw _=>?_) ?_;rotate_left;(focus (have hc:=hw.cells;clear hw;go_simp;first | done | rfl))));simp only [Act.put,sia,scz,scs])
   refine HavG.tail (by kernel_rfl) (by kernel_rfl) (fun x w hw _=>?_)
   have HUW:=hid (HUP.out w hw)
   have HW9:=hid hw
   clear hw HUP t0 tl f0 gl e3 el n1 nl
   go_wp2_with fail
   rw [HUW.out]
   simp only [Result.andThen]
   have hMw:w.heap[B+1]? = some (mapObj (nmapL NMS)):=by rw [HW9.out.block _ (Array.getElem?_eq_some_iff.1 HM.out).1];exact HM.out
   have HB9:=hid (HB.out.trans (But.trans (But.of_grew (F:=fun q=>q=B+1∨q=B+1+1) HW9.out) (But.put (b:=B+1) (o:=mapObj (nmapL (NMS++[(g.rules[k].name,j)]))) (F:=fun q=>q=B+1∨q=B+1+1) (.inl rfl)) (fun _ _ h=>h)) (fun _ _ h=>h))
   have HM9:=hid (putObj_same (Array.getElem?_eq_some_iff.1 hMw).1 (mapObj (nmapL (NMS++[(g.rules[k].name,j)]))))
   have hbw:=(But.of_grew (F:=fun q=>q=B+1) HW9.out).trans (But.put (b:=B+1) (o:=mapObj (nmapL (NMS++[(g.rules[k].name,j)]))) (F:=fun q=>q=B+1) rfl) (fun _ _ h=>h)
   have HOB9:=hid (hbw.owns HOB.out (by omega))
   have HKR9:=hid (hbw.row HKR.out fun q hq e=>row_mapS HKR.out HM.out q hq e)
   clear hMw hbw
   generalize putObj w (B+1) (mapObj (nmapL (NMS++[(g.rules[k].name,j)])))=w9 at *
   have hblB:=HB9.out.below (show W.heap.size≤w4.heap.size from HG4.out.size) (fun q e=>by have:=HFS.out;have:=HFB.out;omega)
   have hrgB:=HRG.out.keep hblB
   obtain ⟨-,-,-,-,-,-,xra,xrc,hxr,-,hrules⟩:=hrgB
   cases hxr
   obtain ⟨rb',ro',hre,hrb,hrule⟩:=hrules.get hk
   cases hre
   simp only [Nat.zero_add] at hrule
   obtain ⟨x2,x3,x4,x5,x6,f0,f1,f2,f3,f4,f5,f6,f7,f8,f9,-,hbody⟩:=hrule.vals
   have gl:rb < w9.heap.size:=lt_of_cell f0
   have ogB:=HB9.out.owns HOG.out (by have:=HFB.out;omega)
   have e3:=ogB.cell_at (i:=3) rfl
   have el:=ogB.lt
   have n2:=HOB9.out.cell_at (i:=3) rfl
   have nl:=HOB9.out.lt
   clear hrules hrule f0 f2 f3 f4 f5 f6 f7 f8 f9 ogB hblB hbody
   by_cases hs1:g.rules[k].sort=1
   ·have hsb:(g.rules[k].sort == 1)=true:=by rw [hs1];rfl
    rw [if_pos hs1] at HKX
    go_upto_region 10 with fail
    clear f1 gl e3 el hsb hs1
    obtain ⟨w10,hw10⟩:∃ w10,w9.alloc (.cells #[.int .i64 (j:Int)] 3)=w10:=⟨_,rfl⟩
    have g10:Grew w9 w10:=hw10▸grew_alloc w9 _
    have o10:Owns w10 w9.heap.size [.int .i64 (j:Int)] 3:=hw10▸Owns.alloc w9 _ _
    have HNW:=hid (owns_newsO o10)
    have HG10:=hid g10
    have HKR10:=hid ((But.of_grew (F:=fun _=>False) g10).row HKR9.out (fun _ _ h=>h))
    have HONE:Hid (∀ x∈[Value.int .i64 (j:Int)],x.oneCell'=true):=hid fun x hx=>by rw [List.mem_singleton.1 hx];rfl
    obtain ⟨i0,hi,hz0,hz1,hz2⟩:=info_parts info_int
    have HI:=hid hi
    have HZ0:=hid hz0
    have HZ1:=hid hz1
    have HZ2:=hid hz2
    have hkl60:kl≤60:=by have:=HKL.out;omega
    have h63:kl+1≤maxLen:=by unfold maxLen;omega
    have h64:(kl+1) * 8≤140737488355328:=by omega
    have HLL:=hid (Nat.le_trans HB9.out.size g10.size)
    clear g10 o10 hi hz0 hz1 hz2
    have HAP:Hid (∀ gk cap' w11,looseRow w11 w4.heap.size 3 1 (.slice (some ⟨gk,0,none⟩) (kl+1) cap') (kl+1) (intVs K++[Value.int .i64 (j:Int)])→w10.grownBy w11 (Value.slice ka kl kc).ownBlock →
      B+1+1 < w11.heap.size∧w11.cell? ⟨B+1+1,3,none⟩=some (.slice ka kl kc)∧w11.frozen? ⟨B+1+1,3,none⟩=false ∧
      Hid (Owns (w11.setCell ⟨B+1+1,3,none⟩ (.slice (some ⟨gk,0,none⟩) (kl+1) cap')) (B+1+1) [.pointer (some ⟨kp,0,none⟩),.map (some B),.map (some (B+1)),.slice (some ⟨gk,0,none⟩) (kl+1) cap',.slice none 0 0] 31) ∧
      Hid (But (fun q=>q=B+1∨q=B+1+1) w4 (w11.setCell ⟨B+1+1,3,none⟩ (.slice (some ⟨gk,0,none⟩) (kl+1) cap'))) ∧
      Hid ((w11.setCell ⟨B+1+1,3,none⟩ (.slice (some ⟨gk,0,none⟩) (kl+1) cap')).heap[B+1]? = some (mapObj (nmapL (NMS++[(g.rules[k].name,j)])))) ∧
      Hid (looseRow (w11.setCell ⟨B+1+1,3,none⟩ (.slice (some ⟨gk,0,none⟩) (kl+1) cap')) w4.heap.size 3 1 (.slice (some ⟨gk,0,none⟩) (kl+1) cap') (kl+1) (intVs K++[Value.int .i64 (j:Int)]))):=hid fun gk cap' w11 hown hgrow=>by
     have hgb:=But.grown (F:=fun q=>(Value.slice ka kl kc).ownBlock=some q) hgrow fun _ e=>e
     have hkb:∀ q,(Value.slice ka kl kc).ownBlock=some q→w4.heap.size≤q:=fun q hq=>(row_type HKR10.out hq).1
     have hb4:B+1+1 < w4.heap.size:=HSB4.out.lt
     have O11:=hgb.owns (HOB9.out.keep HG10.out) (fun e=>by have:=hkb _ e;omega)
     have hM10:w10.heap[B+1]? = some (mapObj (nmapL (NMS++[(g.rules[k].name,j)]))):=by rw [HG10.out.block _ (Array.getElem?_eq_some_iff.1 HM9.out).1];exact HM9.out
     have hM11:w11.heap[B+1]? = some (mapObj (nmapL (NMS++[(g.rules[k].name,j)]))):=by rw [hgb.block _ (Array.getElem?_eq_some_iff.1 hM10).1 (fun e=>by have:=hkb _ e;omega)];exact hM10
     have hB11:But (fun q=>q=B+1∨q=B+1+1) w4 w11:=(HB9.out.trans (But.of_grew (F:=fun _=>False) HG10.out) (fun _ _ h=>h.elim)).trans hgb (fun i hi e=>by have:=hkb _ e;omega)
     have hb12:=set_but (i:=3) (v:=.slice (some ⟨gk,0,none⟩) (kl+1) cap') O11
     refine ⟨O11.lt,O11.cell_at (i:=3) rfl,O11.free 3,hid (O11.set 3 (.slice (some ⟨gk,0,none⟩) (kl+1) cap')),hid (hB11.trans hb12 (fun _ _ e=>.inr e)),hid ?_,hid (hb12.row hown fun q hq e=>type_ne (row_type hown hq).2.2 (owns_type O11) (by decide) e)⟩
     rw [hb12.block _ (Array.getElem?_eq_some_iff.1 hM11).1 (by omega)]
     exact hM11
    go_wp2_with (at_builtin;refine wpList_append_loose w10 rfl _ _ 22 rfl w4.heap.size 3 i0 _ 1 8 Tryz.underlying22 HI.out HZ0.out HZ1.out HZ2.out rfl (by decide) _ kl (intVs K) rfl HKR10.out ⟨w9.heap.size,0,none⟩ 1 1 [Value.int .i64 (j:Int)] rfl rfl HNW.out HONE.out (by decide) h63 h64 HLL.out _ rfl ?_;intro gk cap' w11 hown hgrow hat hlt11;obtain ⟨nl4,n4,ne4,O12,HB12,HM12,HR12⟩:=HAP.out gk cap' w11 hown hgrow;clear hown hgrow hat hlt11 n2 nl)
    refine ⟨⟨j+1,some ⟨gk,0,none⟩,cap',by go_num,by omega,HB12.out,by rw [HNX.out];exact HM12.out,?_,?_⟩,by simp [intOf];omega⟩
    ·rw [HKX.out,List.length_append,HKLE.out];exact O12.out
    ·rw [HKX.out,List.length_append,HKLE.out,intVs_snoc];exact HR12.out
   ·have hsb:(g.rules[k].sort == 1)=false:=beq_eq_false_iff_ne.2 hs1
    rw [if_neg hs1] at HKX
    go_wp2_with fail
    refine ⟨⟨j+1,ka,kc,by go_num,by omega,HB9.out,by rw [HNX.out];exact HM9.out,?_,?_⟩,by simp [intOf];omega⟩
    ·rw [HKX.out,HKLE.out];exact HOB9.out
    ·rw [HKX.out,HKLE.out];exact HKR9.out
  ·obtain rfl:j=T.length:=by omega
   have hblB:Below W.heap.size w4 wr:=HB.out.below HG4.out.size (fun q e=>by have:=HFS.out;have:=HFB.out;omega)
   have HGW:=hid (show Grew W wr from Below.trans HG4.out hblB)
   have HKW:=hid (show Grew w3 wr from Below.trans HK34.out (HB.out.below HK34.out.size (fun q e=>by have:=HBB.out;omega)))
   have ogW:=HB.out.owns HOG.out (by have:=HFB.out;omega)
   have e0:=ogW.cell_at (i:=0) rfl
   have e1:=ogW.cell_at (i:=1) rfl
   have e2:=ogW.cell_at (i:=2) rfl
   have e3:=ogW.cell_at (i:=3) rfl
   have el:=ogW.lt
   have hmB:wr.heap[B]? = some (mapObj []):=by rw [HB.out.block B (Array.getElem?_eq_some_iff.1 HM14.out).1 (by omega)];exact HM14.out
   obtain ⟨w5,hw5⟩:∃ w5,wr.alloc (.cells #[.int .u8 0] 52)=w5:=⟨_,rfl⟩
   have g5:Grew wr w5:=hw5▸grew_alloc wr _
   have hso:SortsAt w5 wr.heap.size [0]:=by
    have ho:Owns w5 wr.heap.size [.int .u8 0] 52:=hw5▸Owns.alloc wr _ _
    refine ⟨ho.lt,fun k hk=>?_⟩
    have hk:k=0:=by simp at hk;omega
    subst hk
    exact ho.cell_at (i:=0) rfl
   have hop:=mof_ok g [0] (by simp) w5 _ _ _ _ ((HGR.out.keep (HGW.out.trans g5)).mono (HGW.out.trans g5).size) (by rw [HL.out];omega) wr.heap.size 1 hso
   obtain ⟨P,hP⟩:∃ P,g.of [0]=P:=⟨_,rfl⟩
   have HP:=hid hP
   have HP0:Hid (0 < P.length):=hid (hP▸HFINE.out.start)
   rw [hP,HL.out] at hop
   have HOP:=hid hop
   have HG5:=hid g5
   have HOGW:=hid ogW
   have HMB:=hid hmB
   obtain ⟨K,hK⟩:∃ K,kindsTo g T T.length=K:=⟨_,rfl⟩
   have HKK:=hid hK
   have HKL:=hid (kindsTo_len g T T.length)
   rw [hK] at HKR HOB HKL
   obtain ⟨kl,hkl⟩:∃ n,K.length=n:=⟨_,rfl⟩
   have HKLE:=hid hkl
   rw [hkl] at HKR HOB HKL
   have hzB:B+1+1 < wr.heap.size:=HOB.out.lt
   clear hblB ogW hmB g5 hso hop hP hK hkl
   go_wp2_with fail
   refine HOP.out.mono ?_
   rintro e w6 ⟨pv,rfl,hrow,hg6⟩
   obtain ⟨pa,pc,rfl⟩:∃ a c,pv=.slice a P.length c:=loose_form hrow
   have HPI:=hid (loose_ints hrow)
   have hpl9:P.length≤60:=by rw [← HP.out];have:=Gr.ofTo_len g [0] g.rules.length;unfold Gr.of;rw [HL.out] at this ⊢;omega
   have hg56:=HG5.out.trans hg6
   have HG6:=hid (HGW.out.trans hg56)
   have HK6:=hid (HKW.out.trans hg56)
   have HMB6:=hid (show w6.heap[B]? = some (mapObj []) by rw [hg56.block B (Array.getElem?_eq_some_iff.1 HMB.out).1];exact HMB.out)
   have HMT6:=hid (show w6.heap[B+1]? = some (mapObj (nmapL (nmsTo g T T.length))) by rw [hg56.block (B+1) (Array.getElem?_eq_some_iff.1 HM.out).1];exact HM.out)
   have HOB6:=hid (HOB.out.keep hg56)
   have HKR6:=hid ((But.of_grew (F:=fun _=>False) hg56).row HKR.out (fun _ _ h=>h))
   have HOG6:=hid (HOGW.out.keep hg56)
   have HRG6:=hid ((HGR.out.keep HG6.out).mono (Nat.le_refl _))
   have HK4:=hid (show B+1+1 < w4.heap.size from HSB4.out.lt)
   clear hrow hg6 hg56 e0 e1 e2 e3 el HOP HMB HM HOB HKR HOGW HGW HB HG5 hw5 hzB HM14 HM24 HSB4 HRG HOG HTI
   go_wp2_with fail
   clear htl9
   go_loopw [70] (fun c wr=>∃ (j:Nat) (ba:Option Addr) (bc:Nat),c=.int .i64 j∧j≤P.length∧Hid (But (fun q=>q=B∨q=B+1+1) w6 wr)∧Hid (wr.heap[B]? = some (mapObj (nmapL (nmsTo g P j))))∧Hid (Owns wr (B+1+1) [.pointer (some ⟨kp,0,none⟩),.map (some B),.map (some (B+1)),.slice ka kl kc,.slice ba j bc] 31)∧Hid (SubsFp wr (fun b=>w6.heap.size≤b∧b < wr.heap.size∧(Value.slice ba j bc).ownBlock≠some b) w6.heap.size (.slice ba j bc) (bodsTo g P j))) (fun c _=>P.length - (intOf c).toNat)
   case atStart=>exact ⟨0,none,0,rfl,by omega,But.refl _ _,HMB6.out,HOB6.out,SubsFp.nil _ _ _⟩
   case round =>
    obtain ⟨j,ba,bc,rfl,hj,HB,HM,HOB,HSU⟩:=hrel
    by_cases hlt:j < P.length
    ·as_aux_lemma =>
     have hPj:(g.of [0])[j]? = some (P[j]):=by rw [HP.out];exact List.getElem?_eq_getElem hlt
     obtain ⟨k,hk,hPk,-⟩:=of_get hPj
     obtain ⟨pa',pc',hpa,hin⟩:=HPI.out
     cases hpa
     obtain ⟨pb,po',rfl,hpl,hpc⟩:=hin j hlt
     rw [hPk] at hpc hPj
     have hne1:=cell_mapS hpc HMB6.out
     have hne2:=owns_not HOB6.out hpc (by simp)
     have t0:=cell_butS HB.out hpc (by rintro (e | e);exact hne1 e;exact hne2 e)
     have tl:=lt_of_cell t0
     have HNEW:=hid (nms_new HNM.out hPj hk)
     rw [HP.out] at HNEW
     have hget:P.getD j 0=(k:Int):=by rw [List.getD_eq_getElem?_getD,← HP.out,hPj];rfl
     have HNX:Hid (nmsTo g P (j+1)=nmsTo g P j++[(g.rules[k].name,j)]):=hid (by rw [nmsTo,hget,Gr.rAt_nat g hk])
     have HBX:Hid (bodsTo g P (j+1)=bodsTo g P j++[g.rules[k].body]):=hid (by rw [bodsTo,hget,Gr.rAt_nat g hk])
     have HBL:=hid (bodsTo_len g P j)
     have HTB:=hid (HTOT.out k hk)
     obtain ⟨NMS,hNMS⟩:∃ K,nmsTo g P j=K:=⟨_,rfl⟩
     rw [hNMS] at HNX HNEW HM
     have hkL:k < L:=by rw [← HL.out];exact hk
     have HUP:=hid (fun w' (hg:Grew wr w')=>run_name_new (w:=w') (b:=B) (nm:=g.rules[k].name) (k:=j) (l:=NMS) (by rw [hg.block _ (Array.getElem?_eq_some_iff.1 HM.out).1];exact HM.out) HNEW.out)
     have hblA:=HB.out.below (show W.heap.size≤w6.heap.size from HG6.out.size) (fun q e=>by have:=HFS.out;have:=HFB.out;omega)
     have hrgA:=HRG6.out.keep hblA
     obtain ⟨-,-,-,-,-,-,xra,xrc,hxr,-,hrules⟩:=hrgA
     cases hxr
     obtain ⟨rb,ro,rfl,hrb,hrule⟩:=hrules.get hk
     simp only [Nat.zero_add] at hrule
     obtain ⟨x2,x3,x4,x5,x6,f0,f1,f2,f3,f4,f5,f6,f7,f8,f9,-,hbody⟩:=hrule.vals
     have gl:rb < wr.heap.size:=lt_of_cell f0
     have ogA:=HB.out.owns HOG6.out (by have:=HFB.out;omega)
     have e3:=ogA.cell_at (i:=3) rfl
     have el:=ogA.lt
     have n0:=HOB.out.cell_at (i:=1) rfl
     have nl:=HOB.out.lt
     clear hPj hPk hin hpc hne1 hne2 hget hrules hrule hNMS f1 f2 f3 f4 f5 f6 f7 f8 f9 ogA hblA hbody
     go_upto_region 15 with fail
     refine wp_region_hav_lit follows (by kernel_rfl) ?_
     repeat ((first | refine HavG.skip (fun _=>rfl) ?_ | (refine HavG.val (fun _=>rfl) ?_ (fun x w hw _=>?_) ?_;rotate_left;(focus (have hc:=hw.cells;clear hw;go_simp;first | done | rfl))));simp only [Act.put,sia,scz,scs])
     refine HavG.tail (by kernel_rfl) (by kernel_rfl) (fun x w hw _=>?_)
     have HUW:=hid (HUP.out w hw)
     have HW9:=hid hw
     clear hw HUP t0 tl f0 gl e3 el n0 nl
     go_wp2_with fail
     rw [HUW.out]
     simp only [Result.andThen]
     have hMw:w.heap[B]? = some (mapObj (nmapL NMS)):=by rw [HW9.out.block _ (Array.getElem?_eq_some_iff.1 HM.out).1];exact HM.out
     have HB9:=hid (HB.out.trans (But.trans (But.of_grew (F:=fun q=>q=B∨q=B+1+1) HW9.out) (But.put (b:=B) (o:=mapObj (nmapL (NMS++[(g.rules[k].name,j)]))) (F:=fun q=>q=B∨q=B+1+1) (.inl rfl)) (fun _ _ h=>h)) (fun _ _ h=>h))
     have HM9:=hid (putObj_same (Array.getElem?_eq_some_iff.1 hMw).1 (mapObj (nmapL (NMS++[(g.rules[k].name,j)]))))
     have hbw:=(But.of_grew (F:=fun q=>q=B) HW9.out).trans (But.put (b:=B) (o:=mapObj (nmapL (NMS++[(g.rules[k].name,j)]))) (F:=fun q=>q=B) rfl) (fun _ _ h=>h)
     have HOB9:=hid (hbw.owns HOB.out (by omega))
     have hB6:B < w6.heap.size:=(Array.getElem?_eq_some_iff.1 HMB6.out).1
     have HSU9:=hid (HSU.out.keep (T:=fun b=>w6.heap.size≤b∧b < (putObj w B (mapObj (nmapL (NMS++[(g.rules[k].name,j)])))).heap.size∧(Value.slice ba j bc).ownBlock≠some b) (fun b hb=>⟨⟨hb.1,Nat.lt_of_lt_of_le hb.2.1 hbw.size,hb.2.2⟩,hbw.block b hb.2.1 (by omega)⟩) (fun b hb=>by
      obtain ⟨us,k1,k2,k3⟩:=HSU.out
      obtain ⟨q1,q2,-⟩:=row_type k2 hb
      exact hbw.block b q2 (by omega)))
     clear hMw hbw hB6
     generalize putObj w B (mapObj (nmapL (NMS++[(g.rules[k].name,j)])))=w9 at *
     have hblB:=HB9.out.below (show W.heap.size≤w6.heap.size from HG6.out.size) (fun q e=>by have:=HFS.out;have:=HFB.out;omega)
     have hrgB:=HRG6.out.keep hblB
     obtain ⟨-,-,-,-,-,-,xra,xrc,hxr,-,hrules⟩:=hrgB
     cases hxr
     obtain ⟨rb',ro',hre,hrb,hrule⟩:=hrules.get hk
     cases hre
     simp only [Nat.zero_add] at hrule
     obtain ⟨x2,x3,x4,x5,x6,f0,f1,f2,f3,f4,f5,f6,f7,f8,f9,-,hbody⟩:=hrule.vals
     have gl:rb < w9.heap.size:=lt_of_cell f0
     have ogB:=HB9.out.owns HOG6.out (by have:=HFB.out;omega)
     have e3:=ogB.cell_at (i:=3) rfl
     have el:=ogB.lt
     have n3:=HOB9.out.cell_at (i:=4) rfl
     have nl:=HOB9.out.lt
     obtain ⟨m0,m1,m2,m3,m4,m5,m6,m7,m8,rfl,rfl,rfl,rfl,rfl⟩:=hbody.forms
     obtain ⟨bd,hbd⟩:∃ bd,g.rules[k].body=bd:=⟨_,rfl⟩
     rw [hbd] at hbody HBX HTB
     have HNB:=hid hbody
     have HGW9:=hid (show Grew W w9 from Below.trans HG6.out hblB)
     have HCALL:Hid (∀ w,Grew w9 w→Calls Tryz.prog 30 #[.agg #[.int .u8 m0,.string m1,.string m2,.slice m3 m4 m5,.slice m6 m7 m8]] w (CopyIs bd w)):=hid fun w hw =>
      ncopy_ok bd HTB.out w _ _ _ _ _ ((HNB.out.keep (hw.mono HGW9.out.size)).mono (HGW9.out.trans hw).size)
     clear hrules hrule f0 f1 f7 f8 f9 ogB hblB hbody hbd
     go_upto_region 16 with fail
     refine wp_region_havA_lit follows (by kernel_rfl) ?_
     iterate 11 ((first | refine HavA.skip (fun _=>rfl) ?_ | (refine HavA.val (fun _=>rfl) ?_ (fun x w hw _=>?_) ?_;rotate_left;(focus (have hc:=hw.cells;clear hw;go_simp;first | done | rfl))));simp only [Act.put,sia,scz,scs])
     refine HavA.any (fun _=>rfl) (CpA bd w9.heap.size) (fun _ _ _ hg h=>h.keep hg) (fun x w hw hd=>?_) ?_
     ·clear hd
      have HW:=hid hw
      clear hw
      go_simp
      refine (HCALL.out w HW.out).mono ?_
      rintro e w' ⟨x0,x1,x2,x3,x4,rfl,hn,hg⟩
      exact ⟨hg,x0,x1,x2,x3,x4,rfl,hn.keep fun b hb=>⟨⟨Nat.le_trans HW.out.size hb.1,hb.2⟩,rfl⟩⟩
     simp only [Act.put,sia,scz,scs]
     iterate 1 ((first | refine HavA.skip (fun _=>rfl) ?_ | (refine HavA.val (fun _=>rfl) ?_ (fun x w hw _=>?_) ?_;rotate_left;(focus (have hc:=hw.cells;clear hw;go_simp;first | done | rfl))));simp only [Act.put,sia,scz,scs])
     refine HavA.any (fun _=>rfl) (ZeR w9.heap.size) (fun _ _ _ hg h=>h.keep hg) (fun x w hw hd=>?_) ?_
     ·have HW:=hid hw
      clear hd hw
      obtain ⟨BU,hBU⟩:∃ f,f=Instr.buildSlice 27 1:=⟨_,rfl⟩
      have hbs:=build_node1 w 0 ⟨#[]⟩ ⟨#[]⟩ none 0 0 none 0 0
      rw [← hBU] at hbs
      rw [exec_slice (w':=w.alloc (.cells #[.int .u8 0,.string { data:=#[] },.string { data:=#[] },.slice none 0 0,.slice none 0 0] 80)) BU rfl hBU (v:=.slice (some ⟨w.heap.size,0,none⟩) 1 1) (by clear hBU;go_simp)]
      exact ⟨grew_alloc w _,_,rfl,HW.out.size,Owns.alloc w _ _⟩
     simp only [Act.put,sia,scz,scs]
     refine HavA.tail (by kernel_rfl) (fun x w10 hg hd=>?_)
     obtain ⟨x0,x1,x2,x3,x4,hx,hn⟩:=hd _ (List.mem_append_left _ (List.mem_append_right _ (List.mem_singleton.2 rfl)))
     obtain ⟨t,hx2,ht,hot⟩:=hd _ (List.mem_append_right _ (List.mem_singleton.2 rfl))
     dsimp only at hx hx2
     obtain ⟨y0,y1,y2,y3,y4,y5,y6,y7,y8,rfl,rfl,rfl,rfl,rfl⟩:=hn.forms
     simp only [hx,hx2]
     clear hd hx hx2
     have HN10:=hid hn
     have HG10:=hid hg
     have HNW:=hid (owns_newsO hot)
     have HONE:Hid (∀ x∈[Value.int .u8 0,.string { data:=#[] },.string { data:=#[] },.slice none 0 0,.slice none 0 0],x.oneCell'=true):=hid fun x hx=>by
      simp only [List.mem_cons,List.not_mem_nil,or_false] at hx
      rcases hx with rfl | rfl | rfl | rfl | rfl<;>rfl
     obtain ⟨us,k1,k2,k3⟩:=HSU9.out
     rw [HBL.out] at k1 k2
     have hrow10:=(But.of_grew (F:=fun _=>False) hg).row k2 (fun _ _ h=>h)
     have HROW10:=hid hrow10
     have HKT:=hid fun q hq=>(row_type k2 (k:=q) hq).1
     have HKS:=hid fun q hq=>(row_type k2 (k:=q) hq).2.1
     have HK1:=hid k1
     have HK3:=hid k3
     obtain ⟨i0,hi,hz0,hz1,hz2⟩:=info_parts info_node
     have h63:j+1≤maxLen:=by unfold maxLen;omega
     have h64:(j+1) * 88≤140737488355328:=by omega
     have HLL:=hid (Nat.le_trans HB9.out.size hg.size)
     clear hn hg hot k1 k2 k3 hrow10 n3 nl gl e3 el f2 f3 f4 f5 f6
     refine wpAny_all (rs:=[14]) (by kernel_rfl) (by simp) (fun i hi=>?_)
     obtain rfl:=List.mem_singleton.1 hi
     refine wpOp_at rfl rfl ?_
     refine wp_append_loose w10 _ _ 27 rfl w6.heap.size 80 i0 _ 5 88 Tryz.underlying27 (by assumption) hz0 hz1 hz2 rfl (by decide) _ j (us.flatMap v5) rfl HROW10.out ⟨t,0,none⟩ 1 1 [Value.int .u8 0,.string { data:=#[] },.string { data:=#[] },.slice none 0 0,.slice none 0 0] rfl rfl HNW.out HONE.out (by decide) h63 h64 HLL.out _ rfl ?_
     intro gb cap' w11 hown hgrow hat hlt11
     simp only [List.getElem_toArray,List.getElem_cons_succ,List.getElem_cons_zero,Act.put,sia,scz,scs]
     refine wpAny_take (i:=15) (v:=.pointer (some ⟨gb,j * 5,none⟩)) rfl (by kernel_rfl) (by kernel_rfl) (by kernel_rfl) (fun _ _ _ h=>h) (.inl ⟨rfl,fun w=>?_⟩) ?_
     ·clear hown hgrow hat hlt11 h63 h64 hz0 hz1 hz2
      go_simp
      intro h
      omega
     simp only [List.getElem_toArray,List.getElem_cons_succ,List.getElem_cons_zero,Act.put,sia,scz,scs]
     refine wpAny_take (i:=17) (v:=.pointer (some ⟨B+1+1,0,none⟩)) rfl (by kernel_rfl) (by kernel_rfl) (by kernel_rfl) (fun _ _ _ h=>h) (.inl ⟨rfl,fun w=>?_⟩) ?_
     ·clear hown hgrow hat hlt11 h63 h64 hz0 hz1 hz2
      go_simp
     simp only [List.getElem_toArray,List.getElem_cons_succ,List.getElem_cons_zero,Act.put,sia,scz,scs]
     refine wpAny_take (i:=18) (v:=.pointer (some ⟨B+1+1,0,none⟩)) rfl (by kernel_rfl) (by kernel_rfl) (by kernel_rfl) (fun _ _ _ h=>h) (.inl ⟨rfl,fun w=>?_⟩) ?_
     ·clear hown hgrow hat hlt11 h63 h64 hz0 hz1 hz2
      go_simp
     simp only [List.getElem_toArray,List.getElem_cons_succ,List.getElem_cons_zero,Act.put,sia,scz,scs]
     refine wpAny_take (i:=19) (v:=.pointer (some ⟨B+1+1,4,none⟩)) rfl (by kernel_rfl) (by kernel_rfl) (by kernel_rfl) (fun _ _ _ h=>h) (.inl ⟨rfl,fun w=>?_⟩) ?_
     ·clear hown hgrow hat hlt11 h63 h64 hz0 hz1 hz2
      go_simp
     simp only [List.getElem_toArray,List.getElem_cons_succ,List.getElem_cons_zero,Act.put,sia,scz,scs]
     have hgb:=But.grown (F:=fun q=>(Value.slice ba j bc).ownBlock=some q) hgrow fun _ e=>e
     have hb6:B+1+1 < w6.heap.size:=HOB6.out.lt
     have hg6:w6.heap.size≤gb:=by
      rcases hat with e | e
      ·exact HKT.out _ e
      ·have:=HLL.out;omega
     have HGB6:=hid hg6
     have O11:=hgb.owns (HOB9.out.keep HG10.out) (fun e=>by have:=HKT.out _ e;omega)
     have HO11:=hid O11
     have HOWN:=hid hown
     have hxl:(us.flatMap v5).length=j * 5:=by rw [fmap_len v5 5 v5_len,HK1.out]
     obtain ⟨hset,hbset⟩:=loose_set5 hown hxl (.int .u8 y0) (.string y1) (.string y2) (.slice y3 y4 y5) (.slice y6 y7 y8)
     have HSET:=hid hset
     have HBSET:=hid hbset
     have hxl2:∀ i,i < 5→j * 5+i < (us.flatMap v5++[Value.int .u8 0,.string { data:=#[] },.string { data:=#[] },.slice none 0 0,.slice none 0 0]).length:=fun i hi=>by rw [List.length_append,hxl];simp;omega
     have hzz:∀ i,(us.flatMap v5++[Value.int .u8 0,.string { data:=#[] },.string { data:=#[] },.slice none 0 0,.slice none 0 0])[j * 5+i]? = [Value.int .u8 0,.string { data:=#[] },.string { data:=#[] },.slice none 0 0,.slice none 0 0][i]?:=fun i=>by rw [List.getElem?_append_right (by rw [hxl];omega),hxl,show j * 5+i - j * 5=i by omega]
     have hcell:=looseRow_cells hown (g:=gb) rfl
     have HCELL:Hid (w11.cell? ⟨gb,j * 5,none⟩=some (.int .u8 0)∧w11.cell? ⟨gb,j * 5+1,none⟩=some (.string { data:=#[] })∧w11.cell? ⟨gb,j * 5+2,none⟩=some (.string { data:=#[] })∧w11.cell? ⟨gb,j * 5+3,none⟩=some (.slice none 0 0)∧w11.cell? ⟨gb,j * 5+4,none⟩=some (.slice none 0 0)):=hid ⟨hcell _ _ (by have:=hzz 0;simpa using this),hcell _ _ (by rw [hzz 1];rfl),hcell _ _ (by rw [hzz 2];rfl),hcell _ _ (by rw [hzz 3];rfl),hcell _ _ (by rw [hzz 4];rfl)⟩
     have HFREE:Hid (∀ o,w11.frozen? ⟨gb,o,none⟩=false):=hid fun o=>by
      obtain ⟨-,-,cur,hc⟩:=row_type hown (k:=gb) rfl
      simp [World.frozen?,hc]
     have HLT:=hid hlt11
     have HFIN:Hid (∀ wx,But (fun q=>q=gb∨q=B+1+1) w11 wx→Owns wx (B+1+1) [.pointer (some ⟨kp,0,none⟩),.map (some B),.map (some (B+1)),.slice ka kl kc,.slice (some ⟨gb,0,none⟩) (j+1) cap'] 31→looseRow wx w6.heap.size 80 5 (.slice (some ⟨gb,0,none⟩) (j+1) cap') (j+1) (us.flatMap v5++[.int .u8 y0,.string y1,.string y2,.slice y3 y4 y5,.slice y6 y7 y8]) →
       ∃ (ba':Option Addr) (bc':Nat),Hid (But (fun q=>q=B∨q=B+1+1) w6 wx)∧Hid (wx.heap[B]? = some (mapObj (nmapL (NMS++[(g.rules[k].name,j)]))))∧Hid (Owns wx (B+1+1) [.pointer (some ⟨kp,0,none⟩),.map (some B),.map (some (B+1)),.slice ka kl kc,.slice ba' (j+1) bc'] 31)∧Hid (SubsFp wx (fun b=>w6.heap.size≤b∧b < wx.heap.size∧(Value.slice ba' (j+1) bc').ownBlock≠some b) w6.heap.size (.slice ba' (j+1) bc') (bodsTo g P (j+1)))):=hid fun wx hbx hox hrx=>by
      have hM10:w10.heap[B]? = some (mapObj (nmapL (NMS++[(g.rules[k].name,j)]))):=by rw [HG10.out.block _ (Array.getElem?_eq_some_iff.1 HM9.out).1];exact HM9.out
      have hM11:w11.heap[B]? = some (mapObj (nmapL (NMS++[(g.rules[k].name,j)]))):=by rw [hgb.block _ (Array.getElem?_eq_some_iff.1 hM10).1 (fun e=>by have:=HKT.out _ e;omega)];exact hM10
      have hB11:But (fun q=>q=B∨q=B+1+1) w6 w11:=(HB9.out.trans (But.of_grew (F:=fun _=>False) HG10.out) (fun _ _ h=>h.elim)).trans hgb (fun i hi e=>by have:=HKT.out _ e;omega)
      have hold:∀ b,(w6.heap.size≤b∧b < w9.heap.size∧(Value.slice ba j bc).ownBlock≠some b)→(w6.heap.size≤b∧b < wx.heap.size∧(Value.slice (some ⟨gb,0,none⟩) (j+1) cap').ownBlock≠some b)∧wx.heap[b]? = w9.heap[b]?:=by
       rintro b ⟨r1,r2,r3⟩
       have r5:b < w10.heap.size:=Nat.lt_of_lt_of_le r2 HG10.out.size
       have r6:b < w11.heap.size:=Nat.lt_of_lt_of_le r5 hgb.size
       have r7:b≠gb:=by
        rintro rfl
        rcases hat with e | e
        ·exact r3 e
        ·omega
       refine ⟨⟨r1,Nat.lt_of_lt_of_le r6 hbx.size,fun e=>r7 (Option.some.inj e).symm⟩,?_⟩
       rw [hbx.block b r6 (by rintro (e | e);exact r7 e;omega),hgb.block b r5 r3,HG10.out.block b r2]
      have hnew:∀ b,(w9.heap.size≤b∧b < w10.heap.size)→(w6.heap.size≤b∧b < wx.heap.size∧(Value.slice (some ⟨gb,0,none⟩) (j+1) cap').ownBlock≠some b)∧wx.heap[b]? = w10.heap[b]?:=by
       rintro b ⟨r1,r2⟩
       have r6:b < w11.heap.size:=Nat.lt_of_lt_of_le r2 hgb.size
       have r8:w6.heap.size≤b:=Nat.le_trans HB9.out.size r1
       have r3:(Value.slice ba j bc).ownBlock≠some b:=fun e=>by have:=HKS.out _ e;omega
       have r7:b≠gb:=by
        rintro rfl
        rcases hat with e | e
        ·exact r3 e
        ·omega
       refine ⟨⟨r8,Nat.lt_of_lt_of_le r6 hbx.size,fun e=>r7 (Option.some.inj e).symm⟩,?_⟩
       rw [hbx.block b r6 (by rintro (e | e);exact r7 e;omega),hgb.block b r2 r3]
      refine ⟨some ⟨gb,0,none⟩,cap',hid (hB11.trans hbx ?_),hid ?_,hid hox,hid ⟨us++[(.int .u8 y0,.string y1,.string y2,.slice y3 y4 y5,.slice y6 y7 y8)],?_,?_,?_⟩⟩
      ·rintro i hi (e | e)
       ·omega
       ·exact .inr e
      ·rw [hbx.block _ (Array.getElem?_eq_some_iff.1 hM11).1 (by rintro (e | e)<;>omega)]
       exact hM11
      ·rw [List.length_append,List.length_singleton,bodsTo_len,HK1.out]
      ·rw [bodsTo_len,List.flatMap_append,List.flatMap_singleton]
       exact hrx
      ·rw [HBX.out]
       intro i u n hu hn
       by_cases hi:i < us.length
       ·rw [List.getElem?_append_left hi] at hu
        rw [List.getElem?_append_left (by rw [HBL.out,← HK1.out];exact hi)] at hn
        exact (HK3.out i u n hu hn).keep hold
       ·have hil:i=us.length:=by
         have:=(List.getElem?_eq_some_iff.1 hu).1
         simp at this
         omega
        subst hil
        rw [List.getElem?_append_right (Nat.le_refl _),Nat.sub_self] at hu
        rw [HK1.out,List.getElem?_append_right (by rw [HBL.out];exact Nat.le_refl _),HBL.out,Nat.sub_self] at hn
        cases hu
        cases hn
        exact HN10.out.keep hnew
     clear hgb hset hbset hxl hxl2 hzz hcell hown hgrow hat hlt11 h63 h64 hz0 hz1 hz2 hg6 O11
     refine wpAny_all (rs:=[16,20]) (by kernel_rfl) (by simp) (fun i hi=>?_)
     rcases List.mem_cons.1 hi with rfl | hi
     ·refine wpOp_at rfl rfl ?_
      obtain ⟨z0,z1,z2,z3,z4⟩:=HCELL.out
      have hst:=run_store_node z0 z1 z2 z3 z4 HFREE.out y0 y1 y2 y3 y4 y5 y6 y7 y8
      have hbk:=HBSET.out.owns HO11.out (by have:=HGB6.out;have:=HOB6.out.lt;omega)
      have HBK:=hid hbk
      have hst2:=run_store_sl (hbk.cell_at (i:=4) rfl) (hbk.free 4) (some ⟨gb,0,none⟩) (j+1) cap'
      have hF:=HFIN.out _ ((HBSET.out.wide (G:=fun q=>q=gb∨q=B+1+1) fun _ _ e=>.inl e).trans (set_but (i:=4) (v:=.slice (some ⟨gb,0,none⟩) (j+1) cap') hbk) fun _ _ e=>.inr e) (hbk.set 4 (.slice (some ⟨gb,0,none⟩) (j+1) cap')) ((set_but (i:=4) (v:=.slice (some ⟨gb,0,none⟩) (j+1) cap') hbk).row HSET.out fun q hq e=>by
       have:=(row_type HSET.out hq).1
       have:=HOB6.out.lt
       omega)
      have HF:=hid hF
      refine wp_store rfl _ _ rfl rfl hst ?_
      simp only [List.getElem_toArray,List.getElem_cons_succ,List.getElem_cons_zero,Act.put]
      refine wpAny_all (rs:=[20]) (by kernel_rfl) (by simp) (fun i hi=>?_)
      obtain rfl:=List.mem_singleton.1 hi
      refine wpOp_at rfl rfl ?_
      refine wp_store rfl _ _ rfl rfl hst2 ?_
      simp only [List.getElem_toArray,List.getElem_cons_succ,List.getElem_cons_zero,Act.put]
      refine wpAny_done (by kernel_rfl) ?_ _
      go_wp2_with fail
      obtain ⟨ba',bc',q1,q2,q3,q4⟩:=HF.out
      refine ⟨⟨j+1,ba',bc',by go_num,by omega,q1,by rw [HNX.out];exact q2,q3,q4⟩,by simp [intOf];omega⟩
     ·obtain rfl:=List.mem_singleton.1 hi
      refine wpOp_at rfl rfl ?_
      have hst2:=run_store_sl (HO11.out.cell_at (i:=4) rfl) (HO11.out.free 4) (some ⟨gb,0,none⟩) (j+1) cap'
      have hb12:=set_but (i:=4) (v:=.slice (some ⟨gb,0,none⟩) (j+1) cap') HO11.out
      have ho12:=HO11.out.set 4 (.slice (some ⟨gb,0,none⟩) (j+1) cap')
      have hne:gb≠B+1+1:=by have:=HGB6.out;have:=HOB6.out.lt;omega
      have hr12:=hb12.row HOWN.out fun q hq e=>by
       have:=(row_type HOWN.out hq).1
       have:=HOB6.out.lt
       omega
      have hxl:(us.flatMap v5).length=j * 5:=by rw [fmap_len v5 5 v5_len,HK1.out]
      obtain ⟨hset,hbset⟩:=loose_set5 hr12 hxl (.int .u8 y0) (.string y1) (.string y2) (.slice y3 y4 y5) (.slice y6 y7 y8)
      obtain ⟨z0,z1,z2,z3,z4⟩:=HCELL.out
      have hst:=run_store_node (cell_butS hb12 z0 hne) (cell_butS hb12 z1 hne) (cell_butS hb12 z2 hne) (cell_butS hb12 z3 hne) (cell_butS hb12 z4 hne) (fun o=>by
       obtain ⟨-,-,cur,hc⟩:=row_type hr12 (k:=gb) rfl
       simp [World.frozen?,hc]) y0 y1 y2 y3 y4 y5 y6 y7 y8
      have hF:=HFIN.out _ ((hb12.wide (G:=fun q=>q=gb∨q=B+1+1) fun _ _ e=>.inr e).trans hbset fun _ _ e=>.inl e) (hbset.owns ho12 fun e=>hne e.symm) hset
      have HF:=hid hF
      refine wp_store rfl _ _ rfl rfl hst2 ?_
      simp only [List.getElem_toArray,List.getElem_cons_succ,List.getElem_cons_zero,Act.put]
      refine wpAny_all (rs:=[16]) (by kernel_rfl) (by simp) (fun i hi=>?_)
      obtain rfl:=List.mem_singleton.1 hi
      refine wpOp_at rfl rfl ?_
      refine wp_store rfl _ _ rfl rfl hst ?_
      simp only [List.getElem_toArray,List.getElem_cons_succ,List.getElem_cons_zero,Act.put]
      refine wpAny_done (by kernel_rfl) ?_ _
      go_wp2_with fail
      obtain ⟨ba',bc',q1,q2,q3,q4⟩:=HF.out
      refine ⟨⟨j+1,ba',bc',by go_num,by omega,q1,by rw [HNX.out];exact q2,q3,q4⟩,by simp [intOf];omega⟩
    ·obtain rfl:j=P.length:=by omega
     obtain ⟨n,hn⟩:∃ n,P.length=n:=⟨_,rfl⟩
     have HFINL:Hid (∃ T:XT,Value.pointer (some ⟨B+1+1,0,none⟩)=T.ptr∧T.B=bookOf g∧T.At wr.heap.size wr):=hid (by
      have hbk0:bookOf g=(book0 g T P).iter (P.length+1):=by
       unfold bookOf
       rw [HT.out,HP.out]
      obtain ⟨r1,r2,r3,r4⟩:=(book0 g T P).iter_rest (P.length+1)
      rw [← hbk0] at r1 r2 r3 r4
      have r1':(bookOf g).rules=nmsTo g P P.length:=r1
      have r2':(bookOf g).tokens=nmsTo g T T.length:=r2
      have r3':(bookOf g).kinds=kindsTo g T T.length:=r3
      have r4':(bookOf g).bodies=bodsTo g P P.length:=r4
      have hb6:B+1+1 < w6.heap.size:=HOB6.out.lt
      have hkr:=HB.out.row HKR6.out fun q hq e=>by
       rcases e with e | e
       ·exact row_mapS HKR6.out HMB6.out q hq e
       ·exact type_ne (row_type HKR6.out hq).2.2 (owns_type HOB6.out) (by decide) e
      have hmt:wr.heap[B+1]? = some (mapObj (nmapL (nmsTo g T T.length))):=by rw [HB.out.block _ (Array.getElem?_eq_some_iff.1 HMT6.out).1 (by omega)];exact HMT6.out
      have hbk:=HOB.out.lt
      obtain ⟨a',c',e,-,hnodes⟩:=HSU.out.nodes (T:=fun b=>b < wr.heap.size∧b≠B+1+1) (fun b hb=>⟨hb.2.1,by have:=hb.1;omega⟩) (fun b hb=>by
       obtain ⟨us,k1,k2,k3⟩:=HSU.out
       obtain ⟨q1,q2,-⟩:=row_type k2 hb
       exact ⟨q2,by omega⟩)
      simp only [Value.slice.injEq] at e
      obtain ⟨rfl,-,rfl⟩:=e
      have hpb:(bodsTo g P P.length).length=P.length:=bodsTo_len g P _
      have hK3:Grew w3 wr:=Below.trans HK6.out (HB.out.below HK6.out.size fun q e=>by have:=HBB.out;omega)
      refine ⟨⟨B+1+1,kp,B,B+1,V,.slice ka kl kc,ba,bc,bookOf g⟩,rfl,rfl,⟨Nat.le_refl _,hbk,?_,?_,?_,?_,⟨show B < wr.heap.size by omega,show B+1 < wr.heap.size by omega⟩,?_,?_⟩⟩
      ·show Owns wr (B+1+1) [.pointer (some ⟨kp,0,none⟩),.map (some B),.map (some (B+1)),.slice ka kl kc,.slice ba (bookOf g).bodies.length bc] 31
       rw [r4',hpb]
       exact HOB.out
      ·exact (HBOOK.out.grew hK3).at_
      ·show wr.heap[B]? = some (mapObj (nmapL (bookOf g).rules))
       rw [r1']
       exact HM.out
      ·show wr.heap[B+1]? = some (mapObj (nmapL (bookOf g).tokens))
       rw [r2']
       exact hmt
      ·show IntsV wr wr.heap.size (.slice ka kl kc) (bookOf g).kinds
       rw [r3',HKK.out]
       rw [← HKLE.out] at hkr ⊢
       exact loose_ints hkr
      ·show NodesAt wr wr.heap.size ba 0 (bookOf g).bodies
       rw [r4']
       exact hnodes.at fun b hb=>hb.1)
     have hGW:Grew W wr:=Below.trans HG6.out (HB.out.below HG6.out.size fun q e=>by have:=HFS.out;have:=HFB.out;omega)
     have HGW:=hid hGW
     clear hGW hn
     go_wp2_with fail
     show Q (.returned (.tuple #[.pointer (some ⟨B+1+1,0,none⟩),.int .i64 0])) wr
     rw [← HQ.out]
     obtain ⟨T0,t1,t2,t3⟩:=HFINL.out
     exact .inr ⟨T0,by rw [t1],HSOUND.out,HFINE.out,t2,t3,HGW.out⟩
end Go.Proofs.YtppjmdanckdobaaGreatDoor
