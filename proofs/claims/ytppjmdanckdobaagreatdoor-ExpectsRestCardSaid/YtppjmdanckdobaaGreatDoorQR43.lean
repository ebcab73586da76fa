/- nodes.Copy: a node in new memory. -/
import Derived.Test.YtppjmdanckdobaaGreatDoorQR42
import Derived.Test.YtppjmdanckdobaaGreatDoorQR24
namespace Go.Proofs.YtppjmdanckdobaaGreatDoor
open Go.RowKit
open Lib (hid)
def CopyIs (n:Nd) (W:World) (e:Ending) (W':World):Prop:=∃ v0 v1 v2 v3 v4,e=.returned (.agg #[v0,v1,v2,v3,v4])∧NodeFp W' (fun b=>W.heap.size≤b∧b < W'.heap.size) (some v0) (some v1) (some v2) (some v3) (some v4) n∧Grew W W'
theorem NodeFp.grew {w w':World} {base:Nat} {c0 c1 c2 c3 c4:Option Value} {n:Nd} (h:NodeFp w (fun b=>base≤b∧b < w.heap.size) c0 c1 c2 c3 c4 n) (hg:Grew w w'):NodeFp w' (fun b=>base≤b∧b < w'.heap.size) c0 c1 c2 c3 c4 n :=
 h.keep fun b hb=>⟨⟨hb.1,Nat.lt_of_lt_of_le hb.2 hg.size⟩,hg.block b hb.2⟩
def CpA (s:Nd) (lo:Nat) (v:Value) (w:World):Prop:=∃ x0 x1 x2 x3 x4,v=.agg #[x0,x1,x2,x3,x4]∧NodeFp w (fun b=>lo≤b∧b < w.heap.size) (some x0) (some x1) (some x2) (some x3) (some x4) s
theorem CpA.keep {s:Nd} {lo:Nat} {v:Value} {w w':World} (hg:Grew w w') (h:CpA s lo v w):CpA s lo v w':=by
 obtain ⟨x0,x1,x2,x3,x4,h1,h2⟩:=h
 exact ⟨x0,x1,x2,x3,x4,h1,h2.grew hg⟩
def CpR (s:Nd) (lo:Nat) (v:Value) (w:World):Prop:=∃ t x0 x1 x2 x3 x4,v=.slice (some ⟨t,0,none⟩) 1 1∧lo≤t∧Owns w t [x0,x1,x2,x3,x4] 80∧NodeFp w (fun b=>lo≤b∧b < w.heap.size) (some x0) (some x1) (some x2) (some x3) (some x4) s
theorem CpR.keep {s:Nd} {lo:Nat} {v:Value} {w w':World} (hg:Grew w w') (h:CpR s lo v w):CpR s lo v w':=by
 obtain ⟨t,x0,x1,x2,x3,x4,h1,h2,h3,h4⟩:=h
 exact ⟨t,x0,x1,x2,x3,x4,h1,h2,h3.keep hg,h4.grew hg⟩
theorem SubsFp.push {W W':World} {base lo cap g:Nat} {v:Value} {l:List Nd} {n:Nd} {us:List V5} {x:V5}
  (h1:us.length=l.length) (h3:∀ (i:Nat) u m,us[i]? = some u→l[i]? = some m→NodeFp W (fun b=>base≤b∧b < W.heap.size∧v.ownBlock≠some b) (some u.1) (some u.2.1) (some u.2.2.1) (some u.2.2.2.1) (some u.2.2.2.2) m)
  (hx:NodeFp W (fun b=>lo≤b∧b < W.heap.size) (some x.1) (some x.2.1) (some x.2.2.1) (some x.2.2.2.1) (some x.2.2.2.2) n) (hlo:base≤lo) (hv:∀ b,v.ownBlock=some b→b < lo)
  (hg:W.grownBy W' v.ownBlock) (hr:looseRow W' base 80 5 (.slice (some ⟨g,0,none⟩) (l.length+1) cap) (l.length+1) (us.flatMap v5++v5 x)) (hat:v.ownBlock=some g∨g=W.heap.size) :
  SubsFp W' (fun b=>base≤b∧b < W'.heap.size∧b≠g) base (.slice (some ⟨g,0,none⟩) (l.length+1) cap) (l++[n]):=by
 have hne:∀ b,base≤b∧b < W.heap.size∧v.ownBlock≠some b→(base≤b∧b < W'.heap.size∧b≠g)∧W'.heap[b]? = W.heap[b]?:=by
  rintro b ⟨k1,k2,k3⟩
  refine ⟨⟨k1,Nat.lt_of_lt_of_le k2 hg.size,?_⟩,hg.block b k2 fun e=>k3 e.symm⟩
  rintro rfl
  rcases hat with e | e
  ·exact k3 e
  ·omega
 have hne':∀ b,lo≤b∧b < W.heap.size→(base≤b∧b < W'.heap.size∧b≠g)∧W'.heap[b]? = W.heap[b]?:=by
  rintro b ⟨k1,k2⟩
  refine hne b ⟨by omega,k2,fun e=>?_⟩
  have:=hv b e
  omega
 refine ⟨us++[x],by simp [h1],?_,fun i u m hu hm=>?_⟩
 ·rw [List.length_append,List.length_singleton,List.flatMap_append,List.flatMap_singleton]
  exact hr
 ·by_cases hi:i < us.length
  ·rw [List.getElem?_append_left hi] at hu
   rw [List.getElem?_append_left (by omega)] at hm
   exact (h3 i u m hu hm).keep hne
  ·have hil:i=us.length:=by
    have:=(List.getElem?_eq_some_iff.1 hu).1
    simp at this
    omega
   subst hil
   rw [List.getElem?_append_right (Nat.le_refl _),Nat.sub_self] at hu
   rw [h1,List.getElem?_append_right (Nat.le_refl _),Nat.sub_self] at hm
   cases hu
   cases hm
   exact hx.keep hne'
theorem Nd.total_sub:∀ {l:List Nd} {s:Nd},s∈l→s.total≤Nd.totals l
 | x::r,s,h=>by
  rw [Nd.totals]
  rcases List.mem_cons.1 h with rfl | h
  ·omega
  ·have:=Nd.total_sub h
   omega
theorem Nd.total_len:∀ l:List Nd,l.length≤Nd.totals l
 | []=>by simp
 | x::r=>by
  have:=Nd.total_len r
  have h:1≤x.total:=by
   obtain ⟨k,nm,tx,set,subs⟩:=x
   rw [Nd.total];omega
  rw [Nd.totals,List.length_cons]
  omega
theorem v5_one {x0 x1 x2 x3 x4:Value} {W:World} {S:Nat→Prop} {n:Nd} (h:NodeFp W S (some x0) (some x1) (some x2) (some x3) (some x4) n):∀ u∈v5 (x0,x1,x2,x3,x4),u.oneCell'=true:=by
 obtain ⟨k,nm,tx,sa,sl,sc,na,nl,nc,rfl,rfl,rfl,rfl,rfl⟩:=h.forms
 intro u hu
 simp only [v5,List.mem_cons,List.not_mem_nil,or_false] at hu
 rcases hu with rfl | rfl | rfl | rfl | rfl<;>rfl
theorem build_node1 (w:World) (k:Int) (nm tx:ByteArray) (sa:Option Addr) (sl sc:Nat) (na:Option Addr) (nl nc:Nat):(Instr.buildSlice 27 1 #[(0,.agg #[.int .u8 k,.string nm,.string tx,.slice sa sl sc,.slice na nl nc])]).run Tryz.prog w=.ok (.slice (some ⟨w.heap.size,0,none⟩) 1 1) (w.alloc (.cells #[.int .u8 k,.string nm,.string tx,.slice sa sl sc,.slice na nl nc] 80)):=by
 kernel_rfl
theorem exec_slice {P:Program} {ev:Operand→Value} {o:Oper} {t:TypeId} {len:Nat} {parts:Array (Nat × Operand)} {v:Value} {w w':World} (B:Array (Nat × Value)→Sem Value) (hop:o.op=.buildSlice t len parts) (hB:B=Instr.buildSlice t len) (h:(B (parts.map fun x=>(x.1,ev x.2))).run P w=.ok v w'):(execOp ev o).run P w=.ok (.value v) w':=by
 unfold execOp
 simp only [hop]
 subst hB
 simp [h]
theorem But.wide {F G:Nat→Prop} {w w':World} (h:But F w w') (hF:∀ k,k < w.heap.size→F k→G k):But G w w':=⟨h.os,h.tape,h.output,h.size,fun k hk hn=>h.block k hk fun hf=>hn (hF k hk hf)⟩
theorem set_five {w:World} {b T:Nat} {x0 x1 x2 x3 x4:Value} (h:Owns w b [x0,x1,x2,x3,x4] T) (y0 y1 y2 y3 y4:Value) :
  But (fun q=>q=b) w (((((w.setCell ⟨b,0,none⟩ y0).setCell ⟨b,1,none⟩ y1).setCell ⟨b,2,none⟩ y2).setCell ⟨b,3,none⟩ y3).setCell ⟨b,4,none⟩ y4)∧Owns (((((w.setCell ⟨b,0,none⟩ y0).setCell ⟨b,1,none⟩ y1).setCell ⟨b,2,none⟩ y2).setCell ⟨b,3,none⟩ y3).setCell ⟨b,4,none⟩ y4) b [y0,y1,y2,y3,y4] T:=by
 have h1:=h.set 0 y0
 have h2:=h1.set 1 y1
 have h3:=h2.set 2 y2
 have h4:=h3.set 3 y3
 exact ⟨((((set_but h).trans (set_but h1) fun _ _ e=>e).trans (set_but h2) fun _ _ e=>e).trans (set_but h3) fun _ _ e=>e).trans (set_but h4) fun _ _ e=>e,h4.set 4 y4⟩
def CopyOk (n:Nd):Prop:=n.total≤3000→∀ (W:World) (v0 v1 v2 v3 v4:Value),NodeAt W W.heap.size (some v0) (some v1) (some v2) (some v3) (some v4) n→Calls Tryz.prog 30 #[.agg #[v0,v1,v2,v3,v4]] W (CopyIs n W)
set_option maxHeartbeats 4000000 in
set_option maxRecDepth 20000 in
theorem ncopy_one (k:Int) (nm tx:ByteArray) (set:List (Int × Int)) (subs:List Nd) (hno:∀ s∈subs,CopyOk s):CopyOk (.mk k nm tx set subs):=by
 intro htot W v0 v1 v2 v3 v4 hN
 rw [Nd.total] at htot
 rw [NodeAt] at hN
 obtain ⟨hk,h1,h2,h3,h4,h5,⟨sa,sc,h6,h6',h7⟩,na,nc,h8,h8',h9⟩:=hN
 obtain rfl:=Option.some.inj h3
 obtain rfl:=Option.some.inj h4
 obtain rfl:=Option.some.inj h5
 obtain rfl:=Option.some.inj h6
 obtain rfl:=Option.some.inj h8
 clear h3 h4 h5 h6 h8
 have hlen:=Nd.total_len subs
 have HNO:=hid hno
 have HTOT:=hid htot
 have HKK:=hid (And.intro hk (And.intro h1 h2))
 have HS6:=hid h6'
 have H9:=hid h9
 have hsl:set.length≤1000000:=by omega
 obtain ⟨L,hL⟩:∃ L,subs.length=L:=⟨_,rfl⟩
 have HL:=hid hL
 rw [hL] at hlen h8'
 have HL3:=hid (show L≤3000 by omega)
 rw [hL]
 obtain ⟨f,hf⟩:∃ f,W.heap.size=f:=⟨_,rfl⟩
 have HFS:=hid hf
 obtain ⟨w1,hw1⟩:∃ w1,W.alloc (.cells #[.int .u8 k,.string nm,.string tx,.slice sa set.length sc,.slice na L nc] 80)=w1:=⟨_,rfl⟩
 have g1:Grew W w1:=hw1▸grew_alloc W _
 have o1:Owns w1 f [.int .u8 k,.string nm,.string tx,.slice sa set.length sc,.slice na L nc] 80:=hf▸hw1▸Owns.alloc W _ _
 have y1:w1.heap.size=f+1:=by rw [← hf,← hw1];exact World.size_alloc _ _
 obtain ⟨w2,hw2⟩:∃ w2,w1.alloc (.cells #[.int .u8 0,.string { data:=#[] },.string { data:=#[] },.slice none 0 0,.slice none 0 0] 80)=w2:=⟨_,rfl⟩
 have g2:Grew w1 w2:=hw2▸grew_alloc w1 _
 have o2:Owns w2 (f+1) [.int .u8 0,.string { data:=#[] },.string { data:=#[] },.slice none 0 0,.slice none 0 0] 80:=y1▸hw2▸Owns.alloc w1 _ _
 have y2:w2.heap.size=f+1+1:=by rw [← y1,← hw2];exact World.size_alloc _ _
 have HG:=hid (g1.trans g2)
 have O1:=hid (o1.keep g2)
 have O2:=hid o2
 have HY2:=hid y2
 have HC:=hid (cloneRg_ok set w2 sa sc hsl ((RangesAt.keep (HG.out.mono (Nat.le_refl _)) h7).mono HG.out.size))
 have n3:=O1.out.cell_at (i:=3) rfl
 have nl:=O1.out.lt
 obtain ⟨Q,hQ⟩:∃ Q,CopyIs (.mk k nm tx set subs) W=Q:=⟨_,rfl⟩
 rw [hQ]
 have HQ:=hid hQ
 clear hno htot hk h1 h2 h6' h7 h9 hsl hQ hL g1 g2 o1 o2 hlen h8'
 go_enter Tryz.func30,Tryz.ntmps30
 go_wp2_with fail
 refine HC.out.mono ?_
 rintro e w3 ⟨u,rfl,hu,hg⟩
 have HU:=hid hu
 have HG3:=hid hg
 have HCL:=hid (clipRg_ok w3 _ _ u _ hu)
 clear hu hg hf hw1 hw2 y1 y2 n3 nl HC
 go_wp2_with fail
 refine HCL.out.mono ?_
 rintro e w4 ⟨⟨u2,rfl,hu,hub⟩,rfl⟩
 obtain ⟨ua,uc,rfl⟩:=loose_form hu
 have O13:=O1.out.keep HG3.out
 have n3:=O13.cell_at (i:=3) rfl
 have n4:=O13.cell_at (i:=4) rfl
 have nl:=O13.lt
 have e3:=O13.free 3
 have e4:=O13.free 4
 have hb4:=set_but (i:=3) (v:=.slice ua set.length uc) O13
 have O14:=show Owns _ f [.int .u8 k,.string nm,.string tx,.slice ua set.length uc,.slice na L nc] 80 from O13.set 3 (.slice ua set.length uc)
 have m4:=O14.cell_at (i:=4) rfl
 have ml:=O14.lt
 have d4:=O14.free 4
 have hb5:=hb4.trans (set_but (i:=4) (v:=.slice none 0 0) O14) fun _ _ e=>e
 have O15:=hid (show Owns _ f [.int .u8 k,.string nm,.string tx,.slice ua set.length uc,.slice none 0 0] 80 from O14.set 4 (.slice none 0 0))
 have HG4:=hid (show Grew W _ from Below.trans (HG.out.trans HG3.out) (hb5.below (HG.out.trans HG3.out).size fun q e=>by have:=HFS.out;omega))
 have O25:=hid (hb5.owns (O2.out.keep HG3.out) (by omega))
 rw [HY2.out] at hu
 have HU5:=hid (hb5.row hu fun q hq e=>by have:=(row_type hu hq).1;omega)
 clear hb4 hb5 O13 O14 hu HU HCL
 go_wp2_with fail
 clear n3 n4 nl e3 e4 m4 ml d4
 generalize (w3.setCell ⟨f,3,none⟩ (.slice ua set.length uc)).setCell ⟨f,4,none⟩ (.slice none 0 0)=w5 at *
 clear O1 O2 HG HG3 HY2
 obtain ⟨sn,hsn⟩:∃ sn,set.length=sn:=⟨_,rfl⟩
 have HSN:=hid hsn
 rw [hsn] at O15 HU5 ⊢
 clear hsn
 go_loopw [16] (fun c wr=>∃ (j:Nat) (ra:Option Addr) (rc:Nat),c=.int .i64 j∧j≤L∧Hid (Grew W wr)∧Hid (Owns wr f [.int .u8 k,.string nm,.string tx,.slice ua sn uc,.slice ra j rc] 80)∧Hid (Owns wr (f+1) [.int .u8 0,.string { data:=#[] },.string { data:=#[] },.slice none 0 0,.slice none 0 0] 80)∧Hid (looseRow wr (f+1+1) 107 2 (.slice ua sn uc) sn (rgVs set))∧Hid (SubsFp wr (fun b=>f+1+1≤b∧b < wr.heap.size∧(Value.slice ra j rc).ownBlock≠some b) (f+1+1) (.slice ra j rc) (subs.take j))) (fun c _=>L - (intOf c).toNat)
 case atStart=>exact ⟨0,none,0,rfl,by omega,HG4.out,O15.out,O25.out,HU5.out,SubsFp.nil _ _ _⟩
 case round =>
  obtain ⟨j,ra,rc,rfl,hj,HGW,HO1,HO2,HRG,HSU⟩:=hrel
  clear HG4 O15 O25 HU5
  by_cases hlt:j < L
  ·as_aux_lemma =>
    have hlt':j < subs.length:=by rw [HL.out];exact hlt
    have hsub:=(show NodesAt wr W.heap.size na 0 subs from H9.out.keep HGW.out)
    obtain ⟨b,off,rfl,hb,hnode⟩:=hsub.get hlt'
    simp only [Nat.zero_add] at hnode
    have HTK:=hid (take_snoc hlt')
    have HTL:=hid (show (subs.take j).length=j by rw [List.length_take];omega)
    have hjs:=List.getElem_mem hlt'
    obtain ⟨s,hs⟩:∃ s,subs[j]=s:=⟨_,rfl⟩
    rw [hs] at hnode hjs HTK
    have HTS:=hid (show s.total≤3000 by have:=Nd.total_sub hjs;have:=HTOT.out;omega)
    have HCO:=hid (HNO.out s hjs HTS.out)
    clear hs hjs
    obtain ⟨u0,u1,u2,u3,u4,e0,e1,e2,e3,e4,hnode⟩:=hnode.vals
    obtain ⟨m0,m1,m2,m3,m4,m5,m6,m7,m8,rfl,rfl,rfl,rfl,rfl⟩:=hnode.forms
    have hb':=Nat.lt_of_lt_of_le hb HGW.out.size
    obtain ⟨wa,hwa⟩:∃ wa,wr.alloc (.cells #[.int .u8 m0,.string m1,.string m2,.slice m3 m4 m5,.slice m6 m7 m8] 80)=wa:=⟨_,rfl⟩
    have ga:Grew wr wa:=hwa▸grew_alloc wr _
    have oa:Owns wa wr.heap.size [.int .u8 m0,.string m1,.string m2,.slice m3 m4 m5,.slice m6 m7 m8] 80:=hwa▸Owns.alloc wr _ _
    have HGA:=hid ga
    have HNA:=hid (hnode.keep (HGW.out.mono (Nat.le_refl _) |> fun _=>ga.mono HGW.out.size))
    have HGWA:=hid (HGW.out.trans ga)
    have O1A:=hid (HO1.out.keep ga)
    have HCALL:Hid (∀ w,Grew wa w→Calls Tryz.prog 30 #[.agg #[.int .u8 m0,.string m1,.string m2,.slice m3 m4 m5,.slice m6 m7 m8]] w (CopyIs s w)):=hid fun w hw =>
     HCO.out w _ _ _ _ _ ((HNA.out.keep (hw.mono HGWA.out.size)).mono (HGWA.out.trans hw).size)
    have p4:=O1A.out.cell_at (i:=4) rfl
    have pl:=O1A.out.lt
    have t0:=oa.cell_at (i:=0) rfl
    have t1:=oa.cell_at (i:=1) rfl
    have t2:=oa.cell_at (i:=2) rfl
    have t3:=oa.cell_at (i:=3) rfl
    have t4:=oa.cell_at (i:=4) rfl
    have tl:=oa.lt
    have HWRS:=hid (show f+1+1≤wr.heap.size by have:=HO2.out.lt;omega)
    clear hsub hnode oa ga hlt'
    go_upto_region 7 with fail
    clear hwa e0 e1 e2 e3 e4 hb hb'
    obtain ⟨wz,hwz⟩:∃ wz,wr.heap.size=wz:=⟨_,rfl⟩
    have HWZ:=hid hwz
    rw [hwz] at t0 t1 t2 t3 t4 tl ⊢
    clear hwz
    refine wp_region_hav_lit follows (by kernel_rfl) ?_
    iterate 3 ((first | refine HavG.skip (fun _=>rfl) ?_ | (refine HavG.val (fun _=>rfl) ?_ (fun x w hw _=>?_) ?_;rotate_left;(focus (have hc:=hw.cells;clear hw;go_simp;first | done | rfl))));simp only [Act.put,sia,scz,scs])
    refine HavG.any (fun _=>rfl) (CpA s wa.heap.size) (fun _ _ _ hg h=>h.keep hg) (fun x w hw hd=>?_) ?_
    ·clear hd
     have HW:=hid hw
     clear hw
     go_simp
     refine (HCALL.out w HW.out).mono ?_
     rintro e w' ⟨x0,x1,x2,x3,x4,rfl,hn,hg⟩
     exact ⟨hg,x0,x1,x2,x3,x4,rfl,hn.keep fun b hb=>⟨⟨Nat.le_trans HW.out.size hb.1,hb.2⟩,rfl⟩⟩
    simp only [Act.put,sia,scz,scs]
    refine HavG.any (fun _=>rfl) (CpR s wa.heap.size) (fun _ _ _ hg h=>h.keep hg) (fun x w hw hd=>?_) ?_
    ·obtain ⟨x0,x1,x2,x3,x4,hx,hn⟩:=hd _ (List.mem_append_right _ (List.mem_singleton.2 rfl)) (by kernel_rfl)
     dsimp only at hx
     obtain ⟨y0,y1,y2,y3,y4,y5,y6,y7,y8,rfl,rfl,rfl,rfl,rfl⟩:=hn.forms
     have HN:=hid hn
     have HW:=hid hw
     clear hd hw hn
     simp only [hx]
     clear hx
     obtain ⟨BU,hBU⟩:∃ f,f=Instr.buildSlice 27 1:=⟨_,rfl⟩
     have hbd:=build_node1 w y0 y1 y2 y3 y4 y5 y6 y7 y8
     rw [← hBU] at hbd
     rw [exec_slice BU rfl hBU (v:=.slice (some ⟨w.heap.size,0,none⟩) 1 1) (w':=w.alloc (.cells #[.int .u8 y0,.string y1,.string y2,.slice y3 y4 y5,.slice y6 y7 y8] 80)) (by clear hBU;go_simp)]
     exact ⟨grew_alloc w _,_,_,_,_,_,_,rfl,HW.out.size,Owns.alloc w _ _,HN.out.grew (grew_alloc w _)⟩
    simp only [Act.put,sia,scz,scs]
    refine HavG.tail (by kernel_rfl) (by kernel_rfl) (fun x w6 hg hd=>?_)
    obtain ⟨t,x0,x1,x2,x3,x4,hx,ht,hot,hn⟩:=hd _ (List.mem_append_right _ (List.mem_singleton.2 rfl))
    dsimp only at hx
    clear hd p4 pl t0 t1 t2 t3 t4 tl
    simp only [hx]
    clear hx
    have HONE:=hid (v5_one hn)
    have HNW:=hid (owns_newsO hot)
    have HG6:=hid (HGWA.out.trans hg)
    have HGR6:=hid (HGA.out.trans hg)
    have O16:=hid (O1A.out.keep hg)
    have O26:=hid (HO2.out.keep HGR6.out)
    have HRG6:=hid ((But.of_grew (F:=fun _=>False) HGR6.out).row HRG.out (fun _ _ h=>h))
    have HLL:=hid (Nat.le_trans HWRS.out HGR6.out.size)
    obtain ⟨us,k1,k2,k3⟩:=HSU.out
    rw [HTL.out] at k1 k2
    have HK1:=hid k1
    have k2':=(But.of_grew (F:=fun _=>False) HGR6.out).row k2 (fun _ _ h=>h)
    have HK2:=hid k2'
    have HK3:=hid k3
    have HN6:=hid hn
    have HKT:=hid fun q hq=>(row_type k2 (k:=q) hq).1
    have HKS:=hid fun q hq=>(row_type k2 (k:=q) hq).2.1
    clear k1 k2 k3 k2' hn hot ht hg
    obtain ⟨i0,hi,hz0,hz1,hz2⟩:=info_parts info_node
    have hL3:=HL3.out
    have h63:j+1≤maxLen:=by unfold maxLen;omega
    have h64:(j+1) * 88≤140737488355328:=by omega
    refine wpList_append_loose w6 rfl _ _ 27 rfl (f+1+1) 80 i0 _ 5 88 Tryz.underlying27 hi hz0 hz1 hz2 rfl (by decide) _ j (us.flatMap v5) rfl HK2.out ⟨t,0,none⟩ 1 1 (v5 (x0,x1,x2,x3,x4)) rfl rfl HNW.out HONE.out (by decide) h63 h64 HLL.out _ rfl ?_
    intro g cap' w7 hown hgrow hat hlt7
    clear hi hz0 hz1 hz2 h63 h64
    have hgb:=But.grown (F:=fun q=>(Value.slice ra j rc).ownBlock=some q) hgrow fun _ e=>e
    have O17:=hgb.owns O16.out (fun e=>by have:=HKT.out _ e;omega)
    have O27:=hid (hgb.owns O26.out (fun e=>by have:=HKT.out _ e;omega))
    have HRG7:=hid (hgb.row HRG6.out fun q hq e=>type_ne (row_type HRG6.out hq).2.2 (row_type HK2.out e).2.2 (by decide) rfl)
    have hG7:=show Grew W w7 from Below.trans HG6.out (hgb.below HG6.out.size fun q e=>by have:=HKT.out _ e;have:=HFS.out;omega)
    have hgf:f+1+1≤g:=by
     rcases hat with e | e
     ·exact HKT.out _ e
     ·have:=HLL.out;omega
    have hpush:=SubsFp.push (lo:=wa.heap.size) (us:=us) (l:=subs.take j) (x:=(x0,x1,x2,x3,x4)) (n:=s) (W:=w6) (by rw [HTL.out];exact HK1.out) (fun i u m hu hm=>(HK3.out i u m hu hm).keep fun b hb=>⟨⟨hb.1,Nat.lt_of_lt_of_le hb.2.1 HGR6.out.size,hb.2.2⟩,HGR6.out.block b hb.2.1⟩) HN6.out (Nat.le_trans HWRS.out HGA.out.size) (fun b hb=>Nat.lt_of_lt_of_le (HKS.out b hb) HGA.out.size) hgrow (by rw [HTL.out];exact hown) hat
    have n4:=O17.cell_at (i:=4) rfl
    have nl:=O17.lt
    have e4:=O17.free 4
    have hb8:=set_but (i:=4) (v:=.slice (some ⟨g,0,none⟩) (j+1) cap') O17
    have O18:=hid (show Owns _ f [.int .u8 k,.string nm,.string tx,.slice ua sn uc,.slice (some ⟨g,0,none⟩) (j+1) cap'] 80 from O17.set 4 (.slice (some ⟨g,0,none⟩) (j+1) cap'))
    have O28:=hid (hb8.owns O27.out (by omega))
    have HRG8:=hid (hb8.row HRG7.out fun q hq e=>by have:=(row_type HRG7.out hq).1;omega)
    have HG8:=hid (show Grew W _ from Below.trans hG7 (hb8.below hG7.size fun q e=>by have:=HFS.out;omega))
    have HP8:=hid (hpush.keep (T:=fun b=>f+1+1≤b∧b < (w7.setCell ⟨f,4,none⟩ (.slice (some ⟨g,0,none⟩) (j+1) cap')).heap.size∧(Value.slice (some ⟨g,0,none⟩) (j+1) cap').ownBlock≠some b) (fun b hb=>⟨⟨hb.1,Nat.lt_of_lt_of_le hb.2.1 hb8.size,fun e=>hb.2.2 (Option.some.inj e).symm⟩,hb8.block b hb.2.1 (by omega)⟩) (fun b hb=>by obtain rfl:=Option.some.inj hb;exact hb8.block g hlt7 (by omega)))
    clear hgb hown hgrow hat hG7 hgf hpush hb8 O17 hlt7
    go_wp2_with fail
    refine ⟨⟨j+1,some ⟨g,0,none⟩,cap',by go_num,by omega,HG8.out,O18.out,O28.out,HRG8.out,?_⟩,by simp [intOf];omega⟩
    rw [HTK.out]
    have:=HP8.out
    rw [HTL.out] at this
    exact this
  ·obtain rfl:j=L:=by omega
   have HTA:=hid (show subs.take j=subs from List.take_of_length_le (by rw [HL.out];exact Nat.le_refl _))
   obtain ⟨us,k1,k2,k3⟩:=HSU.out
   rw [HTA.out] at k1 k2 k3
   have HK:=hid (And.intro k1 k3)
   rw [HL.out] at k2
   have HCL:=hid (clipNd_ok wr _ _ _ _ k2)
   have HKN:=hid fun q hq=>(row_type k2 (k:=q) hq).2.1
   have p4:=HO1.out.cell_at (i:=4) rfl
   have pl:=HO1.out.lt
   have e4:=HO1.out.free 4
   clear k1 k2 k3
   go_wp2_with fail
   refine HCL.out.mono ?_
   rintro e w9 ⟨⟨u,rfl,hu,hub⟩,rfl⟩
   obtain ⟨ca,cc,rfl⟩:=loose_form hu
   have hb6:=set_but (i:=4) (v:=.slice ca j cc) HO1.out
   have O16:=show Owns _ f [.int .u8 k,.string nm,.string tx,.slice ua sn uc,.slice ca j cc] 80 from HO1.out.set 4 (.slice ca j cc)
   have O26:=hb6.owns HO2.out (by omega)
   have a0:=O16.cell_at (i:=0) rfl
   have a1:=O16.cell_at (i:=1) rfl
   have a2:=O16.cell_at (i:=2) rfl
   have a3:=O16.cell_at (i:=3) rfl
   have a4:=O16.cell_at (i:=4) rfl
   have al:=O16.lt
   have z0:=O26.cell_at (i:=0) rfl
   have z1:=O26.cell_at (i:=1) rfl
   have z2:=O26.cell_at (i:=2) rfl
   have z3:=O26.cell_at (i:=3) rfl
   have z4:=O26.cell_at (i:=4) rfl
   have b0:=O26.free 0
   have b1:=O26.free 1
   have b2:=O26.free 2
   have b3:=O26.free 3
   have b4:=O26.free 4
   have bl:=O26.lt
   obtain ⟨hb7,ho7⟩:=set_five O26 (.int .u8 k) (.string nm) (.string tx) (.slice ua sn uc) (.slice ca j cc)
   have HB7:=hid ((hb6.wide (G:=fun q=>q=f∨q=f+1) fun _ _ e=>.inl e).trans hb7 fun _ _ e=>.inr e)
   have HO7:=hid ho7
   have HU9:=hid hu
   have HUB:=hid hub
   clear hb6 hb7 ho7 hu hub O16 O26 HCL
   go_upto_region 10 with fail
   clear p4 pl e4
   generalize wr.setCell ⟨f,4,none⟩ (.slice ca j cc)=w6 at *
   go_wp2_with fail
   generalize (((((w6.setCell ⟨f+1,0,none⟩ (.int .u8 k)).setCell ⟨f+1,1,none⟩ (.string nm)).setCell ⟨f+1,2,none⟩ (.string tx)).setCell ⟨f+1,3,none⟩ (.slice ua sn uc)).setCell ⟨f+1,4,none⟩ (.slice ca j cc))=w8 at *
   refine bodyPost_ret (results_cell_row (d:=Tryz.prog.underlying 80 |>.getD default) rfl _ _ (f+1) 80 _ (0,0) rfl HO7.out rfl rfl rfl) rfl ?_
   rw [← HQ.out]
   have hfs:=HFS.out
   have hlow:∀ q,f+1+1≤q→¬ (q=f∨q=f+1):=fun q h=>by omega
   have hG8:Grew W w8:=Below.trans HGW.out (HB7.out.below HGW.out.size fun q e=>by omega)
   obtain ⟨k1,k3⟩:=HK.out
   have hrow:looseRow wr (f+1+1) 80 5 (.slice ca j cc) subs.length (us.flatMap v5):=by rw [HL.out];exact HU9.out
   have hsub:SubsFp w8 (fun b=>W.heap.size≤b∧b < w8.heap.size) (f+1+1) (.slice ca j cc) subs:=by
    refine ⟨us,k1,HB7.out.row hrow fun q hq=>hlow q (row_type hrow hq).1,fun i u n hu hn=>(k3 i u n hu hn).keep fun b hb=>⟨⟨by omega,Nat.lt_of_lt_of_le hb.2.1 HB7.out.size⟩,HB7.out.block b hb.2.1 (hlow b hb.1)⟩⟩
   obtain ⟨a',c',e,hcl,hnodes⟩:=hsub.nodes (T:=fun b=>W.heap.size≤b∧b < w8.heap.size) (fun b hb=>hb) fun b hb=>by
    obtain ⟨q1,q2,-⟩:=row_type hrow hb
    exact ⟨by omega,Nat.lt_of_lt_of_le q2 HB7.out.size⟩
   have hrg8:=HB7.out.row HRG.out fun q hq=>hlow q (row_type HRG.out hq).1
   rw [← HSN.out] at hrg8
   obtain ⟨a3',c3',e3,hrgs⟩:=row_ranges hrg8
   refine ⟨_,_,_,_,_,rfl,?_,hG8⟩
   rw [NodeFp]
   obtain ⟨q1,q2,q3⟩:=HKK.out
   refine ⟨q1,q2,q3,rfl,rfl,rfl,⟨a3',c3',by rw [← HSN.out];rw [e3],HS6.out,hrgs.keep fun b hb=>⟨?_,rfl⟩⟩,a',c',?_,?_,hnodes⟩
   ·obtain ⟨q1,q2,-⟩:=row_type hrg8 hb
    exact ⟨by omega,q2⟩
   ·rw [← e]
   ·have:=HL3.out
    have:=HL.out
    unfold reachN
    omega
theorem ncopy_ok:∀ n:Nd,CopyOk n:=by
 refine Nd.ind ?_
 intro k nm tx set subs ih
 exact ncopy_one k nm tx set subs fun s hs=>by
  obtain ⟨i,hi,rfl⟩:=List.getElem_of_mem hs
  exact ih i hi
end Go.Proofs.YtppjmdanckdobaaGreatDoor
