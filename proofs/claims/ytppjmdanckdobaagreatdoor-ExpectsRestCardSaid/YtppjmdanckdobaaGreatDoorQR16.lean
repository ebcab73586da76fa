/- nulls.reaches. -/
import Derived.Lib.Hide
import Derived.Test.YtppjmdanckdobaaGreatDoorQR15
namespace Go.Proofs.YtppjmdanckdobaaGreatDoor
open Go.RowKit
open Lib (hid)
def AllTo (g:Gr) (es:List Bool) (token:Bool) (l:List Nd) (j:Nat):Prop:=∀ i (h:i < l.length),i < j→g.may es token l[i]=true
theorem allTo_next {g:Gr} {es:List Bool} {token:Bool} {l:List Nd} {j:Nat} (h:AllTo g es token l j) (hj:j < l.length) (hm:g.may es token l[j]=true):AllTo g es token l (j+1):=by
 intro i hi hlt
 by_cases e:i=j
 ·subst e;exact hm
 ·exact h i hi (by omega)
set_option maxHeartbeats 8000000 in
set_option maxRecDepth 20000 in
theorem reaches_ok (g:Gr) (es:List Bool) (token:Bool) (n:Nd):∀ (W:World) (lim ab eb ob ib rb t i:Nat) (l:List Bool) (v0 v1 v2 v3 v4:Value),AskOwn W lim ab eb g es→NodeAt W lim (some v0) (some v1) (some v2) (some v3) (some v4) n →
  RowAt W ob ib rb t g.rules.length i l→lim≤t→ab≠t→eb≠t →
  Calls Tryz.prog 116 #[.pointer (some ⟨ab,0,none⟩),.bool token,.agg #[v0,v1,v2,v3,v4],.func (.func 118) #[] #[.pointer (some ⟨ob,0,none⟩),.pointer (some ⟨ib,0,none⟩)]] W fun e W'=>Marks t g.rules.length W (g.marks es token n l) e W':=by
 induction n using Nd.ind with
 | h k nm tx set subs ih =>
 intro W lim ab eb ob ib rb t i l v0 v1 v2 v3 v4 hA hN hR hlt1 hat het
 have hN':=hN
 rw [NodeAt] at hN
 obtain ⟨hk,h1,h2,h3,h4,h5,⟨sa,sc,h6,h6',h7⟩,na,nc,h8,h8',h9⟩:=hN
 obtain rfl:=Option.some.inj h3
 obtain rfl:=Option.some.inj h4
 obtain rfl:=Option.some.inj h5
 obtain rfl:=Option.some.inj h6
 obtain rfl:=Option.some.inj h8
 clear h3 h4 h5 h6 h8 h7
 have htl:=hR.ft.lt
 have hk':k=1∨(k=0∨k=2∨k=3∨k=4∨k=7)∨(k=5∨k=6)∨(k=8∨9≤k):=by omega
 have hb0:=grew_alloc W (.cells #[.int .u8 k,.string nm,.string tx,.slice sa set.length sc,.slice na subs.length nc] 80)
 unfold reachN at h1 h2 h6' h8'
 have HIH:=hid ih
 have HAA:=hid hA
 have HRR:=hid hR
 have HNS:=hid h9
 have HB0:=hid hb0
 clear ih hA hR h9 hb0
 rcases hk' with rfl | hkk | hkk | hkk
 ·go_enter Tryz.func116,Tryz.ntmps116
  go_wp2_with fail
  go_loopw [20] (fun c wr=>∃ (j:Nat) (l':List Bool),c=.int .i64 j∧j≤subs.length∧Hid (l'=g.marksAll es token (subs.take j) l)∧Hid (AllTo g es token subs j)∧Hid (RowAt wr ob ib rb t g.rules.length i l')∧Hid (Upd t W wr)) (fun c _=>subs.length - (intOf c).toNat)
  case atStart =>
   exact ⟨0,l,rfl,by omega,by simp [Hid,Gr.marksAll],fun i h hh=>absurd hh (by omega),HRR.out.keep HB0.out,HB0.out.upd t⟩
  case round =>
   obtain ⟨j,l',rfl,hj,hl',hall,hrow,hupd⟩:=hrel
   by_cases hlt:j < subs.length
   ·obtain ⟨b,off,rfl,hb,hnode⟩:=(HNS.out.keep (hupd.out.below hlt1 (by omega))).get hlt
    simp only [Nat.zero_add] at hnode
    obtain ⟨u0,u1,u2,u3,u4,e0,e1,e2,e3,e4,hnode⟩:=hnode.vals
    obtain ⟨bk,bnm,btx,bsa,bsl,bsc,bna,bnl,bnc,rfl,rfl,rfl,rfl,rfl⟩:=hnode.forms
    have hwr:=hupd.out.size
    have hgx:=grew_alloc wr (.cells #[.int .u8 bk,.string bnm,.string btx,.slice bsa bsl bsc,.slice bna bnl bnc] 80)
    have hOx:=Owns.alloc wr [.int .u8 bk,.string bnm,.string btx,.slice bsa bsl bsc,.slice bna bnl bnc] 80
    have hAx:=(HAA.out.upd hupd.out hlt1 hat het).keep hgx
    have hNx:=hnode.keep (hgx.mono (show lim≤wr.heap.size by omega))
    have hS1:=hid (HIH.out j hlt _ lim ab eb ob ib rb t i l' _ _ _ _ _ hAx hNx (hrow.out.keep hgx) hlt1 hat het)
    have HGX:=hid hgx
    have HOX:=hid hOx
    have HAX:=hid hAx
    have HNX:=hid hNx
    clear hgx hOx hAx hNx hnode
    go_wp2_with fail
    refine hS1.out.mono ?_
    rintro e w3 ⟨rfl,hu3,ho3,hl3⟩
    have hne:wr.heap.size≠t:=by omega
    have hlo:wr.heap.size < (wr.alloc (.cells #[.int .u8 bk,.string bnm,.string btx,.slice bsa bsl bsc,.slice bna bnl bnc] 80)).heap.size:=by simp
    have c0:w3.cell? ⟨wr.heap.size,0,none⟩=some (.int .u8 bk):=by rw [hu3.cell hlo hne];exact HOX.out.cell_at rfl
    have c1:w3.cell? ⟨wr.heap.size,1,none⟩=some (.string bnm):=by rw [hu3.cell hlo hne];exact HOX.out.cell_at rfl
    have c2:w3.cell? ⟨wr.heap.size,2,none⟩=some (.string btx):=by rw [hu3.cell hlo hne];exact HOX.out.cell_at rfl
    have c3:w3.cell? ⟨wr.heap.size,3,none⟩=some (.slice bsa bsl bsc):=by rw [hu3.cell hlo hne];exact HOX.out.cell_at rfl
    have c4:w3.cell? ⟨wr.heap.size,4,none⟩=some (.slice bna bnl bnc):=by rw [hu3.cell hlo hne];exact HOX.out.cell_at rfl
    have hA3:=HAX.out.upd hu3 hlt1 hat het
    have hs3:=hu3.size
    have hsx:wr.heap.size+1≤w3.heap.size:=by have:=hu3.size;simp at this;omega
    have hN3:=(HNX.out.keep (hu3.below hlt1 (by simp;omega))).mono (show lim≤w3.heap.size by omega)
    have hS2:=hid (may_ok g es token subs[j] w3 ab eb _ _ _ _ _ hA3.ask hN3)
    have HU3:=hid ((hupd.out.trans (HGX.out.upd t)).trans hu3)
    have HO3:=hid ho3
    have HL3:=hid hl3
    have HR3:=hid ((hrow.out.keep HGX.out).upd hu3 ho3 hl3)
    clear hu3 ho3 hl3 hA3 hN3 hS1 hlo hs3
    obtain ⟨bm,hbm⟩:∃ bm,bm=g.may es token subs[j]:=⟨_,rfl⟩
    rw [← hbm] at hS2
    have HBM:=hid hbm
    clear hbm e0 e1 e2 e3 e4
    cases bm
    ·go_wp2_with (go_at_call 142;refine hS2.out.mono ?_;rintro e w4 ⟨rfl,hb4⟩)
     refine bodyPost_ret (results_none rfl _ _ _) rfl ?_
     have hm:g.marks es token (.mk 1 nm tx set subs) l=g.marks es token subs[j] l':=by
      rw [Gr.marks]
      simp only [beq_self_eq_true,if_true]
      rw [marksSeq_split g es token subs l j hall.out hj,← hl'.out,List.drop_eq_getElem_cons hlt,Gr.marksSeq,← HBM.out]
      rfl
     rw [hm]
     exact ⟨rfl,HU3.out.trans (Grew.upd hb4 t),HO3.out.keep hb4,HL3.out⟩
    ·go_wp2_with (go_at_call 142;refine hS2.out.mono ?_;rintro e w4 ⟨rfl,hb4⟩)
     exact ⟨⟨j+1,g.marks es token subs[j] l',by go_num,by omega,by unfold Hid;rw [marksAll_take g es token subs l j hlt,← hl'.out],allTo_next hall.out hlt HBM.out.symm,HR3.out.keep hb4,HU3.out.trans (Grew.upd hb4 t)⟩,by simp [intOf];omega⟩
   ·go_wp2_with fail
    go_end0
    have hjl:j=subs.length:=by omega
    have hm:g.marks es token (.mk 1 nm tx set subs) l=l':=by
     rw [Gr.marks]
     simp only [beq_self_eq_true,if_true]
     rw [marksSeq_split g es token subs l j hall.out hj,← hl'.out,hjl,List.drop_length]
     rfl
    rw [hm]
    exact ⟨rfl,hupd.out,hrow.out.ft,hrow.out.fl⟩
 ·rcases hkk with rfl | rfl | rfl | rfl | rfl
  ·go_enter Tryz.func116,Tryz.ntmps116
   go_wp2_with fail
   go_loopw [44] (fun c wr=>∃ (j:Nat) (l':List Bool),c=.int .i64 j∧j≤subs.length∧Hid (l'=g.marksAll es token (subs.take j) l)∧Hid (RowAt wr ob ib rb t g.rules.length i l')∧Hid (Upd t W wr)) (fun c _=>subs.length - (intOf c).toNat)
   case atStart =>
    exact ⟨0,l,rfl,by omega,by simp [Hid,Gr.marksAll],HRR.out.keep HB0.out,HB0.out.upd t⟩
   case round =>
    obtain ⟨j,l',rfl,hj,hl',hrow,hupd⟩:=hrel
    by_cases hlt:j < subs.length
    ·obtain ⟨b,off,rfl,hb,hnode⟩:=(HNS.out.keep (hupd.out.below hlt1 (by omega))).get hlt
     simp only [Nat.zero_add] at hnode
     obtain ⟨u0,u1,u2,u3,u4,e0,e1,e2,e3,e4,hnode⟩:=hnode.vals
     obtain ⟨bk,bnm,btx,bsa,bsl,bsc,bna,bnl,bnc,rfl,rfl,rfl,rfl,rfl⟩:=hnode.forms
     have hwr:=hupd.out.size
     have hgx:=grew_alloc wr (.cells #[.int .u8 bk,.string bnm,.string btx,.slice bsa bsl bsc,.slice bna bnl bnc] 80)
     have hAx:=(HAA.out.upd hupd.out hlt1 hat het).keep hgx
     have hNx:=hnode.keep (hgx.mono (show lim≤wr.heap.size by omega))
     have hS1:=hid (HIH.out j hlt _ lim ab eb ob ib rb t i l' _ _ _ _ _ hAx hNx (hrow.out.keep hgx) hlt1 hat het)
     have HGX:=hid hgx
     clear hgx hAx hNx hnode
     go_wp2_with fail
     refine hS1.out.mono ?_
     rintro e w3 ⟨rfl,hu3,ho3,hl3⟩
     have HU3:=hid ((hupd.out.trans (HGX.out.upd t)).trans hu3)
     have HR3:=hid ((hrow.out.keep HGX.out).upd hu3 ho3 hl3)
     clear hu3 ho3 hl3 hS1
     clear e0 e1 e2 e3 e4
     go_wp2_with fail
     exact ⟨⟨j+1,g.marks es token subs[j] l',by go_num,by omega,by unfold Hid;rw [marksAll_take g es token subs l j hlt,← hl'.out],HR3.out,HU3.out⟩,by simp [intOf];omega⟩
    ·go_wp2_with fail
     go_end0
     have hjl:j=subs.length:=by omega
     have hm:g.marks es token (.mk 0 nm tx set subs) l=l':=by
      rw [Gr.marks,hl'.out,hjl,List.take_length]
      rfl
     rw [hm]
     exact ⟨rfl,hupd.out,hrow.out.ft,hrow.out.fl⟩
  ·go_enter Tryz.func116,Tryz.ntmps116
   go_wp2_with fail
   go_loopw [44] (fun c wr=>∃ (j:Nat) (l':List Bool),c=.int .i64 j∧j≤subs.length∧Hid (l'=g.marksAll es token (subs.take j) l)∧Hid (RowAt wr ob ib rb t g.rules.length i l')∧Hid (Upd t W wr)) (fun c _=>subs.length - (intOf c).toNat)
   case atStart =>
    exact ⟨0,l,rfl,by omega,by simp [Hid,Gr.marksAll],HRR.out.keep HB0.out,HB0.out.upd t⟩
   case round =>
    obtain ⟨j,l',rfl,hj,hl',hrow,hupd⟩:=hrel
    by_cases hlt:j < subs.length
    ·obtain ⟨b,off,rfl,hb,hnode⟩:=(HNS.out.keep (hupd.out.below hlt1 (by omega))).get hlt
     simp only [Nat.zero_add] at hnode
     obtain ⟨u0,u1,u2,u3,u4,e0,e1,e2,e3,e4,hnode⟩:=hnode.vals
     obtain ⟨bk,bnm,btx,bsa,bsl,bsc,bna,bnl,bnc,rfl,rfl,rfl,rfl,rfl⟩:=hnode.forms
     have hwr:=hupd.out.size
     have hgx:=grew_alloc wr (.cells #[.int .u8 bk,.string bnm,.string btx,.slice bsa bsl bsc,.slice bna bnl bnc] 80)
     have hAx:=(HAA.out.upd hupd.out hlt1 hat het).keep hgx
     have hNx:=hnode.keep (hgx.mono (show lim≤wr.heap.size by omega))
     have hS1:=hid (HIH.out j hlt _ lim ab eb ob ib rb t i l' _ _ _ _ _ hAx hNx (hrow.out.keep hgx) hlt1 hat het)
     have HGX:=hid hgx
     clear hgx hAx hNx hnode
     go_wp2_with fail
     refine hS1.out.mono ?_
     rintro e w3 ⟨rfl,hu3,ho3,hl3⟩
     have HU3:=hid ((hupd.out.trans (HGX.out.upd t)).trans hu3)
     have HR3:=hid ((hrow.out.keep HGX.out).upd hu3 ho3 hl3)
     clear hu3 ho3 hl3 hS1
     clear e0 e1 e2 e3 e4
     go_wp2_with fail
     exact ⟨⟨j+1,g.marks es token subs[j] l',by go_num,by omega,by unfold Hid;rw [marksAll_take g es token subs l j hlt,← hl'.out],HR3.out,HU3.out⟩,by simp [intOf];omega⟩
    ·go_wp2_with fail
     go_end0
     have hjl:j=subs.length:=by omega
     have hm:g.marks es token (.mk 2 nm tx set subs) l=l':=by
      rw [Gr.marks,hl'.out,hjl,List.take_length]
      rfl
     rw [hm]
     exact ⟨rfl,hupd.out,hrow.out.ft,hrow.out.fl⟩
  ·go_enter Tryz.func116,Tryz.ntmps116
   go_wp2_with fail
   go_loopw [44] (fun c wr=>∃ (j:Nat) (l':List Bool),c=.int .i64 j∧j≤subs.length∧Hid (l'=g.marksAll es token (subs.take j) l)∧Hid (RowAt wr ob ib rb t g.rules.length i l')∧Hid (Upd t W wr)) (fun c _=>subs.length - (intOf c).toNat)
   case atStart =>
    exact ⟨0,l,rfl,by omega,by simp [Hid,Gr.marksAll],HRR.out.keep HB0.out,HB0.out.upd t⟩
   case round =>
    obtain ⟨j,l',rfl,hj,hl',hrow,hupd⟩:=hrel
    by_cases hlt:j < subs.length
    ·obtain ⟨b,off,rfl,hb,hnode⟩:=(HNS.out.keep (hupd.out.below hlt1 (by omega))).get hlt
     simp only [Nat.zero_add] at hnode
     obtain ⟨u0,u1,u2,u3,u4,e0,e1,e2,e3,e4,hnode⟩:=hnode.vals
     obtain ⟨bk,bnm,btx,bsa,bsl,bsc,bna,bnl,bnc,rfl,rfl,rfl,rfl,rfl⟩:=hnode.forms
     have hwr:=hupd.out.size
     have hgx:=grew_alloc wr (.cells #[.int .u8 bk,.string bnm,.string btx,.slice bsa bsl bsc,.slice bna bnl bnc] 80)
     have hAx:=(HAA.out.upd hupd.out hlt1 hat het).keep hgx
     have hNx:=hnode.keep (hgx.mono (show lim≤wr.heap.size by omega))
     have hS1:=hid (HIH.out j hlt _ lim ab eb ob ib rb t i l' _ _ _ _ _ hAx hNx (hrow.out.keep hgx) hlt1 hat het)
     have HGX:=hid hgx
     clear hgx hAx hNx hnode
     go_wp2_with fail
     refine hS1.out.mono ?_
     rintro e w3 ⟨rfl,hu3,ho3,hl3⟩
     have HU3:=hid ((hupd.out.trans (HGX.out.upd t)).trans hu3)
     have HR3:=hid ((hrow.out.keep HGX.out).upd hu3 ho3 hl3)
     clear hu3 ho3 hl3 hS1
     clear e0 e1 e2 e3 e4
     go_wp2_with fail
     exact ⟨⟨j+1,g.marks es token subs[j] l',by go_num,by omega,by unfold Hid;rw [marksAll_take g es token subs l j hlt,← hl'.out],HR3.out,HU3.out⟩,by simp [intOf];omega⟩
    ·go_wp2_with fail
     go_end0
     have hjl:j=subs.length:=by omega
     have hm:g.marks es token (.mk 3 nm tx set subs) l=l':=by
      rw [Gr.marks,hl'.out,hjl,List.take_length]
      rfl
     rw [hm]
     exact ⟨rfl,hupd.out,hrow.out.ft,hrow.out.fl⟩
  ·go_enter Tryz.func116,Tryz.ntmps116
   go_wp2_with fail
   go_loopw [44] (fun c wr=>∃ (j:Nat) (l':List Bool),c=.int .i64 j∧j≤subs.length∧Hid (l'=g.marksAll es token (subs.take j) l)∧Hid (RowAt wr ob ib rb t g.rules.length i l')∧Hid (Upd t W wr)) (fun c _=>subs.length - (intOf c).toNat)
   case atStart =>
    exact ⟨0,l,rfl,by omega,by simp [Hid,Gr.marksAll],HRR.out.keep HB0.out,HB0.out.upd t⟩
   case round =>
    obtain ⟨j,l',rfl,hj,hl',hrow,hupd⟩:=hrel
    by_cases hlt:j < subs.length
    ·obtain ⟨b,off,rfl,hb,hnode⟩:=(HNS.out.keep (hupd.out.below hlt1 (by omega))).get hlt
     simp only [Nat.zero_add] at hnode
     obtain ⟨u0,u1,u2,u3,u4,e0,e1,e2,e3,e4,hnode⟩:=hnode.vals
     obtain ⟨bk,bnm,btx,bsa,bsl,bsc,bna,bnl,bnc,rfl,rfl,rfl,rfl,rfl⟩:=hnode.forms
     have hwr:=hupd.out.size
     have hgx:=grew_alloc wr (.cells #[.int .u8 bk,.string bnm,.string btx,.slice bsa bsl bsc,.slice bna bnl bnc] 80)
     have hAx:=(HAA.out.upd hupd.out hlt1 hat het).keep hgx
     have hNx:=hnode.keep (hgx.mono (show lim≤wr.heap.size by omega))
     have hS1:=hid (HIH.out j hlt _ lim ab eb ob ib rb t i l' _ _ _ _ _ hAx hNx (hrow.out.keep hgx) hlt1 hat het)
     have HGX:=hid hgx
     clear hgx hAx hNx hnode
     go_wp2_with fail
     refine hS1.out.mono ?_
     rintro e w3 ⟨rfl,hu3,ho3,hl3⟩
     have HU3:=hid ((hupd.out.trans (HGX.out.upd t)).trans hu3)
     have HR3:=hid ((hrow.out.keep HGX.out).upd hu3 ho3 hl3)
     clear hu3 ho3 hl3 hS1
     clear e0 e1 e2 e3 e4
     go_wp2_with fail
     exact ⟨⟨j+1,g.marks es token subs[j] l',by go_num,by omega,by unfold Hid;rw [marksAll_take g es token subs l j hlt,← hl'.out],HR3.out,HU3.out⟩,by simp [intOf];omega⟩
    ·go_wp2_with fail
     go_end0
     have hjl:j=subs.length:=by omega
     have hm:g.marks es token (.mk 4 nm tx set subs) l=l':=by
      rw [Gr.marks,hl'.out,hjl,List.take_length]
      rfl
     rw [hm]
     exact ⟨rfl,hupd.out,hrow.out.ft,hrow.out.fl⟩
  ·go_enter Tryz.func116,Tryz.ntmps116
   go_wp2_with fail
   go_loopw [44] (fun c wr=>∃ (j:Nat) (l':List Bool),c=.int .i64 j∧j≤subs.length∧Hid (l'=g.marksAll es token (subs.take j) l)∧Hid (RowAt wr ob ib rb t g.rules.length i l')∧Hid (Upd t W wr)) (fun c _=>subs.length - (intOf c).toNat)
   case atStart =>
    exact ⟨0,l,rfl,by omega,by simp [Hid,Gr.marksAll],HRR.out.keep HB0.out,HB0.out.upd t⟩
   case round =>
    obtain ⟨j,l',rfl,hj,hl',hrow,hupd⟩:=hrel
    by_cases hlt:j < subs.length
    ·obtain ⟨b,off,rfl,hb,hnode⟩:=(HNS.out.keep (hupd.out.below hlt1 (by omega))).get hlt
     simp only [Nat.zero_add] at hnode
     obtain ⟨u0,u1,u2,u3,u4,e0,e1,e2,e3,e4,hnode⟩:=hnode.vals
     obtain ⟨bk,bnm,btx,bsa,bsl,bsc,bna,bnl,bnc,rfl,rfl,rfl,rfl,rfl⟩:=hnode.forms
     have hwr:=hupd.out.size
     have hgx:=grew_alloc wr (.cells #[.int .u8 bk,.string bnm,.string btx,.slice bsa bsl bsc,.slice bna bnl bnc] 80)
     have hAx:=(HAA.out.upd hupd.out hlt1 hat het).keep hgx
     have hNx:=hnode.keep (hgx.mono (show lim≤wr.heap.size by omega))
     have hS1:=hid (HIH.out j hlt _ lim ab eb ob ib rb t i l' _ _ _ _ _ hAx hNx (hrow.out.keep hgx) hlt1 hat het)
     have HGX:=hid hgx
     clear hgx hAx hNx hnode
     go_wp2_with fail
     refine hS1.out.mono ?_
     rintro e w3 ⟨rfl,hu3,ho3,hl3⟩
     have HU3:=hid ((hupd.out.trans (HGX.out.upd t)).trans hu3)
     have HR3:=hid ((hrow.out.keep HGX.out).upd hu3 ho3 hl3)
     clear hu3 ho3 hl3 hS1
     clear e0 e1 e2 e3 e4
     go_wp2_with fail
     exact ⟨⟨j+1,g.marks es token subs[j] l',by go_num,by omega,by unfold Hid;rw [marksAll_take g es token subs l j hlt,← hl'.out],HR3.out,HU3.out⟩,by simp [intOf];omega⟩
    ·go_wp2_with fail
     go_end0
     have hjl:j=subs.length:=by omega
     have hm:g.marks es token (.mk 7 nm tx set subs) l=l':=by
      rw [Gr.marks,hl'.out,hjl,List.take_length]
      rfl
     rw [hm]
     exact ⟨rfl,hupd.out,hrow.out.ft,hrow.out.fl⟩
 ·rcases hkk with rfl | rfl
  ·have hNm:=hid (named_ok g es token _ _ ab eb _ _ _ _ _ (HAA.out.keep HB0.out).ask ((hN'.keep (HB0.out.mono (by omega))).mono (by have:=HB0.out.size;omega)))
   have hnr:=named_range g token (.mk 5 nm tx set subs)
   rcases hnr with hi | ⟨j,hj,hi⟩
   ·have hfin:Hid (g.marks es token (.mk 5 nm tx set subs) l=l):=by simp [Hid,Gr.marks,hi]
    rw [hi] at hNm
    clear hi hN'
    go_enter Tryz.func116,Tryz.ntmps116
    go_wp2_with (go_at_call 143;refine hNm.out.mono ?_;rintro e w3 ⟨rfl,hb3⟩;have HB3:=hid hb3;clear hb3)
    go_end0
    rw [hfin.out]
    exact ⟨rfl,Grew.upd (HB0.out.trans HB3.out) t,HRR.out.ft.keep (HB0.out.trans HB3.out),HRR.out.fl⟩
   ·have hfin:Hid (g.marks es token (.mk 5 nm tx set subs) l=l.set j true):=by simp [Hid,Gr.marks,hi]
    rw [hi] at hNm
    have HJ:=hid hj
    clear hi hN'
    go_enter Tryz.func116,Tryz.ntmps116
    go_wp2_with (first | (go_at_call 143;refine hNm.out.mono ?_;rintro e w3 ⟨rfl,hb3⟩;have HB3:=hid hb3;clear hb3) | (go_at_call 118;refine (reach1_ok _ ob ib rb t g.rules.length i l j (HRR.out.keep (HB0.out.trans HB3.out)) HJ.out).mono ?_;rintro e w4 ⟨rfl,hu4,ho4,hl4⟩;have HU4:=hid hu4;have HO4:=hid ho4;have HL4:=hid hl4;clear hu4 ho4 hl4))
    go_end0
    rw [hfin.out]
    exact ⟨rfl,(Grew.upd (HB0.out.trans HB3.out) t).trans HU4.out,HO4.out,HL4.out⟩
  ·have hNm:=hid (named_ok g es token _ _ ab eb _ _ _ _ _ (HAA.out.keep HB0.out).ask ((hN'.keep (HB0.out.mono (by omega))).mono (by have:=HB0.out.size;omega)))
   have hnr:=named_range g token (.mk 6 nm tx set subs)
   rcases hnr with hi | ⟨j,hj,hi⟩
   ·have hfin:Hid (g.marks es token (.mk 6 nm tx set subs) l=l):=by simp [Hid,Gr.marks,hi]
    rw [hi] at hNm
    clear hi hN'
    go_enter Tryz.func116,Tryz.ntmps116
    go_wp2_with (go_at_call 143;refine hNm.out.mono ?_;rintro e w3 ⟨rfl,hb3⟩;have HB3:=hid hb3;clear hb3)
    go_end0
    rw [hfin.out]
    exact ⟨rfl,Grew.upd (HB0.out.trans HB3.out) t,HRR.out.ft.keep (HB0.out.trans HB3.out),HRR.out.fl⟩
   ·have hfin:Hid (g.marks es token (.mk 6 nm tx set subs) l=l.set j true):=by simp [Hid,Gr.marks,hi]
    rw [hi] at hNm
    have HJ:=hid hj
    clear hi hN'
    go_enter Tryz.func116,Tryz.ntmps116
    go_wp2_with (first | (go_at_call 143;refine hNm.out.mono ?_;rintro e w3 ⟨rfl,hb3⟩;have HB3:=hid hb3;clear hb3) | (go_at_call 118;refine (reach1_ok _ ob ib rb t g.rules.length i l j (HRR.out.keep (HB0.out.trans HB3.out)) HJ.out).mono ?_;rintro e w4 ⟨rfl,hu4,ho4,hl4⟩;have HU4:=hid hu4;have HO4:=hid ho4;have HL4:=hid hl4;clear hu4 ho4 hl4))
    go_end0
    rw [hfin.out]
    exact ⟨rfl,(Grew.upd (HB0.out.trans HB3.out) t).trans HU4.out,HO4.out,HL4.out⟩
 ·have hfin:Hid (g.marks es token (.mk k nm tx set subs) l=l):=by
   have e0:∀ c:Int,c≤7→(k == c)=false:=fun c hc=>by simp;omega
   unfold Hid
   simp only [Gr.marks,e0 0 (by omega),e0 1 (by omega),e0 2 (by omega),e0 3 (by omega),e0 4 (by omega),e0 5 (by omega),e0 6 (by omega),e0 7 (by omega)]
   rfl
  have hk8:8≤k:=by omega
  clear hkk hN'
  go_enter Tryz.func116,Tryz.ntmps116
  go_wp2_with fail
  go_end0
  rw [hfin.out]
  exact ⟨rfl,HB0.out.upd t,HRR.out.ft.keep HB0.out,HRR.out.fl⟩
end Go.Proofs.YtppjmdanckdobaaGreatDoor

/- What is reached from rule to rule: rounds over those that lie between. No program in sight. -/
namespace Go.Proofs.YtppjmdanckdobaaGreatDoor
open Go.RowKit
open Lib (hid)
def at2 (M:List (List Bool)) (i k:Nat):Bool:=(M.getD i []).getD k false
def set2 (M:List (List Bool)) (i k:Nat) (b:Bool):List (List Bool):=M.set i ((M.getD i []).set k b)
inductive Tc (O:Nat→Nat→Prop):Nat→Nat→Prop
 | one {i k:Nat} (h:O i k):Tc O i k
 | more {i j k:Nat} (h:O i j) (t:Tc O j k):Tc O i k
theorem Tc.trans {O:Nat→Nat→Prop} {i j k:Nat} (h:Tc O i j) (t:Tc O j k):Tc O i k:=by
 induction h with
 | one h=>exact .more h t
 | more h _ ih=>exact .more h (ih t)
def Via (O:Nat→Nat→Prop):Nat→Nat→Nat→Prop
 | 0,i,k=>O i k
 | b+1,i,k=>Via O b i k∨(Via O b i b∧Via O b b k)
theorem Via.once {O:Nat→Nat→Prop}:∀ (b:Nat) {i k:Nat},O i k→Via O b i k
 | 0,_,_,h=>h
 | b+1,_,_,h=>.inl (Via.once b h)
theorem Via.trans {O:Nat→Nat→Prop}:∀ (b:Nat) {i j k:Nat},j < b→Via O b i j→Via O b j k→Via O b i k
 | 0,_,_,_,h,_,_=>absurd h (by omega)
 | b+1,i,j,k,hj,h1,h2=>by
  by_cases e:j=b
  ·subst e
   have a:Via O j i j:=h1.elim id (·.1)
   have c:Via O j j k:=h2.elim id (·.2)
   exact .inr ⟨a,c⟩
  ·have hlt:j < b:=by omega
   rcases h1 with h1 | ⟨h1,h1'⟩<;>rcases h2 with h2 | ⟨h2,h2'⟩
   ·exact .inl (Via.trans b hlt h1 h2)
   ·exact .inr ⟨Via.trans b hlt h1 h2,h2'⟩
   ·exact .inr ⟨h1,Via.trans b hlt h1' h2⟩
   ·exact .inr ⟨h1,h2'⟩
theorem Via.of_tc {O:Nat→Nat→Prop} {n:Nat} (hO:∀ i k,O i k→k < n) {i k:Nat} (h:Tc O i k):Via O n i k:=by
 induction h with
 | one h=>exact Via.once n h
 | more h _ ih=>exact Via.trans n (hO _ _ h) (Via.once n h) ih
def Square (n:Nat) (M:List (List Bool)):Prop:=M.length=n∧∀ i (h:i < M.length),M[i].length=n
theorem Square.set {n:Nat} {M:List (List Bool)} (h:Square n M) (i k:Nat) (b:Bool):Square n (set2 M i k b):=by
 unfold set2
 refine ⟨by simp [h.1],fun j hj=>?_⟩
 rw [List.getElem_set]
 have hj':j < M.length:=by simpa using hj
 split
 ·rename_i e
  subst e
  simp [List.getD_eq_getElem?_getD,hj',h.2 i hj']
 ·exact h.2 j hj'
theorem at2_set {n:Nat} {M:List (List Bool)} (h:Square n M) {i k:Nat} (hi:i < n) (hk:k < n) (b:Bool) (i' k':Nat):at2 (set2 M i k b) i' k'=if i'=i∧k'=k then b else at2 M i' k':=by
 have hi':i < M.length:=by rw [h.1];exact hi
 have hk':k < M[i].length:=by rw [h.2 i hi'];exact hk
 unfold at2 set2
 by_cases e:i'=i
 ·subst e
  simp only [List.getD_eq_getElem?_getD,List.getElem?_set_self hi',Option.getD_some,List.getElem?_eq_getElem hi',true_and]
  by_cases e2:k'=k
  ·subst e2
   simp [hk']
  ·rw [List.getElem?_set_ne (fun x=>e2 x.symm)]
   simp [e2]
 ·simp only [List.getD_eq_getElem?_getD,List.getElem?_set_ne (fun x=>e x.symm)]
  simp [e]
def Round (O:Nat→Nat→Prop) (n:Nat) (M:List (List Bool)) (by_ i k:Nat):Prop :=
 Square n M∧(∀ a b,at2 M a b=true→Tc O a b)∧(∀ a b,a < n→b < n→Via O by_ a b→at2 M a b=true) ∧
  ∀ a b,a < n→b < n→(a < i∨(a=i∧b < k))→Via O (by_+1) a b→at2 M a b=true
theorem Round.step {O:Nat→Nat→Prop} {n:Nat} {M:List (List Bool)} {by_ i k:Nat} (h:Round O n M by_ i k) (hb:by_ < n) (hi:i < n) (hk:k < n) :
  Round O n (set2 M i k (at2 M i k || (at2 M i by_&&at2 M by_ k))) by_ i (k+1):=by
 obtain ⟨h1,h2,h3,h4⟩:=h
 have hs:=at2_set h1 hi hk (at2 M i k || (at2 M i by_&&at2 M by_ k))
 refine ⟨h1.set i k _,fun a b hab=>?_,fun a b ha hb' hv=>?_,fun a b ha hb' hd hv=>?_⟩
 ·rw [hs] at hab
  split at hab
  ·rename_i e
   obtain ⟨rfl,rfl⟩:=e
   simp only [Bool.or_eq_true,Bool.and_eq_true] at hab
   rcases hab with hab | ⟨hab,hab'⟩
   ·exact h2 _ _ hab
   ·exact (h2 _ _ hab).trans (h2 _ _ hab')
  ·exact h2 _ _ hab
 ·rw [hs]
  have:=h3 a b ha hb' hv
  split
  ·rename_i e;obtain ⟨rfl,rfl⟩:=e;rw [this];rfl
  ·exact this
 ·rw [hs]
  split
  ·rename_i e
   obtain ⟨rfl,rfl⟩:=e
   rcases hv with hv | ⟨hv,hv'⟩
   ·rw [h3 _ _ ha hb' hv];rfl
   ·rw [h3 _ _ ha hb hv,h3 _ _ hb hb' hv'];simp
  ·rename_i e
   refine h4 a b ha hb' ?_ hv
   rcases hd with hd | ⟨hd,hd'⟩
   ·exact .inl hd
   ·refine .inr ⟨hd,?_⟩
    have:b≠k:=fun x=>e ⟨hd,x⟩
    omega
theorem Round.row {O:Nat→Nat→Prop} {n:Nat} {M:List (List Bool)} {by_ i:Nat} (h:Round O n M by_ i n):Round O n M by_ (i+1) 0 :=
 ⟨h.1,h.2.1,h.2.2.1,fun a b ha hb hd hv=>h.2.2.2 a b ha hb (by omega) hv⟩
theorem Round.next {O:Nat→Nat→Prop} {n:Nat} {M:List (List Bool)} {by_:Nat} (h:Round O n M by_ n 0):Round O n M (by_+1) 0 0 :=
 ⟨h.1,h.2.1,fun a b ha hb hv=>h.2.2.2 a b ha hb (by omega) hv,fun a b _ _ hd=>absurd hd (by omega)⟩
theorem Round.start {O:Nat→Nat→Prop} {n:Nat} {M:List (List Bool)} (hs:Square n M) (h:∀ a b,at2 M a b=true↔O a b):Round O n M 0 0 0 :=
 ⟨hs,fun a b hab=>.one ((h a b).1 hab),fun a b _ _ hv=>(h a b).2 hv,fun a b _ _ hd=>absurd hd (by omega)⟩
structure IsReach (O:Nat→Nat→Prop) (n:Nat) (M:List (List Bool)):Prop where
 sq:Square n M
 tc:∀ a b,at2 M a b=true↔Tc O a b
theorem Round.done {O:Nat→Nat→Prop} {n:Nat} {M:List (List Bool)} (h:Round O n M n 0 0) (hO:∀ i k,O i k→i < n∧k < n):IsReach O n M:=by
 refine ⟨h.1,fun a b=>⟨h.2.1 a b,fun ht=>?_⟩⟩
 have hab:a < n∧b < n:=by
  induction ht with
  | one h=>exact hO _ _ h
  | more h _ ih=>exact ⟨(hO _ _ h).1,ih.2⟩
 exact h.2.2.1 a b hab.1 hab.2 (Via.of_tc (fun i k h=>(hO i k h).2) ht)
def Gr.onceRow (g:Gr) (es:List Bool) (i:Nat):List Bool :=
 match g.rules[i]? with
 | some r=>g.marks es r.token r.body (List.replicate g.rules.length false)
 | none=>[]
def Gr.onceM (g:Gr) (es:List Bool):List (List Bool):=(List.range g.rules.length).map (g.onceRow es)
def Gr.Once (g:Gr) (es:List Bool) (i k:Nat):Prop:=at2 (g.onceM es) i k=true
mutual
theorem marks_length (g:Gr) (es:List Bool) (token:Bool):∀ (n:Nd) (l:List Bool),(g.marks es token n l).length=l.length
 | .mk k nm tx set subs,l=>by
  rw [Gr.marks]
  split
  ·exact marksSeq_length g es token subs l
  ·split
   ·exact marksAll_length g es token subs l
   ·split
    ·split<;>simp
    ·rfl
theorem marksSeq_length (g:Gr) (es:List Bool) (token:Bool):∀ (ns:List Nd) (l:List Bool),(g.marksSeq es token ns l).length=l.length
 | [],l=>rfl
 | n::r,l=>by
  rw [Gr.marksSeq]
  split
  ·rw [marksSeq_length g es token r,marks_length g es token n]
  ·exact marks_length g es token n l
theorem marksAll_length (g:Gr) (es:List Bool) (token:Bool):∀ (ns:List Nd) (l:List Bool),(g.marksAll es token ns l).length=l.length
 | [],l=>rfl
 | n::r,l=>by rw [Gr.marksAll,marksAll_length g es token r,marks_length g es token n]
end
theorem onceRow_length (g:Gr) (es:List Bool) (i:Nat) (hi:i < g.rules.length):(g.onceRow es i).length=g.rules.length:=by
 unfold Gr.onceRow
 simp [hi,marks_length]
theorem onceM_square (g:Gr) (es:List Bool):Square g.rules.length (g.onceM es):=by
 refine ⟨by simp [Gr.onceM],fun i hi=>?_⟩
 have hi':i < g.rules.length:=by simpa [Gr.onceM] using hi
 simp only [Gr.onceM,List.getElem_map,List.getElem_range]
 exact onceRow_length g es i hi'
theorem at2_lt {n:Nat} {M:List (List Bool)} (h:Square n M) {i k:Nat} (ha:at2 M i k=true):i < n∧k < n:=by
 unfold at2 at ha
 have hi:i < M.length:=by
  rcases Nat.lt_or_ge i M.length with h' | h'
  ·exact h'
  ·simp [List.getD_eq_getElem?_getD,List.getElem?_eq_none h'] at ha
 refine ⟨by rw [← h.1];exact hi,?_⟩
 rw [← h.2 i hi]
 rcases Nat.lt_or_ge k M[i].length with h' | h'
 ·exact h'
 ·simp [List.getD_eq_getElem?_getD,hi,List.getElem?_eq_none h'] at ha
end Go.Proofs.YtppjmdanckdobaaGreatDoor

/- Plain law for ChecksFine: rules that go round no ring are all put in order,by as many rounds as there are rules. -/
namespace Go.Proofs.YtppjmdanckdobaaGreatDoor
open Lib (hid)
theorem getD_set (l:List Bool) (i k:Nat) (v:Bool):(l.set i v).getD k false=if k=i∧i < l.length then v else l.getD k false:=by
 rw [List.getD_eq_getElem?_getD,List.getD_eq_getElem?_getD,List.getElem?_set]
 by_cases h:i=k
 ·subst h
  by_cases h2:i < l.length
  ·simp [h2]
  ·simp [h2]
 ·rw [if_neg h,if_neg (fun x=>h x.1.symm)]
end Go.Proofs.YtppjmdanckdobaaGreatDoor
