/- ExpectsRest of chapter 28, walked. Printed by genexr.py. -/
import Derived.Test.YtppjmdanckdobaaGreatDoorQR38
import Derived.Test.YtppjmdanckdobaaGreatDoorQR49
import Derived.Test.YtppjmdanckdobaaGreatDoorQR46
import Derived.Test.YtppjmdanckdobaaGreatDoorQR10
namespace Go.Proofs.YtppjmdanckdobaaGreatDoor
open Go.RowKit
open Lib (hid)
theorem RestIs.res {B:Bk} {r:Int} {w:List Int} {m:Int} {W W':World} {e:Ending} (h:RestIs B r w m W e W'):∃ a n c b,e=.returned (.tuple #[.slice a n c,.bool b])∧Grew W W' ∧
  (b=true→askR B r w m=true∧∃ v:List Int,v.length=n∧looseRow W' W.heap.size 3 1 (.slice a n c) n (intVs v)∧RestV B r.toNat w m v) ∧
  (b=false→askR B r w m=true→∀ i,i≤mostN w m→¬ B.D r.toNat (w++rep i)):=by
 obtain ⟨hg,h⟩:=h
 cases hk:askR B r w m with
 | false =>
  rw [if_neg (by rw [hk];simp)] at h
  exact ⟨none,0,0,false,h,hg,fun e=>(by cases e),fun _ e=>(by cases e)⟩
 | true =>
  rw [if_pos hk] at h
  rcases h with ⟨v,y,rfl,h1,h2⟩ | ⟨rfl,h2⟩
  ·obtain ⟨a,c,rfl⟩:=loose_form h1
   exact ⟨a,_,c,true,rfl,hg,fun _=>⟨rfl,v,rfl,h1,h2⟩,fun e=>by cases e⟩
  ·exact ⟨none,0,0,false,rfl,hg,fun e=>(by cases e),fun _ _=>h2⟩
theorem NextIs.res {B:Bk} {r:Int} {w:List Int} {W W':World} {e:Ending} (h:NextIs B r w W e W'):∃ a n c b,e=.returned (.tuple #[.slice a n c,.bool b])∧Grew W W' ∧
  (askB B r w=true→(∃ x,NextS B r.toNat w x)→b=true):=by
 obtain ⟨hg,h⟩:=h
 cases hk:askB B r w with
 | false =>
  rw [if_neg (by rw [hk];simp)] at h
  exact ⟨none,0,0,false,h,hg,fun e=>(by cases e)⟩
 | true =>
  rw [if_pos hk] at h
  obtain ⟨L,y,rfl,h1,h2⟩:=h
  obtain ⟨a,c,rfl⟩:=loose_form h1
  exact ⟨a,_,c,_,rfl,hg,fun _ hx=>decide_eq_true (h2.some hx)⟩
theorem ask_next {B:Bk} {k:Nat} {w v:List Int} {m:Int} (hB:B.Lng) (hk:askR B (k:Int) w m=true) (hl:(w++v).length≤64) (hd:B.D k (w++v)):askB B (k:Int) w=true∧∃ x,NextS B ((k:Nat):Int).toNat w x:=by
 obtain ⟨h1,h2⟩:=d_next hB hl hd
 rw [Int.toNat_natCast]
 refine ⟨?_,h2⟩
 unfold askR at hk
 unfold askB
 simp only [Bool.and_eq_true,decide_eq_true_eq] at hk ⊢
 rw [Int.toNat_natCast]
 exact ⟨hk.1,h1,hk.2.2.2⟩
theorem ask_no2 {B:Bk} {r:Int} {w:List Int} {m:Int} (hk:askR B r w m=true):-2∉w:=fun hc=>by
 unfold askR at hk
 simp only [Bool.and_eq_true,decide_eq_true_eq] at hk
 have h:=hk.2.2.2
 rw [Bool.not_eq_true',List.any_eq_false] at h
 exact h _ hc rfl
theorem ask_of {B:Bk} {k:Nat} {w:List Int} {m:Int} (h1:k < B.bodies.length) (h2:w.length≤48) (h3:0≤m) (h4:m≤8) (h5:-2∉w):askR B (k:Int) w m=true:=by
 unfold askR hasX
 simp only [Bool.and_eq_true,decide_eq_true_eq]
 refine ⟨⟨by omega,by omega,h2⟩,h3,h4,?_⟩
 rw [Bool.not_eq_true',List.any_eq_false]
 intro y hy
 simp only [beq_iff_eq]
 exact fun e=>h5 (e▸hy)
theorem rest_no2 {g:Gr} {r:Nat} {w v:List Int} {m:Int} (hw:-2∉w) (h:RestV (bookOf g) r w m v):-2∉w++v:=fun hc=>by
 have hkr:=kindsTo_rise g (g.of [1,3]) (g.of [1,3]).length
 rw [← bookOf_kinds] at hkr
 rcases List.mem_append.1 hc with h1 | h1
 ·exact hw h1
 ·have:=(hkr.1 _ (h.fil.kinds _ h1)).1
  omega
theorem xhas_yes {B:Bk} {r:Int} {wl:List Int} {W W':World} {e:Ending} (h:HasIs B r wl W e W') (h1:hasR B r=true) (h2:wl.length≤64) (h3:-2∉wl) (h4:B.D r.toNat wl):e=.returned (.bool true)∧Grew W W':=by
 obtain ⟨b,rfl,hb,hg⟩:=h
 rw [hb.2 ⟨h1,h2,h3,h4⟩]
 exact ⟨rfl,hg⟩
theorem loose_intsN {w:World} {base n:Nat} {v:Value} {l:List Int} (hn:l.length=n) (h:looseRow w base 3 1 v n (intVs l)):IntsV w w.heap.size v l:=by
 subst hn
 exact loose_ints h
theorem long_small (l:Int):∃ k:Nat,wrap64 ((IntKind.u64.wrap l).tmod 9)=k∧k < 9:=rule_small l 9 (by omega) (by omega)
set_option maxHeartbeats 8000000 in
set_option maxRecDepth 40000 in
theorem rest28_ok (g:Gr) (r long many:Int) (ya:Option Addr) (yc:Nat) (wl:List Int) (cut:Nat) (hcut:cut≤255) (W:World) (hT:Lib.Utf8Tabs 1 2 W) (v0 v1 v2 v3:Value) (hG:GrAt W W.heap.size (some v0) (some v1) (some v2) (some v3) g) (hY:IntsAt W W.heap.size ya wl) :
  Calls Tryz.prog 4 #[.agg #[v0,v1,v2,v3],.agg #[.int .i64 r,.int .i64 long,.int .i64 many,.slice ya wl.length yc],.int .u8 (cut:Int)] W fun e W'=>e=.returned (.bool true)∧Grew W W':=by
 have HG:=hid hG
 obtain ⟨h1,hs,h2,h3,h4,h5,ra,rc,h6,h7,h8⟩:=hG
 obtain rfl:=Option.some.inj h1
 obtain rfl:=Option.some.inj h2
 obtain rfl:=Option.some.inj h3
 obtain rfl:=Option.some.inj h6
 clear h1 h2 h3 h4 h5 h6 h8
 unfold reachN at hs h7
 have HT:=hid hT
 have HYY:=hid hY
 obtain ⟨Q,hQ⟩:∃ Q:Ending→World→Prop,(fun e W'=>e=.returned (.bool true)∧Grew W W')=Q:=⟨_,rfl⟩
 rw [hQ]
 obtain ⟨w1,hw1⟩:∃ w1,W.alloc (.cells #[.string g.name,.int .i64 g.bound,.int .i64 g.states,.slice ra g.rules.length rc] 44)=w1:=⟨_,rfl⟩
 have g1:Grew W w1:=hw1▸grew_alloc W _
 have o1:Owns w1 W.heap.size [.string g.name,.int .i64 g.bound,.int .i64 g.states,.slice ra g.rules.length rc] 44:=hw1▸Owns.alloc W _ _
 obtain ⟨w2,hw2⟩:∃ w2,w1.alloc (.cells #[.int .i64 r,.int .i64 long,.int .i64 many,.slice ya wl.length yc] 24)=w2:=⟨_,rfl⟩
 have g2:Grew w1 w2:=hw2▸grew_alloc w1 _
 have o2:Owns w2 w1.heap.size [.int .i64 r,.int .i64 long,.int .i64 many,.slice ya wl.length yc] 24:=hw2▸Owns.alloc w1 _ _
 obtain ⟨a,ha⟩:∃ a,W.heap.size=a:=⟨_,rfl⟩
 obtain ⟨b,hb⟩:∃ b,w1.heap.size=b:=⟨_,rfl⟩
 have HX:=hid (o1.keep g2)
 have HY:=hid o2
 rw [ha] at HX
 rw [hb] at HY
 have G2:=hid (g1.trans g2)
 have HEND:Hid (∀ w',Grew w2 w'→Q (.returned (.bool true)) w'):=hid fun w' hw=>by rw [← hQ];exact ⟨rfl,G2.out.trans hw⟩
 have HLV:Hid (∀ w',Grew w2 w'→Calls Tryz.prog 8 #[] w' fun e W'=>e=.returned (.bool true)∧Grew w' W'):=hid fun w' hw=>lives28_ok w' (tabs_grew HT.out (G2.out.trans hw))
 have HGR:Hid (∀ w',Grew w2 w'→GrAt w' w'.heap.size (some (.string g.name)) (some (.int .i64 g.bound)) (some (.int .i64 g.states)) (some (.slice ra g.rules.length rc)) g):=hid fun w' hw=>(HG.out.keep (G2.out.trans hw)).mono (G2.out.trans hw).size
 have HIY:Hid (∀ w',Grew w2 w'→IntsAt w' w'.heap.size ya wl):=hid fun w' hw=>IntsAt.mono (G2.out.trans hw).size (IntsAt.keep (G2.out.trans hw) HYY.out)
 have HTB:Hid (∀ w',Grew w2 w'→Lib.Utf8Tabs 1 2 w'):=hid fun w' hw=>tabs_grew HT.out (G2.out.trans hw)
 clear o1 o2 g1 g2 hT hY hQ
 obtain ⟨n2,hn2⟩:∃ m,wl.length=m:=⟨_,rfl⟩
 have HWN:=hid hn2
 rw [hn2] at HY hw2 ⊢
 clear hn2
 have ho:=HX.out.keep (Grew.refl _)
 have k0:=ho.cell_at (i:=0) rfl
 have k1:=ho.cell_at (i:=1) rfl
 have k2:=ho.cell_at (i:=2) rfl
 have k3:=ho.cell_at (i:=3) rfl
 have kl:=ho.lt
 clear ho
 go_enter Tryz.func4,Tryz.ntmps4
 go_wp2_with fail
 clear hw1 hw2 k0 k1 k2 k3 kl ha hb
 refine (great27_ok g _ _ _ _ _ (HGR.out _ (Grew.refl _))).mono ?_
 rintro e w3 ⟨hbt,hg3⟩
 have HBT:=hid hbt
 have G3:Hid (Grew w2 w3):=hid hg3
 have ho:=HX.out.keep G3.out
 have k0:=ho.cell_at (i:=0) rfl
 have k1:=ho.cell_at (i:=1) rfl
 have k2:=ho.cell_at (i:=2) rfl
 have k3:=ho.cell_at (i:=3) rfl
 have kl:=ho.lt
 clear ho
 have ho:=HY.out.keep G3.out
 have c0:=ho.cell_at (i:=0) rfl
 have c1:=ho.cell_at (i:=1) rfl
 have c2:=ho.cell_at (i:=2) rfl
 have c3:=ho.cell_at (i:=3) rfl
 have cl:=ho.lt
 clear ho
 clear hg3
 rcases hbt with rfl | ⟨rfl,-⟩
 ·go_wp2_with fail
  refine (HLV.out _ G3.out).mono ?_
  rintro e w9 ⟨rfl,hg9⟩
  have HG9:=hid (Grew.trans G3.out hg9)
  clear hg9
  go_wp2_with fail
  exact HEND.out _ HG9.out
 have hfair:Hid g.Fair:=hid (by
  rcases HBT.out with h | ⟨_,h⟩
  ·cases h
  ·exact h)
 clear HBT
 by_cases h12:12 < n2
 ·have d12:decide ((12:Int) < (n2:Int))=true:=decide_eq_true (by omega)
  go_wp2_with fail
  refine (HLV.out _ G3.out).mono ?_
  rintro e w9 ⟨rfl,hg9⟩
  have HG9:=hid (Grew.trans G3.out hg9)
  clear hg9
  go_wp2_with fail
  exact HEND.out _ HG9.out
 have d12:decide ((12:Int) < (n2:Int))=false:=decide_eq_false (by omega)
 go_wp2_with fail
 clear k0 k1 k2 k3 kl c0 c1 c2 c3 cl
 refine (xnew_ok g (few_of hfair.out) (fun i hi=>(hfair.out.rule i hi).1) w3 (HTB.out _ G3.out) _ _ _ _ (HGR.out _ G3.out)).mono ?_
 intro e w4 hx
 obtain ⟨G4,hxe⟩:Hid (Grew w2 w4)∧((e=.returned (.tuple #[.pointer none,.int .i64 1])∧¬ (soundP g∧g.Fine))∨∃ T:XT,e=.returned (.tuple #[T.ptr,.int .i64 0])∧soundP g∧g.Fine∧T.B=bookOf g∧T.At w4.heap.size w4):=by
  rcases hx with ⟨h1,h2,h3⟩ | ⟨T,h1,h2,h3,h4,h5,h6⟩
  ·exact ⟨G3.out.trans h2,.inl ⟨h1,fun h=>fine_not h.2 (h3 h.1)⟩⟩
  ·exact ⟨G3.out.trans h6,.inr ⟨T,h1,h2,h3,h4,h5⟩⟩
 clear hx
 have HSN:=hid (snew_ok g (few_of hfair.out) (fun i hi=>(hfair.out.rule i hi).1) w4 (HTB.out _ G4.out) _ _ _ _ (HGR.out _ G4.out))
 have ho:=HX.out.keep G4.out
 have k0:=ho.cell_at (i:=0) rfl
 have k1:=ho.cell_at (i:=1) rfl
 have k2:=ho.cell_at (i:=2) rfl
 have k3:=ho.cell_at (i:=3) rfl
 have kl:=ho.lt
 clear ho
 rcases hxe with ⟨rfl,hnf⟩ | ⟨T,rfl,hsp,hfine,hB,hta⟩
 ·have HNF:=hid hnf
  clear hnf
  go_wp2_with fail
  clear k0 k1 k2 k3 kl
  refine HSN.out.mono ?_
  rintro e w5 (⟨rfl,hg5,-⟩ | ⟨bk,V,rfl,hsp,hfine,-,-⟩)
  ·have G5:=hid (G4.out.trans hg5)
   clear hg5
   go_wp2_with fail
   refine (HLV.out _ G5.out).mono ?_
   rintro e w9 ⟨rfl,hg9⟩
   have HG9:=hid (Grew.trans G5.out hg9)
   clear hg9
   go_wp2_with fail
   exact HEND.out _ HG9.out
  ·exact absurd ⟨hsp,hfine⟩ HNF.out
 have HSP:=hid hsp
 have HFINE:=hid hfine
 have HB:=hid hB
 have HTA:=hid hta
 unfold XT.ptr
 clear hsp hfine hB hta
 go_wp2_with fail
 clear k0 k1 k2 k3 kl
 refine HSN.out.mono ?_
 rintro e w5 (⟨rfl,hg5,hno⟩ | ⟨bk,V,rfl,-,-,hbf,hg5⟩)
 ·exact absurd (hno HSP.out) fun h=>fine_not HFINE.out h
 have G5:=hid (G4.out.trans hg5)
 have G45:=hid hg5
 have HBF:=hid hbf
 clear hg5 hbf HSN
 have ho:=HX.out.keep G5.out
 have k0:=ho.cell_at (i:=0) rfl
 have k1:=ho.cell_at (i:=1) rfl
 have k2:=ho.cell_at (i:=2) rfl
 have k3:=ho.cell_at (i:=3) rfl
 have kl:=ho.lt
 clear ho
 have ho:=HY.out.keep G5.out
 have c0:=ho.cell_at (i:=0) rfl
 have c1:=ho.cell_at (i:=1) rfl
 have c2:=ho.cell_at (i:=2) rfl
 have c3:=ho.cell_at (i:=3) rfl
 have cl:=ho.lt
 clear ho
 obtain ⟨w6,hw6⟩:∃ w6,w5.alloc (.cells #[.int .u8 0] 52)=w6:=⟨_,rfl⟩
 have g6:Grew w5 w6:=hw6▸grew_alloc w5 _
 have hso:SortsAt w6 w5.heap.size [0]:=by
  have ho:Owns w6 w5.heap.size [.int .u8 0] 52:=hw6▸Owns.alloc w5 _ _
  refine ⟨ho.lt,fun k hk=>?_⟩
  have hk:k=0:=by simp at hk;omega
  subst hk
  exact ho.cell_at (i:=0) rfl
 have HOP:=hid (mof_ok g [0] (by simp) w6 _ _ _ _ (HGR.out _ (G5.out.trans g6)) (by have:=hfair.out.len;omega) w5.heap.size 1 hso)
 have G6:=hid (G5.out.trans g6)
 obtain ⟨n,hn⟩:∃ n,(g.of [0]).length=n:=⟨_,rfl⟩
 have hn0:0 < n:=hn▸HFINE.out.start
 have hn20:n≤20:=by
  rw [← hn]
  have h1:=Gr.ofTo_len g [0] g.rules.length
  have h2:=hfair.out.len
  unfold Gr.of
  omega
 have HBN:=hid (show (bookOf g).bodies.length=n by rw [bookOf_bodies,bodsTo_len,hn])
 rw [hn] at HOP
 clear hn g6 hso
 go_wp2_with fail
 have hw6':=hw6
 clear hw6
 refine HOP.out.mono ?_
 rintro e w7 ⟨pv,rfl,hrow,hg7⟩
 obtain ⟨pa,pc,rfl⟩:∃ a c,pv=.slice a n c:=loose_form hrow
 have G7:=hid (G6.out.trans hg7)
 have G57:=hid (show Grew w5 w7 from (hw6'▸grew_alloc w5 _).trans hg7)
 clear hg7 hrow HOP G6 hw6'
 clear k0 k1 k2 k3 kl c0 c1 c2 c3 cl
 have ho:=HY.out.keep G7.out
 have c0:=ho.cell_at (i:=0) rfl
 have c1:=ho.cell_at (i:=1) rfl
 have c2:=ho.cell_at (i:=2) rfl
 have c3:=ho.cell_at (i:=3) rfl
 have cl:=ho.lt
 clear ho
 have hnz:((n:Int) == 0)=false:=beq_eq_false_iff_ne.2 (by omega)
 obtain ⟨k,hk,hkn⟩:=rule_small r n hn0 hn20
 obtain ⟨mo,hmo,hm9⟩:=long_small long
 have HKN:=hid (show k < (bookOf g).bodies.length by rw [HBN.out];exact hkn)
 have HOK:=hid (book_okx HSP.out HFINE.out (by have:=hfair.out.len;omega))
 have HHR:Hid (hasR (bookOf g) k=true):=by
  unfold Hid hasR
  rw [HBN.out,Bool.and_eq_true,decide_eq_true_eq,decide_eq_true_eq]
  omega
 have HFI:=hid (firsts27_le g)
 have HBA:Hid (∀ w',Grew w5 w'→BookAt w' w'.heap.size bk V (bookOf g)):=hid fun w' hw=>(HBF.out.grew hw).at_
 have HT4:Hid (∀ w',Grew w5 w'→T.At w'.heap.size w'):=hid fun w' hw=>HTA.out.grew (G45.out.trans hw)
 have HRS:Hid (∀ w' (m:Int),Grew w5 w'→Calls Tryz.prog 6 #[.pointer (some ⟨T.tb,0,none⟩),.int .i64 k,.slice ya n2 yc,.int .i64 m] w' (RestIs (bookOf g) k wl m w')):=hid fun w' m hw=>by
  have h:=xrest_ok T (HB.out▸HOK.out.good) (HB.out▸HOK.out.lng) (HB.out▸HOK.out.toks) (HB.out▸HOK.out.rise) (HB.out▸HOK.out.few) k m ya yc wl w' (HT4.out w' hw) (HIY.out w' (G5.out.trans hw)) (by rw [HWN.out];unfold reachN;omega)
  rw [HB.out,HWN.out] at h
  exact h
 have HRX:Hid (∀ w' (a:Option Addr) (c:Nat) (l:List Int),Grew w5 w'→l.length≤48→IntsAt w' w'.heap.size a l→Calls Tryz.prog 6 #[.pointer (some ⟨T.tb,0,none⟩),.int .i64 k,.slice a l.length c,.int .i64 8] w' (RestIs (bookOf g) k l 8 w')):=hid fun w' a c l hw hl hi=>by
  have h:=xrest_ok T (HB.out▸HOK.out.good) (HB.out▸HOK.out.lng) (HB.out▸HOK.out.toks) (HB.out▸HOK.out.rise) (HB.out▸HOK.out.few) k 8 a c l w' (HT4.out w' hw) hi (by unfold reachN;omega)
  rw [HB.out] at h
  exact h
 have HNX:Hid (∀ w',Grew w5 w'→Calls Tryz.prog 5 #[.pointer (some ⟨T.tb,0,none⟩),.int .i64 k,.slice ya n2 yc] w' (NextIs (bookOf g) k wl w')):=hid fun w' hw=>by
  have h:=xnext_ok T (HB.out▸HOK.out.good) (HB.out▸HOK.out.lng) k ya yc wl w' (HT4.out w' hw) (HIY.out w' (G5.out.trans hw)) (by rw [HWN.out];unfold reachN;omega) (HB.out▸HOK.out.tok)
  rw [HB.out,HWN.out] at h
  exact h
 have HHA:Hid (∀ w' wv l,Grew w5 w'→l.length≤reachN→IntsV w' w'.heap.size wv l→Calls Tryz.prog 13 #[.pointer (some ⟨bk,0,none⟩),.int .i64 k,wv] w' (HasIs (bookOf g) k l w')):=hid fun w' wv l hw hl hi=>sHas_ok (bookOf g) HOK.out.good k V bk _ l hl wv w' (HBA.out _ hw) hi
 have HLS:Hid (∀ w',Grew w5 w'→Calls Tryz.prog 15 #[.pointer (some ⟨bk,0,none⟩),.int .i64 k] w' (LeastSIs ((bookOf g).leastL k) w')):=hid fun w' hw=>sLeast_ok (bookOf g) k V bk _ w' (HBA.out _ hw) HFI.out
 obtain ⟨tb,htb⟩:∃ t,T.tb=t:=⟨_,rfl⟩
 rw [htb] at HRS HRX HNX ⊢
 have hcut9:=hid hcut
 clear htb HTA HBF HT4 HBA HB hkn HBN hcut
 go_wp2_with fail
 rw [hk,hmo]
 clear hk hmo hnz hn20 hn0
 refine (HRS.out _ mo G57.out).mono ?_
 intro e w8 hres
 obtain ⟨va,vn,vc,b9,rfl,hg8,hyes,-⟩:=hres.res
 have G8:=hid (G7.out.trans hg8)
 have G58:=hid (G57.out.trans hg8)
 have HYES:=hid hyes
 clear hres hyes hg8 c0 c1 c2 c3 cl
 have ho:=HY.out.keep G8.out
 have c0:=ho.cell_at (i:=0) rfl
 have c1:=ho.cell_at (i:=1) rfl
 have c2:=ho.cell_at (i:=2) rfl
 have c3:=ho.cell_at (i:=3) rfl
 have cl:=ho.lt
 clear ho
 have HN8:=hid (HNX.out _ G58.out)
 go_wp2_with fail
 refine HN8.out.mono ?_
 intro e w9 hres
 obtain ⟨ua,un,uc,bg,rfl,hg9,hbg⟩:=hres.res
 have G9:=hid (G8.out.trans hg9)
 have G59:=hid (G58.out.trans hg9)
 have G89:=hid hg9
 have HBG:Hid (b9=true→bg=true):=hid fun h=>by
  obtain ⟨h1,v,h2,-,h3⟩:=HYES.out h
  have hle:=h3.le
  unfold mostN at hle
  obtain ⟨q1,q2⟩:=ask_next HOK.out.lng h1 (by rw [List.length_append,HWN.out];omega) h3.d
  exact hbg q1 q2
 clear hres hbg hg9 HN8 c0 c1 c2 c3 cl
 have ho:=HY.out.keep G9.out
 have c0:=ho.cell_at (i:=0) rfl
 have c1:=ho.cell_at (i:=1) rfl
 have c2:=ho.cell_at (i:=2) rfl
 have c3:=ho.cell_at (i:=3) rfl
 have cl:=ho.lt
 clear ho
 go_upto_region 16 with fail
 go_cut [108] (fun s wx=>s=.bool false∧Hid (Grew w9 wx))
 case first =>
  cases b9
  ·clear HYES HBG
   go_wp2_with fail
   go_meet
   exact ⟨rfl,Grew.refl _⟩
  ·obtain rfl:=HBG.out rfl
   obtain ⟨hask,v,hvn,hrow,hrv⟩:=HYES.out rfl
   have hvm:vn≤mo:=by
    have hle:=hrv.le
    unfold mostN at hle
    omega
   have HV9:=hid (show IntsAt w9 w9.heap.size va v by
    have h:=(But.of_grew (F:=fun _=>False) G89.out).row hrow (fun _ _ h=>h)
    rw [← hvn] at h
    obtain ⟨a',c',e,hi⟩:=loose_ints h
    cases e
    exact hi)
   have HN2:=hid (rest_no2 (ask_no2 hask) hrv)
   have HD:=hid hrv.d
   have HVN:=hid hvn
   have dm:decide (mo < vn)=false:=decide_eq_false (by omega)
   clear hask hrow hrv HYES HBG hvn
   obtain ⟨r1,w11,hr1,-,hl1,hgr1⟩:=int_append (L:=w9.heap.size) (n:=0) (l:=[]) (m:=wl) rfl (by simp;have:=HWN.out;omega) (w:=w9) (v:=.slice none 0 0) ⟨rfl,.inl ⟨rfl,rfl⟩⟩ (a:=ya) (c:=yc) HWN.out (HIY.out w9 G9.out) (Nat.le_refl _)
   have hg11:=hgr1 rfl
   rw [Nat.zero_add,List.nil_append] at hl1
   have hi2:=IntsAt.mono hg11.size (IntsAt.keep hg11 HV9.out)
   obtain ⟨r2,w12,hr2,hsp,hl2,-⟩:=int_append (L:=w9.heap.size) (n:=n2) (l:=wl) (m:=v) HWN.out (by have:=HWN.out;have:=HVN.out;omega) (w:=w11) hl1 (a:=va) (c:=vc) HVN.out hi2 hg11.size
   have hg12:Grew w9 w12:=Below.trans hg11 hsp.1
   have HHS:=hid ((HHA.out w12 r2 (wl++v) (G59.out.trans hg12) (by rw [List.length_append,HWN.out,HVN.out];unfold reachN;omega) (by
    have h:=hl2
    rw [show n2+vn=(wl++v).length by rw [List.length_append,HWN.out,HVN.out]] at h
    exact loose_ints h)).mono fun e W' h=>xhas_yes h HHR.out (by rw [List.length_append,HWN.out,HVN.out];omega) HN2.out (by rw [Int.toNat_natCast];exact HD.out))
   have HW12:=hid hg12
   clear hg12 hl2 hsp hi2 hl1 hg11 hgr1
   go_wp2_with (first
    | (refine wpList_append_want _ _ 22 22 rfl rfl (.slice none 0 0) (.slice ya n2 yc) r1 rfl rfl hr1 ?_;simp only [Act.put,sia,scz,scs])
    | (refine wpList_append_want _ _ 22 22 rfl rfl r1 (.slice va vn vc) r2 rfl rfl hr2 ?_;simp only [Act.put,sia,scz,scs]))
   refine HHS.out.mono ?_
   rintro e w13 ⟨rfl,hg13⟩
   have HW13:=hid (HW12.out.trans hg13)
   clear hg13
   go_wp2_with fail
   go_meet
   exact ⟨rfl,HW13.out⟩
 case rest =>
  obtain ⟨rfl,hcu⟩:=hcut
  have G10:=hid (G9.out.trans hcu.out)
  have G510:=hid (G59.out.trans hcu.out)
  have G810:=hid (G89.out.trans hcu.out)
  obtain ⟨w10,rfl⟩:∃ z,z=wc:=⟨_,rfl⟩
  clear hcu G9 G59 G89 HBG c0 c1 c2 c3 cl
  have ho:=HY.out.keep G10.out
  have c0:=ho.cell_at (i:=0) rfl
  have c1:=ho.cell_at (i:=1) rfl
  have c2:=ho.cell_at (i:=2) rfl
  have c3:=ho.cell_at (i:=3) rfl
  have cl:=ho.lt
  clear ho
  go_upto_region 18 with fail
  go_cut [114] (fun s wx=>s=.bool (b9&&decide (0 < vn))∧wx=w10)
  case first =>
   cases b9
   ·go_wp2_with fail
    go_meet
    exact ⟨rfl,rfl⟩
   ·by_cases hv0:0 < vn
    ·have hv1:decide ((0:Int) < (vn:Int))=true:=decide_eq_true (by omega)
     go_wp2_with fail
     go_meet
     exact ⟨by rw [decide_eq_true hv0];rfl,rfl⟩
    ·have hv1:decide ((0:Int) < (vn:Int))=false:=decide_eq_false (by omega)
     go_wp2_with fail
     go_meet
     exact ⟨by rw [decide_eq_false hv0];rfl,rfl⟩
  case rest =>
   obtain ⟨rfl,rfl⟩:=hcut
   obtain ⟨w10,rfl⟩:∃ z,z=wc:=⟨_,rfl⟩
   obtain ⟨p,hp⟩:∃ p,(b9&&decide (0 < vn))=p:=⟨_,rfl⟩
   have HP:=hid hp
   rw [hp]
   clear hp
   go_upto_if 114 with fail
   go_cut [] (fun wx=>Hid (Grew w10 wx))
   case first =>
    cases p
    ·go_wp2_with fail
     go_meet
     exact Grew.refl _
    ·have hb:b9=true∧0 < vn:=by
      have h:=HP.out
      rw [Bool.and_eq_true,decide_eq_true_eq] at h
      exact h
     obtain ⟨hask,v,hvn,hrow,hrv⟩:=HYES.out hb.1
     have hvm:vn≤mo:=by
      have hle:=hrv.le
      unfold mostN at hle
      omega
     have HV0:=hid hb.2
     have HRV:=hid hrv
     have HASK:=hid hask
     have HVN:=hid hvn
     have HROW:=hid hrow
     have hwv:wrap64 ((vn:Int) - 1)=(vn:Int) - 1:=by unfold wrap64;omega
     clear hb hask hrow hrv hvn HYES HP
     go_wp2_with fail
     clear hwv c0 c1 c2 c3 cl
     refine (HRS.out _ ((vn:Int) - 1) G510.out).mono ?_
     intro e w11 hres
     obtain ⟨sa,sn,sc,b2,rfl,hg11,hy2,-⟩:=hres.res
     have hb2:b2=false:=by
      cases b2
      ·rfl
      ·obtain ⟨-,u,-,-,hu⟩:=hy2 rfl
       exact (HRV.out.shorter (by have:=HV0.out;have:=HVN.out;omega) hu).elim
     subst hb2
     have G11:=hid (G10.out.trans hg11)
     have G511:=hid (G510.out.trans hg11)
     have G811:=hid (G810.out.trans hg11)
     have G1011:=hid hg11
     clear hres hy2 hg11
     have ho:=HY.out.keep G11.out
     have c0:=ho.cell_at (i:=0) rfl
     have c1:=ho.cell_at (i:=1) rfl
     have c2:=ho.cell_at (i:=2) rfl
     have c3:=ho.cell_at (i:=3) rfl
     have cl:=ho.lt
     clear ho
     have HR20:=hid (HRS.out _ (vn:Int) G511.out)
     go_wp2_with fail
     clear c0 c1 c2 c3 cl
     refine HR20.out.mono ?_
     intro e w12 hres
     obtain ⟨ta,tn,tc,b3,rfl,hg12,hy3,hn3⟩:=hres.res
     have hb3:b3=true:=by
      cases b3
      ·exact absurd (hn3 rfl (RestV.ask HASK.out (by omega) (by omega))) (HRV.out.again (by rw [HVN.out];rfl))
      ·rfl
     subst hb3
     obtain ⟨-,u,hun,hurow,hu⟩:=hy3 rfl
     obtain rfl:=HRV.out.uniq hu
     have hg1012:=G1011.out.trans hg12
     have hi1:IntsV w12 w12.heap.size (.slice ta tn tc) v:=loose_intsN hun hurow
     have hi2:IntsV w12 w12.heap.size (.slice va vn vc) v:=loose_intsN HVN.out ((But.of_grew (F:=fun _=>False) (G811.out.trans hg12)).row HROW.out (fun _ _ h=>h))
     have hl6:v.length≤1000000:=by
      have h:=HVN.out
      clear hi1 hi2 hurow
      omega
     have HSM:=hid (xssame_yes v hl6 w12 (.slice ta tn tc) (.slice va vn vc) hi1 hi2)
     have G1012:=hid hg1012
     clear hres hy3 hn3 hu hurow hg12 hg1012 hun HR20
     go_wp2_with fail
     refine HSM.out.mono ?_
     rintro e w13 ⟨rfl,hg13⟩
     have HG13:=hid (G1012.out.trans hg13)
     clear hg13
     go_wp2_with fail
     go_meet
     exact HG13.out
   case rest =>
    have G13:=hid (G10.out.trans hcut.out)
    have G513:=hid (G510.out.trans hcut.out)
    obtain ⟨w13,rfl⟩:∃ z,z=wc:=⟨_,rfl⟩
    have HL13:=hid (HLS.out _ G513.out)
    clear hcut HP HYES G10 G510 G810 c0 c1 c2 c3 cl
    go_wp2_with fail
    refine HL13.out.mono ?_
    rintro e w14 ⟨hls,hg14⟩
    have G14:=hid (G13.out.trans hg14)
    have G514:=hid (G513.out.trans hg14)
    clear hg14 HL13
    cases hlst:(bookOf g).leastL k with
    | none =>
     rw [hlst] at hls
     dsimp only at hls
     obtain rfl:=hls
     go_wp2_with fail
     refine (HLV.out _ G14.out).mono ?_
     rintro e w9 ⟨rfl,hg9⟩
     have HG9:=hid (Grew.trans G14.out hg9)
     clear hg9
     go_wp2_with fail
     exact HEND.out _ HG9.out
    | some l =>
     rw [hlst] at hls
     dsimp only at hls
     obtain ⟨u,rfl,hrow⟩:=hls
     obtain ⟨la,lc,rfl⟩:=loose_form hrow
     have hlcap:=loose_cap hrow
     have HLI:=hid (show IntsAt w14 w14.heap.size la l by
      obtain ⟨a',c',e,h⟩:=loose_ints hrow
      cases e
      exact h)
     have HLST:=hid hlst
     clear hrow hlst
     have HCT:Hid (∀ j,j≤l.length→∃ a',(∀ u:World,(Instr.slice 22 (.slice la l.length lc) none (some (.int .i64 (j:Int))) none).run Tryz.prog u=.ok (.slice a' j lc) u)∧IntsAt w14 w14.heap.size a' (l.take j)):=hid fun j hj=>xcut HLI.out hlcap hj
     have HDR:Hid (∀ j,j≤l.length→∃ a' c',(∀ u:World,(Instr.slice 22 (.slice la l.length lc) (some (.int .i64 (j:Int))) none none).run Tryz.prog u=.ok (.slice a' (l.length - j) c') u)∧IntsAt w14 w14.heap.size a' (l.drop j)):=hid fun j hj=>xdrop HLI.out hlcap hj
     obtain ⟨ln,hln⟩:∃ m,l.length=m:=⟨_,rfl⟩
     have HLN:=hid hln
     rw [hln] at HCT HDR ⊢
     clear hln hlcap
     by_cases h40:40 < ln
     ·have d40:decide ((40:Int) < (ln:Int))=true:=decide_eq_true (by omega)
      go_wp2_with fail
      refine (HLV.out _ G14.out).mono ?_
      rintro e w9 ⟨rfl,hg9⟩
      have HG9:=hid (Grew.trans G14.out hg9)
      clear hg9
      go_wp2_with fail
      exact HEND.out _ HG9.out
     ·have d40:decide ((40:Int) < (ln:Int))=false:=decide_eq_false (by omega)
      have hw1:wrap64 ((ln:Int)+1)=(ln:Int)+1:=by unfold wrap64;omega
      have hz1:((ln:Int)+1 == 0)=false:=beq_eq_false_iff_ne.2 (by omega)
      obtain ⟨q,hq,hql⟩:∃ q:Nat,(cut:Int).tmod ((ln:Int)+1)=(q:Int)∧q≤ln:=⟨cut % (ln+1),by rw [Int.tmod_eq_emod_of_nonneg (by omega)];simp,by have:=Nat.mod_lt cut (show 0 < ln+1 by omega);omega⟩
      have hwd:wrap64 ((ln:Int) - (q:Int))=(ln:Int) - (q:Int):=by unfold wrap64;omega
      have hq64:wrap64 (cut:Int)=cut:=by have:=hcut9.out;unfold wrap64;omega
      by_cases h8:8 < ln - q
      ·have d8:decide ((8:Int) < (ln:Int) - (q:Int))=true:=decide_eq_true (by omega)
       go_wp2_with fail
       refine (HLV.out _ G14.out).mono ?_
       rintro e w9 ⟨rfl,hg9⟩
       have HG9:=hid (Grew.trans G14.out hg9)
       clear hg9
       go_wp2_with fail
       exact HEND.out _ HG9.out
      ·have d8:decide ((8:Int) < (ln:Int) - (q:Int))=false:=decide_eq_false (by omega)
       obtain ⟨pa',hrun1,hi1⟩:=HCT.out q hql
       obtain ⟨qa',qc',hrun2,hi2⟩:=HDR.out q hql
       have htl:(l.take q).length=q:=by rw [List.length_take,HLN.out];omega
       have hdl:(l.drop q).length=ln - q:=by rw [List.length_drop,HLN.out]
       have htd:l.take q++l.drop q=l:=List.take_append_drop q l
       have HDL:=hid hdl
       have HIP:=hid hi2
       obtain ⟨n2',hD,hmin⟩:=least_min HSP.out HKN.out HLST.out
       have HR14:=hid (HRX.out w14 pa' lc (l.take q) G514.out (by omega) hi1)
       rw [htl] at HR14
       have HTH:Hid (¬ ∀ m,m≤mostN (l.take q) 8→¬ (bookOf g).D k (l.take q++rep m)):=hid (rest_there (u:=l.drop q) (by rw [htd];exact hD) (by omega) (by omega))
       have HLE:Hid (∀ v,RestV (bookOf g) k (l.take q) 8 v→v.length≤ln - q∧(v.length=ln - q→v=l.drop q)):=hid fun v hv=>by
        have h:=rest_left HSP.out HFINE.out HKN.out (p:=l.take q) (u:=l.drop q) (by rw [htd];exact HLST.out) hv
        rw [hdl] at h
        exact h
       have HAK:Hid (askR (bookOf g) (k:Int) (l.take q) 8=true):=hid (ask_of HKN.out (by omega) (by omega) (by omega) fun hc=>n2' (List.mem_of_mem_take hc))
       have HDN:=hid hdl
       clear hi1 hi2 htl hdl htd n2' hD hmin HCT HDR
       go_wp2_with fail
       refine HR14.out.mono ?_
       intro e w15 hres
       obtain ⟨fa,fn,fc,b4,rfl,hg15,hy4,hn4⟩:=hres.res
       have hb4:b4=true:=by
        cases b4
        ·exact absurd (hn4 rfl HAK.out) HTH.out
        ·rfl
       subst hb4
       obtain ⟨-,v4,hv4,hrow4,hr4⟩:=hy4 rfl
       obtain ⟨hle4,heq4⟩:=HLE.out v4 hr4
       rw [hv4] at hle4 heq4
       have HI4:=hid (loose_intsN hv4 hrow4)
       have HEQ:=hid heq4
       have HV4:=hid hv4
       have G15:=hid (G14.out.trans hg15)
       have G1415:=hid hg15
       clear hres hy4 hn4 hrow4 hr4 heq4 hg15 hv4 HR14
       have dle:decide ((fn:Int)≤(ln:Int) - (q:Int))=true:=decide_eq_true (by omega)
       by_cases hlt:fn < ln - q
       ·have dlt:decide ((fn:Int) < (ln:Int) - (q:Int))=true:=decide_eq_true (by omega)
        go_wp2_with fail
        refine (HLV.out _ G15.out).mono ?_
        rintro e w9 ⟨rfl,hg9⟩
        have HG9:=hid (Grew.trans G15.out hg9)
        clear hg9
        go_wp2_with fail
        exact HEND.out _ HG9.out
       ·have dlt:decide ((fn:Int) < (ln:Int) - (q:Int))=false:=decide_eq_false (by omega)
        have hfn:fn=ln - q:=by omega
        have hvd:=HEQ.out hfn
        have hl6:v4.length≤1000000:=by
         have h:=HV4.out
         omega
        have hi4:IntsV w15 w15.heap.size (.slice qa' (ln - q) qc') v4:=by
         rw [hvd,← HDN.out]
         exact ⟨_,_,rfl,IntsAt.mono G1415.out.size (IntsAt.keep G1415.out HIP.out)⟩
        have HSM:=hid (xssame_yes v4 hl6 w15 (.slice fa fn fc) (.slice qa' (ln - q) qc') HI4.out hi4)
        clear hi4 hvd hfn
        go_wp2_with fail
        refine HSM.out.mono ?_
        rintro e w16 ⟨rfl,hg16⟩
        have G16:=hid (G15.out.trans hg16)
        clear hg16
        go_wp2_with fail
        refine (HLV.out _ G16.out).mono ?_
        rintro e w9 ⟨rfl,hg9⟩
        have HG9:=hid (Grew.trans G16.out hg9)
        clear hg9
        go_wp2_with fail
        exact HEND.out _ HG9.out
end Go.Proofs.YtppjmdanckdobaaGreatDoor
