/- lives of chapter 28: it answers true. -/
import Derived.Test.YtppjmdanckdobaaGreatDoorQR42
import Derived.Test.YtppjmdanckdobaaGreatDoorQR47
import Derived.Test.YtppjmdanckdobaaGreatDoorQR48
import Derived.Test.YtppjmdanckdobaaGreatDoorQR25
import Derived.Test.YtppjmdanckdobaaGreatDoorQR46
namespace Go.Proofs.YtppjmdanckdobaaGreatDoor
open Go.RowKit
open Lib (hid)
theorem xssame_yes (l:List Int) (hl:l.length≤1000000) (W:World) (v u:Value) (hv:IntsV W W.heap.size v l) (hu:IntsV W W.heap.size u l):Calls Tryz.prog 14 #[v,u] W fun e W'=>e=.returned (.bool true)∧Grew W W' :=
 (ssameNums_ok l l W v u hl hl hv hu).mono fun e W' h=>by rw [decide_eq_true rfl] at h;exact h
theorem g27_xnew {W W':World} {e:Ending} (h:XNewIs g27 W e W'):∃ T:XT,e=.returned (.tuple #[T.ptr,.int .i64 0])∧T.B=B27∧B27.Okx∧T.At W'.heap.size W'∧Grew W W':=by
 rcases h with ⟨-,-,h⟩ | ⟨T,h1,-,h2,h3,h4,h5⟩
 ·obtain ⟨es,M,N,k1,k2,k3,k4⟩:=h g27_sound
  exact absurd (g27_told k1 k2 k3) k4
 ·rw [b27_of] at h3
  exact ⟨T,h1,h3,b27_okx h2,h4,h5⟩
theorem xnext_27 {T:XT} (hB:T.B=B27) (hk:B27.Okx) {l L:List Int} {n:Nat} {b:Bool} (hn:l.length=n) (hask:(decide (l.length≤48)&&!(l.any fun y=>(-2:Int) == y))=true) (hL:NextL B27 0 l L) (hb:decide (0 < L.length)=b) (a:Option Addr) (c:Nat) (W:World) (hT:T.At W.heap.size W) (hI:IntsAt W W.heap.size a l) :
  Calls Tryz.prog 5 #[T.ptr,.int .i64 0,.slice a n c] W fun e W'=>Grew W W'∧∃ ya yc,e=.returned (.tuple #[.slice ya L.length yc,.bool b])∧looseRow W' 0 3 1 (.slice ya L.length yc) L.length (intVs L):=by
 have h48:l.length≤48:=by
  rw [Bool.and_eq_true,decide_eq_true_eq] at hask
  exact hask.1
 have h:=xnext_ok T (hB▸hk.good) (hB▸hk.lng) 0 a c l W hT hI (by unfold reachN;omega) (hB▸hk.tok)
 rw [hn] at h
 refine h.mono ?_
 rintro e W' ⟨hg,h⟩
 rw [hB,if_pos (ask_27 hask)] at h
 obtain ⟨L',v,rfl,h1,h2⟩:=h
 obtain rfl:=hL.uniq h2
 obtain ⟨ya,yc,rfl⟩:=loose_form h1
 exact ⟨hg,ya,yc,by rw [hb],h1.weak (Nat.zero_le _)⟩
theorem xrest_27 {T:XT} (hB:T.B=B27) (hk:B27.Okx) (a:Option Addr) (c:Nat) (W:World) (hT:T.At W.heap.size W) (hI:IntsAt W W.heap.size a [0,0]) :
  Calls Tryz.prog 6 #[T.ptr,.int .i64 0,.slice a 2 c,.int .i64 3] W fun e W'=>Grew W W'∧∃ ya yc,e=.returned (.tuple #[.slice ya 1 yc,.bool true])∧looseRow W' 0 3 1 (.slice ya 1 yc) 1 (intVs [0]):=by
 refine (xrest_ok T (hB▸hk.good) (hB▸hk.lng) (hB▸hk.toks) (hB▸hk.rise) (hB▸hk.few) 0 3 a c [0,0] W hT hI (by unfold reachN;decide)).mono ?_
 rintro e W' ⟨hg,h⟩
 rw [hB,if_pos (show askR B27 0 [0,0] 3=true by kernel_rfl)] at h
 rcases h with ⟨v,y,rfl,h1,h2⟩ | ⟨-,h⟩
 ·obtain rfl:=rest_27 h2
  obtain ⟨ya,yc,rfl⟩:=loose_form h1
  exact ⟨hg,ya,yc,rfl,h1.weak (Nat.zero_le _)⟩
 ·exact absurd h rest_some
theorem xfar_27 {T:XT} (hB:T.B=B27) (hk:B27.Okx) (a:Option Addr) (c:Nat) (hc:2≤c) (W:World) (hT:T.At W.heap.size W) (hI:IntsAt W W.heap.size a [1,1]) :
  Calls Tryz.prog 7 #[T.ptr,.int .i64 0,.slice a 2 c] W fun e W'=>e=.returned (.int .i64 1)∧Grew W W':=by
 refine (xfar_ok T (hB▸hk.good) (hB▸hk.lng) 0 a c [1,1] W hT hI (by unfold reachN;decide) hc (hB▸hk.tok)).mono ?_
 rintro e W' ⟨hg,x,rfl,h⟩
 rw [hB,if_pos (show hasX B27 0 ([1,1]:List Int).length=true by kernel_rfl)] at h
 rw [far_27 h]
 exact ⟨rfl,hg⟩
theorem owns_intsAt {w:World} {b T:Nat} {l:List Int} (h:Owns w b (intVs l) T):IntsAt w w.heap.size (some ⟨b,0,none⟩) l:=fun k hk =>
 ⟨b,0,rfl,h.lt,by rw [Nat.zero_add];exact h.cell_at (by simp [intVs,hk])⟩
set_option maxHeartbeats 8000000 in
set_option maxRecDepth 40000 in
theorem lives28_ok (W:World) (hT:Lib.Utf8Tabs 1 2 W):Calls Tryz.prog 8 #[] W fun e W'=>e=.returned (.bool true)∧Grew W W':=by
 have HT:=hid hT
 clear hT
 go_enter Tryz.func8,Tryz.ntmps8
 go_wp2_with fail
 refine (grammar27_ok W).mono ?_
 rintro e w1 ⟨v3,rfl,hat,hg⟩
 have HG1:=hid hg
 have HN:=hid (xnew_ok g27 g27_few g27_tot w1 (tabs_grew HT.out hg) _ _ _ _ hat)
 obtain ⟨va,vn,vc,rfl⟩:∃ a n c,v3=.slice a n c:=by
  obtain ⟨-,-,-,-,-,-,a,c,h,-⟩:=hat
  exact ⟨a,_,c,Option.some.inj h⟩
 clear hat hg
 go_wp2_with fail
 refine HN.out.mono ?_
 intro e w2 hnew
 obtain ⟨T,rfl,hB,hk,ht,hg⟩:=g27_xnew hnew
 have HB:=hid hB
 have HK:=hid hk
 have HT2:=hid ht
 have HG2:=hid (HG1.out.trans hg)
 unfold XT.ptr
 clear hnew hB hk ht hg HN
 have HGc:=HG2
 have HC:=hid (xnext_27 HB.out HK.out (n:=0) (b:=true) rfl (by decide) next_nil rfl none 0 w2 HT2.out (fun k hk=>absurd hk (by simp)))
 unfold XT.ptr at HC
 go_wp2_with fail
 refine HC.out.mono ?_
 rintro e w3 ⟨hg,ya3,yc3,rfl,hrow⟩
 have HT3:=hid ((HT2.out).grew hg)
 have HG3:=hid (HGc.out.trans hg)
 have HRa3:=hid hrow
 clear hg hrow HC HGc HT2 HG2
 obtain ⟨w4,hw4⟩:∃ w4,w3.alloc (.cells #[.int .i64 0] 3)=w4:=⟨_,rfl⟩
 have g4:Grew w3 w4:=hw4▸grew_alloc w3 _
 have o4:Owns w4 w3.heap.size [.int .i64 0] 3:=hw4▸Owns.alloc w3 _ _
 have HTc:=hid (HT3.out.grew g4)
 have HGc:=hid (HG3.out.trans g4)
 have HRa4:=hid ((But.of_grew (F:=fun _=>False) g4).row HRa3.out (fun _ _ h=>h))
 have HC:=hid (xnext_27 HB.out HK.out (n:=1) (b:=true) rfl (by decide) next_0 rfl (some ⟨w3.heap.size,0,none⟩) 1 w4 HTc.out (owns_intsAt (l:=[0]) o4))
 unfold XT.ptr at HC
 clear g4 o4
 go_wp2_with fail
 refine HC.out.mono ?_
 rintro e w5 ⟨hg,ya5,yc5,rfl,hrow⟩
 have HT5:=hid ((HTc.out).grew hg)
 have HG5:=hid (HGc.out.trans hg)
 have HRa5:=hid ((But.of_grew (F:=fun _=>False) hg).row HRa4.out (fun _ _ h=>h))
 have HRb5:=hid hrow
 clear hg hrow HC HGc HTc hw4 HT3 HG3 HRa3 HRa4
 obtain ⟨w6,hw6⟩:∃ w6,w5.alloc (.cells #[.int .i64 0,.int .i64 0] 3)=w6:=⟨_,rfl⟩
 have g6:Grew w5 w6:=hw6▸grew_alloc w5 _
 have o6:Owns w6 w5.heap.size [.int .i64 0,.int .i64 0] 3:=hw6▸Owns.alloc w5 _ _
 have HTc:=hid (HT5.out.grew g6)
 have HGc:=hid (HG5.out.trans g6)
 have HRa6:=hid ((But.of_grew (F:=fun _=>False) g6).row HRa5.out (fun _ _ h=>h))
 have HRb6:=hid ((But.of_grew (F:=fun _=>False) g6).row HRb5.out (fun _ _ h=>h))
 have HC:=hid (xnext_27 HB.out HK.out (n:=2) (b:=true) rfl (by decide) next_00 rfl (some ⟨w5.heap.size,0,none⟩) 2 w6 HTc.out (owns_intsAt (l:=[0,0]) o6))
 unfold XT.ptr at HC
 clear g6 o6
 go_wp2_with fail
 refine HC.out.mono ?_
 rintro e w7 ⟨hg,ya7,yc7,rfl,hrow⟩
 have HT7:=hid ((HTc.out).grew hg)
 have HG7:=hid (HGc.out.trans hg)
 have HRa7:=hid ((But.of_grew (F:=fun _=>False) hg).row HRa6.out (fun _ _ h=>h))
 have HRb7:=hid ((But.of_grew (F:=fun _=>False) hg).row HRb6.out (fun _ _ h=>h))
 have HRc7:=hid hrow
 clear hg hrow HC HGc HTc hw6 HT5 HG5 HRa5 HRb5 HRa6 HRb6
 obtain ⟨w8,hw8⟩:∃ w8,w7.alloc (.cells #[.int .i64 1] 3)=w8:=⟨_,rfl⟩
 have g8:Grew w7 w8:=hw8▸grew_alloc w7 _
 have o8:Owns w8 w7.heap.size [.int .i64 1] 3:=hw8▸Owns.alloc w7 _ _
 have HTc:=hid (HT7.out.grew g8)
 have HGc:=hid (HG7.out.trans g8)
 have HRa8:=hid ((But.of_grew (F:=fun _=>False) g8).row HRa7.out (fun _ _ h=>h))
 have HRb8:=hid ((But.of_grew (F:=fun _=>False) g8).row HRb7.out (fun _ _ h=>h))
 have HRc8:=hid ((But.of_grew (F:=fun _=>False) g8).row HRc7.out (fun _ _ h=>h))
 have HC:=hid (xnext_27 HB.out HK.out (n:=1) (b:=true) rfl (by decide) next_1 rfl (some ⟨w7.heap.size,0,none⟩) 1 w8 HTc.out (owns_intsAt (l:=[1]) o8))
 unfold XT.ptr at HC
 clear g8 o8
 go_wp2_with fail
 refine HC.out.mono ?_
 rintro e w9 ⟨hg,ya9,yc9,rfl,hrow⟩
 have HT9:=hid ((HTc.out).grew hg)
 have HG9:=hid (HGc.out.trans hg)
 have HRa9:=hid ((But.of_grew (F:=fun _=>False) hg).row HRa8.out (fun _ _ h=>h))
 have HRb9:=hid ((But.of_grew (F:=fun _=>False) hg).row HRb8.out (fun _ _ h=>h))
 have HRc9:=hid ((But.of_grew (F:=fun _=>False) hg).row HRc8.out (fun _ _ h=>h))
 have HRd9:=hid hrow
 clear hg hrow HC HGc HTc hw8 HT7 HG7 HRa7 HRb7 HRc7 HRa8 HRb8 HRc8
 obtain ⟨w10,hw10⟩:∃ w10,w9.alloc (.cells #[.int .i64 1,.int .i64 1] 3)=w10:=⟨_,rfl⟩
 have g10:Grew w9 w10:=hw10▸grew_alloc w9 _
 have o10:Owns w10 w9.heap.size [.int .i64 1,.int .i64 1] 3:=hw10▸Owns.alloc w9 _ _
 have HTc:=hid (HT9.out.grew g10)
 have HGc:=hid (HG9.out.trans g10)
 have HRa10:=hid ((But.of_grew (F:=fun _=>False) g10).row HRa9.out (fun _ _ h=>h))
 have HRb10:=hid ((But.of_grew (F:=fun _=>False) g10).row HRb9.out (fun _ _ h=>h))
 have HRc10:=hid ((But.of_grew (F:=fun _=>False) g10).row HRc9.out (fun _ _ h=>h))
 have HRd10:=hid ((But.of_grew (F:=fun _=>False) g10).row HRd9.out (fun _ _ h=>h))
 have HC:=hid (xnext_27 HB.out HK.out (n:=2) (b:=false) rfl (by decide) next_11 rfl (some ⟨w9.heap.size,0,none⟩) 2 w10 HTc.out (owns_intsAt (l:=[1,1]) o10))
 unfold XT.ptr at HC
 clear g10 o10
 go_wp2_with fail
 refine HC.out.mono ?_
 rintro e w11 ⟨hg,ya11,yc11,rfl,hrow⟩
 have HT11:=hid ((HTc.out).grew hg)
 have HG11:=hid (HGc.out.trans hg)
 have HRa11:=hid ((But.of_grew (F:=fun _=>False) hg).row HRa10.out (fun _ _ h=>h))
 have HRb11:=hid ((But.of_grew (F:=fun _=>False) hg).row HRb10.out (fun _ _ h=>h))
 have HRc11:=hid ((But.of_grew (F:=fun _=>False) hg).row HRc10.out (fun _ _ h=>h))
 have HRd11:=hid ((But.of_grew (F:=fun _=>False) hg).row HRd10.out (fun _ _ h=>h))
 clear hg hrow HC HGc HTc hw10 HT9 HG9 HRa9 HRb9 HRc9 HRd9 HRa10 HRb10 HRc10 HRd10
 obtain ⟨w12,hw12⟩:∃ w12,w11.alloc (.cells #[.int .i64 0,.int .i64 0] 3)=w12:=⟨_,rfl⟩
 have g12:Grew w11 w12:=hw12▸grew_alloc w11 _
 have o12:Owns w12 w11.heap.size [.int .i64 0,.int .i64 0] 3:=hw12▸Owns.alloc w11 _ _
 have HTc:=hid (HT11.out.grew g12)
 have HGc:=hid (HG11.out.trans g12)
 have HRa12:=hid ((But.of_grew (F:=fun _=>False) g12).row HRa11.out (fun _ _ h=>h))
 have HRb12:=hid ((But.of_grew (F:=fun _=>False) g12).row HRb11.out (fun _ _ h=>h))
 have HRc12:=hid ((But.of_grew (F:=fun _=>False) g12).row HRc11.out (fun _ _ h=>h))
 have HRd12:=hid ((But.of_grew (F:=fun _=>False) g12).row HRd11.out (fun _ _ h=>h))
 have HC:=hid (xrest_27 HB.out HK.out (some ⟨w11.heap.size,0,none⟩) 2 w12 HTc.out (owns_intsAt (l:=[0,0]) o12))
 unfold XT.ptr at HC
 clear g12 o12
 go_wp2_with fail
 refine HC.out.mono ?_
 rintro e w13 ⟨hg,ya13,yc13,rfl,hrow⟩
 have HT13:=hid ((HTc.out).grew hg)
 have HG13:=hid (HGc.out.trans hg)
 have HRa13:=hid ((But.of_grew (F:=fun _=>False) hg).row HRa12.out (fun _ _ h=>h))
 have HRb13:=hid ((But.of_grew (F:=fun _=>False) hg).row HRb12.out (fun _ _ h=>h))
 have HRc13:=hid ((But.of_grew (F:=fun _=>False) hg).row HRc12.out (fun _ _ h=>h))
 have HRd13:=hid ((But.of_grew (F:=fun _=>False) hg).row HRd12.out (fun _ _ h=>h))
 have HRv13:=hid hrow
 clear hg hrow HC HGc HTc hw12 HT11 HG11 HRa11 HRb11 HRc11 HRd11 HRa12 HRb12 HRc12 HRd12
 obtain ⟨w14,hw14⟩:∃ w14,w13.alloc (.cells #[.int .i64 0,.int .i64 1] 3)=w14:=⟨_,rfl⟩
 have g14:Grew w13 w14:=hw14▸grew_alloc w13 _
 have o14:Owns w14 w13.heap.size [.int .i64 0,.int .i64 1] 3:=hw14▸Owns.alloc w13 _ _
 have HRa14:=hid ((But.of_grew (F:=fun _=>False) g14).row HRa13.out (fun _ _ h=>h))
 have HRb14:=hid ((But.of_grew (F:=fun _=>False) g14).row HRb13.out (fun _ _ h=>h))
 have HRc14:=hid ((But.of_grew (F:=fun _=>False) g14).row HRc13.out (fun _ _ h=>h))
 have HRd14:=hid ((But.of_grew (F:=fun _=>False) g14).row HRd13.out (fun _ _ h=>h))
 have HRv14:=hid ((But.of_grew (F:=fun _=>False) g14).row HRv13.out (fun _ _ h=>h))
 have HTc:=hid (HT13.out.grew g14)
 have HGc:=hid (HG13.out.trans g14)
 have HC:=hid (xssame_yes [0,1] (by decide) w14 _ (.slice (some ⟨w13.heap.size,0,none⟩) 2 2) (loose_ints HRa14.out) ⟨_,_,rfl,owns_intsAt (l:=[0,1]) o14⟩)
 clear g14 o14
 go_wp2_with fail
 refine HC.out.mono ?_
 rintro e w15 ⟨rfl,hg⟩
 have HT15:=hid (HTc.out.grew hg)
 have HG15:=hid (HGc.out.trans hg)
 have HRb15:=hid ((But.of_grew (F:=fun _=>False) hg).row HRb14.out (fun _ _ h=>h))
 have HRc15:=hid ((But.of_grew (F:=fun _=>False) hg).row HRc14.out (fun _ _ h=>h))
 have HRd15:=hid ((But.of_grew (F:=fun _=>False) hg).row HRd14.out (fun _ _ h=>h))
 have HRv15:=hid ((But.of_grew (F:=fun _=>False) hg).row HRv14.out (fun _ _ h=>h))
 clear hg HC HGc HTc hw14 HT13 HG13 HRa13 HRa14 HRb13 HRc13 HRd13 HRv13 HRb14 HRc14 HRd14 HRv14
 obtain ⟨w16,hw16⟩:∃ w16,w15.alloc (.cells #[.int .i64 (-1),.int .i64 0] 3)=w16:=⟨_,rfl⟩
 have g16:Grew w15 w16:=hw16▸grew_alloc w15 _
 have o16:Owns w16 w15.heap.size [.int .i64 (-1),.int .i64 0] 3:=hw16▸Owns.alloc w15 _ _
 have HRb16:=hid ((But.of_grew (F:=fun _=>False) g16).row HRb15.out (fun _ _ h=>h))
 have HRc16:=hid ((But.of_grew (F:=fun _=>False) g16).row HRc15.out (fun _ _ h=>h))
 have HRd16:=hid ((But.of_grew (F:=fun _=>False) g16).row HRd15.out (fun _ _ h=>h))
 have HRv16:=hid ((But.of_grew (F:=fun _=>False) g16).row HRv15.out (fun _ _ h=>h))
 have HTc:=hid (HT15.out.grew g16)
 have HGc:=hid (HG15.out.trans g16)
 have HC:=hid (xssame_yes [(-1),0] (by decide) w16 _ (.slice (some ⟨w15.heap.size,0,none⟩) 2 2) (loose_ints HRb16.out) ⟨_,_,rfl,owns_intsAt (l:=[(-1),0]) o16⟩)
 clear g16 o16
 go_wp2_with fail
 refine HC.out.mono ?_
 rintro e w17 ⟨rfl,hg⟩
 have HT17:=hid (HTc.out.grew hg)
 have HG17:=hid (HGc.out.trans hg)
 have HRc17:=hid ((But.of_grew (F:=fun _=>False) hg).row HRc16.out (fun _ _ h=>h))
 have HRd17:=hid ((But.of_grew (F:=fun _=>False) hg).row HRd16.out (fun _ _ h=>h))
 have HRv17:=hid ((But.of_grew (F:=fun _=>False) hg).row HRv16.out (fun _ _ h=>h))
 clear hg HC HGc HTc hw16 HT15 HG15 HRb15 HRb16 HRc15 HRd15 HRv15 HRc16 HRd16 HRv16
 obtain ⟨w18,hw18⟩:∃ w18,w17.alloc (.cells #[.int .i64 0,.int .i64 1] 3)=w18:=⟨_,rfl⟩
 have g18:Grew w17 w18:=hw18▸grew_alloc w17 _
 have o18:Owns w18 w17.heap.size [.int .i64 0,.int .i64 1] 3:=hw18▸Owns.alloc w17 _ _
 have HRc18:=hid ((But.of_grew (F:=fun _=>False) g18).row HRc17.out (fun _ _ h=>h))
 have HRd18:=hid ((But.of_grew (F:=fun _=>False) g18).row HRd17.out (fun _ _ h=>h))
 have HRv18:=hid ((But.of_grew (F:=fun _=>False) g18).row HRv17.out (fun _ _ h=>h))
 have HTc:=hid (HT17.out.grew g18)
 have HGc:=hid (HG17.out.trans g18)
 have HC:=hid (xssame_yes [0,1] (by decide) w18 _ (.slice (some ⟨w17.heap.size,0,none⟩) 2 2) (loose_ints HRc18.out) ⟨_,_,rfl,owns_intsAt (l:=[0,1]) o18⟩)
 clear g18 o18
 go_wp2_with fail
 refine HC.out.mono ?_
 rintro e w19 ⟨rfl,hg⟩
 have HT19:=hid (HTc.out.grew hg)
 have HG19:=hid (HGc.out.trans hg)
 have HRd19:=hid ((But.of_grew (F:=fun _=>False) hg).row HRd18.out (fun _ _ h=>h))
 have HRv19:=hid ((But.of_grew (F:=fun _=>False) hg).row HRv18.out (fun _ _ h=>h))
 clear hg HC HGc HTc hw18 HT17 HG17 HRc17 HRc18 HRd17 HRv17 HRd18 HRv18
 obtain ⟨w20,hw20⟩:∃ w20,w19.alloc (.cells #[.int .i64 (-1)] 3)=w20:=⟨_,rfl⟩
 have g20:Grew w19 w20:=hw20▸grew_alloc w19 _
 have o20:Owns w20 w19.heap.size [.int .i64 (-1)] 3:=hw20▸Owns.alloc w19 _ _
 have HRd20:=hid ((But.of_grew (F:=fun _=>False) g20).row HRd19.out (fun _ _ h=>h))
 have HRv20:=hid ((But.of_grew (F:=fun _=>False) g20).row HRv19.out (fun _ _ h=>h))
 have HTc:=hid (HT19.out.grew g20)
 have HGc:=hid (HG19.out.trans g20)
 have HC:=hid (xssame_yes [(-1)] (by decide) w20 _ (.slice (some ⟨w19.heap.size,0,none⟩) 1 1) (loose_ints HRd20.out) ⟨_,_,rfl,owns_intsAt (l:=[(-1)]) o20⟩)
 clear g20 o20
 go_wp2_with fail
 refine HC.out.mono ?_
 rintro e w21 ⟨rfl,hg⟩
 have HT21:=hid (HTc.out.grew hg)
 have HG21:=hid (HGc.out.trans hg)
 have HRv21:=hid ((But.of_grew (F:=fun _=>False) hg).row HRv20.out (fun _ _ h=>h))
 clear hg HC HGc HTc hw20 HT19 HG19 HRd19 HRd20 HRv19 HRv20
 obtain ⟨w22,hw22⟩:∃ w22,w21.alloc (.cells #[.int .i64 0] 3)=w22:=⟨_,rfl⟩
 have g22:Grew w21 w22:=hw22▸grew_alloc w21 _
 have o22:Owns w22 w21.heap.size [.int .i64 0] 3:=hw22▸Owns.alloc w21 _ _
 have HRv22:=hid ((But.of_grew (F:=fun _=>False) g22).row HRv21.out (fun _ _ h=>h))
 have HTc:=hid (HT21.out.grew g22)
 have HGc:=hid (HG21.out.trans g22)
 have HC:=hid (xssame_yes [0] (by decide) w22 _ (.slice (some ⟨w21.heap.size,0,none⟩) 1 1) (loose_ints HRv22.out) ⟨_,_,rfl,owns_intsAt (l:=[0]) o22⟩)
 clear g22 o22
 go_wp2_with fail
 refine HC.out.mono ?_
 rintro e w23 ⟨rfl,hg⟩
 have HT23:=hid (HTc.out.grew hg)
 have HG23:=hid (HGc.out.trans hg)
 clear hg HC HGc HTc hw22 HT21 HG21 HRv21 HRv22
 obtain ⟨w24,hw24⟩:∃ w24,w23.alloc (.cells #[.int .i64 1,.int .i64 1] 3)=w24:=⟨_,rfl⟩
 have g24:Grew w23 w24:=hw24▸grew_alloc w23 _
 have o24:Owns w24 w23.heap.size [.int .i64 1,.int .i64 1] 3:=hw24▸Owns.alloc w23 _ _
 have HC:=hid (xfar_27 HB.out HK.out (some ⟨w23.heap.size,0,none⟩) 2 (by decide) w24 (HT23.out.grew g24) (owns_intsAt (l:=[1,1]) o24))
 unfold XT.ptr at HC
 have HGc:=hid (HG23.out.trans g24)
 clear g24 o24
 go_wp2_with fail
 refine HC.out.mono ?_
 rintro e w25 ⟨rfl,hg⟩
 have HGe:=hid (HGc.out.trans hg)
 clear hg HC
 go_wp2_with fail
 go_ret
 exact ⟨rfl,HGe.out⟩
end Go.Proofs.YtppjmdanckdobaaGreatDoor

/- many of chapter 27: some number. -/
namespace Go.Proofs.YtppjmdanckdobaaGreatDoor
open Go.RowKit
open Lib (hid)
set_option maxHeartbeats 1000000 in
theorem many27_ok (n:Nd):∀ (W:World) (v0 v1 v2 v3 v4:Value),NodeAt W W.heap.size (some v0) (some v1) (some v2) (some v3) (some v4) n →
  Calls Tryz.prog 28 #[.agg #[v0,v1,v2,v3,v4]] W fun e W'=>(∃ c:Int,e=.returned (.int .i64 c))∧Below W.heap.size W W':=by
 induction n using Nd.ind with
 | h k nm tx set subs ih =>
 intro W v0 v1 v2 v3 v4 hN
 rw [NodeAt] at hN
 obtain ⟨hk,h1,h2,h3,h4,h5,⟨sa,sc,h6,h6',h7⟩,na,nc,h8,h8',h9⟩:=hN
 obtain rfl:=Option.some.inj h3
 obtain rfl:=Option.some.inj h4
 obtain rfl:=Option.some.inj h5
 obtain rfl:=Option.some.inj h6
 obtain rfl:=Option.some.inj h8
 clear h3 h4 h5 h6 h8
 unfold reachN at h1 h2 h6' h8'
 go_enter Tryz.func28,Tryz.ntmps28
 go_wp2
 go_loopw [3,4] (fun v i wr=>∃ (q:Int) (j:Nat),v=.int .i64 q∧i=.int .i64 j∧j≤subs.length∧Below W.heap.size W wr∧W.heap.size < wr.heap.size∧wr.cell? ⟨W.heap.size,4,none⟩=some (.slice na subs.length nc)) (fun _ i _=>subs.length - (intOf i).toNat)
 case atStart =>
  refine ⟨_,0,rfl,rfl,by omega,?_,by simp,?_⟩
  ·exact (Below.refl _ _).alloc (Nat.le_refl _) _
  ·simp [go_sem]
 case round =>
  obtain ⟨q,j,rfl,rfl,hj,hbw,hsz,hbox⟩:=hrel
  by_cases hlt:j < subs.length
  ·obtain ⟨b,off,rfl,hb,hnode⟩:=(h9.keep hbw).get hlt
   simp only [Nat.zero_add] at hnode
   obtain ⟨u0,u1,u2,u3,u4,e0,e1,e2,e3,e4,hnode⟩:=hnode.vals
   have hsub:=ih j hlt wr u0 u1 u2 u3 u4 (hnode.mono hbw.size)
   have HS:=hid hsub
   clear hsub hnode ih h7 h9
   go_wp2_with (go_at_call 28;refine HS.out.mono ?_;rintro e w' ⟨⟨c,rfl⟩,hb2⟩)
   exact ⟨⟨_,j+1,rfl,by go_num,by omega,hbw.trans (hb2.mono (by omega)),by have:=hb2.size;omega,by rw [hb2.cell hsz];exact hbox⟩,by simp [intOf];omega⟩
  ·clear ih h7 h9
   go_wp2_with fail
   go_ret
   exact ⟨⟨q,rfl⟩,hbw⟩
set_option maxHeartbeats 1000000 in
theorem great27_ok (g:Gr) (W:World) (v0 v1 v2 v3:Value) (hG:GrAt W W.heap.size (some v0) (some v1) (some v2) (some v3) g) :
  Calls Tryz.prog 9 #[.agg #[v0,v1,v2,v3]] W fun e W'=>BoolTells g.Fair e∧Below W.heap.size W W':=by
 have HG:=hid hG
 obtain ⟨h1,hs,h2,h3,h4,h5,ra,rc,h6,h7,h8⟩:=hG
 obtain rfl:=Option.some.inj h1
 obtain rfl:=Option.some.inj h2
 obtain rfl:=Option.some.inj h3
 obtain rfl:=Option.some.inj h6
 clear h1 h2 h3 h4 h5 h6
 unfold reachN at hs h7
 go_enter Tryz.func9,Tryz.ntmps9
 go_wp2
 go_loopw [3,4,5] (fun t v i wr=>∃ (p q:Int) (j:Nat),t=.int .i64 p∧v=.int .i64 q∧i=.int .i64 j∧j≤g.rules.length∧Below W.heap.size W wr∧W.heap.size < wr.heap.size∧(wr.cell? ⟨W.heap.size,0,none⟩=some (.string g.name)∧wr.cell? ⟨W.heap.size,1,none⟩=some (.int .i64 g.bound)∧wr.cell? ⟨W.heap.size,2,none⟩=some (.int .i64 g.states)∧wr.cell? ⟨W.heap.size,3,none⟩=some (.slice ra g.rules.length rc))) (fun _ _ i _=>g.rules.length - (intOf i).toNat)
 case atStart =>
  refine ⟨0,0,0,rfl,rfl,rfl,by omega,?_,by simp,?_⟩
  ·exact (Below.refl _ _).alloc (Nat.le_refl _) _
  ·simp [go_sem]
 case round =>
  obtain ⟨p,q,j,rfl,rfl,rfl,hj,hbw,hsz,hb0,hb1,hbz,hb3⟩:=hrel
  by_cases hlt:j < g.rules.length
  ·obtain ⟨b,off,rfl,hb,hrule⟩:=(h8.keep hbw).get hlt
   simp only [Nat.zero_add] at hrule
   obtain ⟨u2,u3,u4,u5,u6,e0,e1,e2,e3,e4,e5,e6,e7,e8,e9,hrule,hnode⟩:=hrule.vals
   have HS:=hid (many27_ok _ wr _ _ _ _ _ (hnode.mono hbw.size))
   clear hrule hnode h8
   rcases Bool.eq_false_or_eq_true (g.rules[j].sort != 0) with hne | hne
   all_goals
    go_wp2_with (go_at_call 28;refine HS.out.mono ?_;rintro e w' ⟨⟨c,rfl⟩,hb2⟩)
    exact ⟨⟨_,_,j+1,rfl,rfl,by go_num,by omega,hbw.trans (hb2.mono (by omega)),by have:=hb2.size;omega,by rw [hb2.cell hsz];exact hb0,by rw [hb2.cell hsz];exact hb1,by rw [hb2.cell hsz];exact hbz,by rw [hb2.cell hsz];exact hb3⟩,by simp [intOf];omega⟩
  ·have HS:=hid (great5_ok g wr _ _ _ _ ((HG.out.keep hbw).mono hbw.size))
   clear h8
   go_wp2_with (go_at_call 29;refine HS.out.mono ?_;rintro e w' ⟨hbt,hc2⟩;have HT:=hid hbt;rcases hbt with rfl | ⟨rfl,-⟩)
   all_goals
    go_ret
    first
     | exact ⟨.inl rfl,hbw.trans (hc2.mono (by omega))⟩
     | exact ⟨boolTells_mk _ fun _=>(by
       rcases HT.out with h | ⟨_,h⟩
       ·cases h
       ·exact h),hbw.trans (hc2.mono (by omega))⟩
end Go.Proofs.YtppjmdanckdobaaGreatDoor

/- Bounds: a book's first lists;a rule's number;a fair grammar has few nodes. -/
namespace Go.Proofs.YtppjmdanckdobaaGreatDoor
open Go.RowKit
open Lib (hid)
theorem firsts27_le (g:Gr):∀ f∈(bookOf g).firsts,f.w.length≤1000:=fun f hf=>by
 have h:f.Ok:=(book0 g (g.of [1,3]) (g.of [0])).iter_ok (book0_ok g (g.of [1,3]) (g.of [0])) _ f hf
 unfold Fst.Ok at h
 rcases h with ⟨_,h⟩ | ⟨_,_,h3,h4⟩
 ·rw [h];simp
 ·by_cases h5:f.long≤256
  ·have:=h3 h5
   omega
  ·rw [h4 (by omega)];simp
theorem rule_small (r:Int) (n:Nat) (h0:0 < n) (h:n≤20):∃ k:Nat,wrap64 ((IntKind.u64.wrap r).tmod n)=k∧k < n:=by
 have h1:0≤IntKind.u64.wrap r:=by unfold IntKind.wrap;simp [IntKind.bits,IntKind.signed];omega
 have h2:=Int.tmod_nonneg (n:Int) h1
 have h3:=Int.tmod_lt_of_pos (IntKind.u64.wrap r) (show (0:Int) < n by omega)
 obtain ⟨k,hk⟩:=Int.eq_ofNat_of_zero_le h2
 refine ⟨k,?_,by omega⟩
 rw [hk]
 unfold wrap64
 omega
mutual
theorem all_cnt27:∀ n:Nd,n.all.length=n.cnt
 | .mk k nm tx set subs=>by rw [Nd.all,Nd.cnt,List.length_cons,allL_cnt27 subs];omega
theorem allL_cnt27:∀ l:List Nd,(Nd.allL l).length=Nd.cnts l
 | []=>by rw [Nd.allL,Nd.cnts];rfl
 | n::r=>by rw [Nd.allL,Nd.cnts,List.length_append,all_cnt27 n,allL_cnt27 r]
end
theorem few_of {g:Gr} (h:g.Fair):g.Few :=
 ⟨by have:=h.len;omega,fun i hi=>by
  have h1:=(h.rule i hi).1
  have h2:=Nd.cnt_le_total g.rules[i].body
  rw [all_cnt27]
  omega⟩
end Go.Proofs.YtppjmdanckdobaaGreatDoor
