/- derives: does a node derive anything? -/
import Derived.Test.YtppjmdanckdobaaGreatDoorQR29
import Derived.Test.YtppjmdanckdobaaGreatDoorQR14
namespace Go.Proofs.YtppjmdanckdobaaGreatDoor
open Go.RowKit
open Lib (hid)
theorem enters95:Enters 95:=fun _ _=>by kernel_rfl
theorem enters97:Enters 97:=fun _ _=>by kernel_rfl
theorem xder1_ok (r:Bool) (tb pa:Nat) (v0 v1 v2 v3 v4:Value) (W:World) (ha:W.cell? ⟨pa,0,none⟩=some (.pointer (some ⟨tb,0,none⟩)))
  (H:∀ W1,Grew W W1→Calls Tryz.prog 61 #[.pointer (some ⟨tb,0,none⟩),.agg #[v0,v1,v2,v3,v4]] W1 fun e W2=>e=.returned (.bool r)∧Grew W1 W2) :
  Calls Tryz.prog 95 (#[.agg #[v0,v1,v2,v3,v4]]++#[.pointer (some ⟨pa,0,none⟩)]) W fun e W2=>e=.returned (.bool r)∧Below W.heap.size W W2:=by
 have hgr:=grew_alloc W (.cells #[v0,v1,v2,v3,v4] 80)
 have hl:=lt_of_cell ha
 have hS:=hid (H _ hgr)
 clear H
 simp only [List.append_toArray,List.cons_append,List.nil_append]
 go_enter Tryz.func95,Tryz.ntmps95
 go_wp2_with (go_at_call 61;refine hS.out.mono ?_;rintro e w' ⟨rfl,hb2⟩)
 go_ret
 exact ⟨rfl,hgr.trans hb2⟩
theorem xder2_ok (r:Bool) (tb pa ps:Nat) (v0 v1 v2 v3 v4:Value) (W:World) (ha:W.cell? ⟨pa,0,none⟩=some (.pointer (some ⟨tb,0,none⟩)))
  (hs:W.cell? ⟨ps,0,none⟩=some (.func (.func 95) #[] #[.pointer (some ⟨pa,0,none⟩)]))
  (H:∀ W1,Grew W W1→Calls Tryz.prog 61 #[.pointer (some ⟨tb,0,none⟩),.agg #[v0,v1,v2,v3,v4]] W1 fun e W2=>e=.returned (.bool r)∧Grew W1 W2) :
  Calls Tryz.prog 97 (#[.agg #[v0,v1,v2,v3,v4]]++#[.pointer (some ⟨ps,0,none⟩)]) W fun e W2=>e=.returned (.bool !r)∧Below W.heap.size W W2:=by
 have hgr:=grew_alloc W (.cells #[v0,v1,v2,v3,v4] 80)
 have hl:=lt_of_cell ha
 have hl3:=lt_of_cell hs
 have hS:=hid (xder1_ok r tb pa v0 v1 v2 v3 v4 _ (by rw [hgr.cells _ _ hl];exact ha) (fun W1 h=>H W1 (hgr.trans h)))
 clear H ha
 simp only [List.append_toArray,List.cons_append,List.nil_append]
 go_enter Tryz.func97,Tryz.ntmps97
 go_wp2_with (go_at_call 95;refine hS.out.mono ?_;rintro e w' ⟨rfl,hb2⟩)
 go_ret
 exact ⟨rfl,hgr.trans hb2⟩
theorem not_any_not {l:List Nd} {q:Nd→Bool}:(!l.any fun n=>!q n)=l.all q:=by
 induction l with
 | nil=>rfl
 | cons n r ih=>rw [List.any_cons,List.all_cons,← ih];cases q n<;>simp
theorem longN_eq {B:Bk} (hf:B.firsts.length=B.bodies.length) (r:Nat):(if hasR B (r:Int) then (B.firsts.getD ((r:Int)).toNat ⟨-1,[]⟩).long else -1)=B.longN r:=by
 unfold Bk.longN
 rw [Int.toNat_natCast,List.getD_eq_getElem?_getD]
 by_cases hr:r < B.bodies.length
 ·rw [if_pos (by unfold hasR;rw [Bool.and_eq_true,decide_eq_true_eq,decide_eq_true_eq];omega)]
 ·rw [if_neg (by unfold hasR;rw [Bool.and_eq_true,decide_eq_true_eq,decide_eq_true_eq];omega),List.getElem?_eq_none (by omega)]
  rfl
set_option maxHeartbeats 4000000 in
set_option maxRecDepth 20000 in
theorem xderives_ok (E:XE) (n:Nd):∀ (W:World) (v0 v1 v2 v3 v4:Value),E.Tab W→NodeAt W W.heap.size (some v0) (some v1) (some v2) (some v3) (some v4) n →
  Calls Tryz.prog 61 #[.pointer (some ⟨E.tb,0,none⟩),.agg #[v0,v1,v2,v3,v4]] W fun e W'=>e=.returned (.bool (E.B.dv n))∧Grew W W':=by
 induction n using Nd.ind with
 | h k nm tx set subs ih =>
 intro W v0 v1 v2 v3 v4 hT hN
 rw [NodeAt] at hN
 obtain ⟨hk,h1,h2,h3,h4,h5,⟨sa,sc,h6,h6',h7⟩,na,nc,h8,h8',h9⟩:=hN
 obtain rfl:=Option.some.inj h3
 obtain rfl:=Option.some.inj h4
 obtain rfl:=Option.some.inj h5
 obtain rfl:=Option.some.inj h6
 obtain rfl:=Option.some.inj h8
 clear h3 h4 h5 h6 h8 h7
 have hgr:Grew W (((W.alloc (.cells #[.pointer (some ⟨E.tb,0,none⟩)] 172)).alloc (.cells #[.int .u8 k,.string nm,.string tx,.slice sa set.length sc,.slice na subs.length nc] 80)).alloc (.cells #[.func (.func 95) #[] #[.pointer (some ⟨W.heap.size,0,none⟩)]] 127)) :=
  ((grew_alloc _ _).trans (grew_alloc _ _)).trans (grew_alloc _ _)
 obtain ⟨w1,hw1⟩:∃ w1,w1=(((W.alloc (.cells #[.pointer (some ⟨E.tb,0,none⟩)] 172)).alloc (.cells #[.int .u8 k,.string nm,.string tx,.slice sa set.length sc,.slice na subs.length nc] 80)).alloc (.cells #[.func (.func 95) #[] #[.pointer (some ⟨W.heap.size,0,none⟩)]] 127)):=⟨_,rfl⟩
 rw [← hw1] at hgr
 have f0:w1.cell? ⟨W.heap.size,0,none⟩=some (.pointer (some ⟨E.tb,0,none⟩)):=by rw [hw1];simp [go_sem]
 have f3:w1.cell? ⟨W.heap.size+1+1,0,none⟩=some (.func (.func 95) #[] #[.pointer (some ⟨W.heap.size,0,none⟩)]):=by rw [hw1];simp [go_sem]
 have hT1:=hT.keep (hgr.mono hT.low)
 have hM1:AskEach 95 #[.pointer (some ⟨W.heap.size,0,none⟩)] w1 subs (fun n=>E.B.dv n):=by
  intro i hi W' u0 u1 u2 u3 u4 hg hn
  exact xder1_ok _ E.tb _ u0 u1 u2 u3 u4 W' (by rw [hg.cells _ _ (lt_of_cell f0)];exact f0)
   (fun W1 h=>ih i hi W1 u0 u1 u2 u3 u4 (hT1.keep ((hg.trans h).mono hT1.low)) ((hn.keep h).mono h.size))
 have hM2:AskEach 97 #[.pointer (some ⟨W.heap.size+1+1,0,none⟩)] w1 subs (fun n=>!E.B.dv n):=by
  intro i hi W' u0 u1 u2 u3 u4 hg hn
  exact xder2_ok _ E.tb _ _ u0 u1 u2 u3 u4 W' (by rw [hg.cells _ _ (lt_of_cell f0)];exact f0) (by rw [hg.cells _ _ (lt_of_cell f3)];exact f3)
   (fun W1 h=>ih i hi W1 u0 u1 u2 u3 u4 (hT1.keep ((hg.trans h).mono hT1.low)) ((hn.keep h).mono h.size))
 have hC1:=hid (contNodes_ok subs _ 95 _ enters95 w1 na nc (Nat.le_trans h8' (Nat.min_le_left _ _)) ((h9.keep hgr).mono hgr.size) hM1)
 have hC2:=hid (contNodes_ok subs _ 97 _ enters97 w1 na nc (Nat.le_trans h8' (Nat.min_le_left _ _)) ((h9.keep hgr).mono hgr.size) hM2)
 have HT:=hid hT1
 have HG:=hid hgr
 rw [hw1] at hC1 hC2 HT HG
 clear hgr f0 f3 hT1 hM1 hM2 h9 ih hT hw1 w1
 unfold reachN at h1 h2 h6' h8'
 by_cases h5k:k=5
 ·subst h5k
  have hq:Hid (E.B.dv (.mk 5 nm tx set subs)=decide (0≤E.B.longN (E.B.rule nm))):=hid (by rw [Bk.dv,if_pos rfl])
  obtain ⟨w1,hw1⟩:∃ w1,(((W.alloc (.cells #[.pointer (some ⟨E.tb,0,none⟩)] 172)).alloc (.cells #[.int .u8 5,.string nm,.string tx,.slice sa set.length sc,.slice na subs.length nc] 80)).alloc (.cells #[.func (.func 95) #[] #[.pointer (some ⟨W.heap.size,0,none⟩)]] 127))=w1:=⟨_,rfl⟩
  have f0:w1.cell? ⟨W.heap.size,0,none⟩=some (.pointer (some ⟨E.tb,0,none⟩)):=by rw [← hw1];simp [go_sem]
  have f1:w1.cell? ⟨W.heap.size+1,0,none⟩=some (.int .u8 5):=by rw [← hw1];simp [go_sem]
  have f2:w1.cell? ⟨W.heap.size+1,1,none⟩=some (.string nm):=by rw [← hw1];simp [go_sem]
  have fl:W.heap.size+1 < w1.heap.size:=by rw [← hw1];simp
  have fl0:W.heap.size < w1.heap.size:=by omega
  rw [hw1] at HT HG
  have HL:Hid (∀ w,Grew w1 w→Calls Tryz.prog 17 #[.pointer (some ⟨E.bk,0,none⟩),.int .i64 (E.B.rule nm:Int)] w fun e W'=>e=.returned (.int .i64 (E.B.longN (E.B.rule nm)))∧W'=w):=hid fun w hw=>by
   rw [← longN_eq HT.out.book.few.2]
   exact slong_ok E.B _ E.V E.bk E.lim w (HT.out.book.keep (hw.mono HT.out.low))
  have hrn:∀ w,Grew w1 w→(Instr.lookup 26 (.map (some E.nm)) (.string nm) false).run Tryz.prog w=.ok (.int .i64 (E.B.rule nm:Int)) w:=fun w hw=>run_name (by rw [hw.block _ (Nat.lt_of_lt_of_le HT.out.nlo.1 HT.out.low)];exact HT.out.names) nm
  have HRN:=hid hrn
  have t0:=HT.out.box.cell_at (i:=0) rfl
  have t1:=HT.out.box.cell_at (i:=1) rfl
  have tl:=HT.out.box.lt
  clear hC1 hC2 hrn
  generalize E.B.rule nm=r at *
  generalize E.B.longN r=lg at *
  go_enter Tryz.func61,Tryz.ntmps61
  go_wp2_with fail
  refine wp_region_hav_lit follows (by kernel_rfl) ?_
  iterate 10 ((first | refine HavG.skip (fun _=>rfl) ?_ | (refine HavG.val (fun _=>rfl) ?_ (fun x w hw _=>?_) ?_;rotate_left;(focus (have hc:=hw.cells;clear hw;go_simp;first | done | rfl))));simp only [Act.put,sia,scz,scs])
  refine HavG.val (fun _=>rfl) (.int .i64 (r:Int)) (fun x w hw _=>?_) ?_
  ·have hl:=HRN.out w hw
   clear hw
   go_simp
   first | done | rw [hl]
  simp only [Act.put,sia,scz,scs]
  refine HavG.det (fun _=>rfl) (.int .i64 lg) (fun x w hw hd=>?_) ?_
  ·clear hd
   have HW:=hid hw
   clear hw
   go_simp
   refine (HL.out _ HW.out).mono ?_
   rintro e w' ⟨rfl,rfl⟩
   exact ⟨rfl,Grew.refl _⟩
  simp only [Act.put,sia,scz,scs]
  iterate 1 ((first | refine HavG.skip (fun _=>rfl) ?_ | (refine HavG.val (fun _=>rfl) ?_ (fun x w hw _=>?_) ?_;rotate_left;(focus (have hc:=hw.cells;clear hw;go_simp;first | done | rfl))));simp only [Act.put,sia,scz,scs])
  refine HavG.tail (by kernel_rfl) (by kernel_rfl) (fun x w hw _=>?_)
  have HW:=hid hw
  clear hw
  go_wp2_with fail
  go_ret
  exact ⟨ret_bool hq.out.symm,HG.out.trans HW.out⟩
 ·by_cases h1k:k=1
  ·subst h1k
   have hq:Hid (E.B.dv (.mk 1 nm tx set subs)=!(subs.any fun n=>!E.B.dv n)):=hid (by rw [Bk.dv,if_neg (by omega),if_pos rfl,dvAll_eq,not_any_not])
   clear HT hC1 h5k
   go_enter Tryz.func61,Tryz.ntmps61
   go_wp2_with (go_at_call 96;refine hC2.out.mono ?_;rintro e w' ⟨rfl,hb2⟩;have HB:=hid hb2;clear hb2)
   go_ret
   exact ⟨ret_bool hq.out.symm,HG.out.trans HB.out⟩
  ·by_cases h04:k=0∨k=4
   ·have hq:Hid (E.B.dv (.mk k nm tx set subs)=(subs.any fun n=>E.B.dv n)):=hid (by rw [Bk.dv,if_neg h5k,if_neg h1k,if_pos h04,dvAny_eq])
    clear HT hC2
    rcases h04 with rfl | rfl
    all_goals
     go_enter Tryz.func61,Tryz.ntmps61
     go_wp2_with (go_at_call 96;refine hC1.out.mono ?_;rintro e w' ⟨rfl,hb2⟩;have HB:=hid hb2;clear hb2)
     go_ret
     exact ⟨ret_bool hq.out.symm,HG.out.trans HB.out⟩
   ·have hq:Hid (E.B.dv (.mk k nm tx set subs)=true):=hid (by rw [Bk.dv,if_neg h5k,if_neg h1k,if_neg h04])
    have e5:(k == 5)=false:=beq_eq_false_iff_ne.2 h5k
    have e1:(k == 1)=false:=beq_eq_false_iff_ne.2 h1k
    have e0:(k == 0)=false:=beq_eq_false_iff_ne.2 fun e=>h04 (.inl e)
    have e4:(k == 4)=false:=beq_eq_false_iff_ne.2 fun e=>h04 (.inr e)
    clear HT hC1 hC2
    go_enter Tryz.func61,Tryz.ntmps61
    go_wp2_with fail
    go_ret
    exact ⟨ret_bool hq.out.symm,HG.out⟩
end Go.Proofs.YtppjmdanckdobaaGreatDoor

/- Sets in statements whose order Go leaves open;what a call notes there. -/
namespace Go.Proofs.YtppjmdanckdobaaGreatDoor
open Go.RowKit
open Lib (hid)
theorem But.wideX {F G:Nat→Prop} {w w':World} (h:But F w w') (hF:∀ k,k < w.heap.size→F k→G k):But G w w':=⟨h.os,h.tape,h.output,h.size,fun k hk hn=>h.block k hk fun hf=>hn (hF k hk hf)⟩
theorem exec_load_set {ev:Operand→Value} {o:Oper} {w:World} {q b:Nat} {x:Operand} (hO:Owns w b (setL q) 66) (ho:o.op=.load 66 x) (hx:ev x=.pointer (some ⟨b,0,none⟩)):(execOp ev o).run Tryz.prog w=.ok (.value (setV q)) w:=by
 unfold execOp
 simp only [ho,hx,Instr.loadAt,Instr.sureAddr,Sem.run_bind,Sem.run_pure,Result.andThen_ok,run_loadVar_row w b 66 66 _ (0,0) _ hO Tryz.underlying66 rfl (set_size q)]
 rfl
theorem set_row {w:World} {b q p:Nat} (hO:Owns w b (setL q) 66):Owns (w.setRow b (setL p).toArray) b (setL p) 66∧But (fun k=>k=b) w (w.setRow b (setL p).toArray) :=
 ⟨setRow_heap w b _ _ 66 _ hO,⟨rfl,rfl,rfl,by simp,fun k _ hk=>setRow_other w b k _ hk⟩⟩
theorem exec_store_set {ev:Operand→Value} {o:Oper} {w:World} {q p b:Nat} {x y:Operand} (hO:Owns w b (setL q) 66) (ho:o.op=.store 66 x y) (hx:ev x=.pointer (some ⟨b,0,none⟩)) (hy:ev y=setV p):(execOp ev o).run Tryz.prog w=.ok .skip (w.setRow b (setL p).toArray):=by
 unfold execOp
 simp only [ho,hx,hy,setV,Instr.storeAt,Instr.sureAddr,Sem.run_bind,Sem.run_pure,Result.andThen_ok,run_storeVar_row w b 66 66 _ _ hO (set_size p) (by rw [List.size_toArray,List.size_toArray,setL_len,setL_len]) (setL_all p)]
def PS (base q:Nat) (a b:World):Prop:=But (fun k=>base≤k) a b∧∀ t,base≤t→(Owns a t (setL 0) 66→Owns b t (setL 0) 66∨Owns b t (setL q) 66)∧(Owns a t (setL q) 66→Owns b t (setL q) 66)
theorem psRel {base q:Nat}:Rel (PS base q) :=
 ⟨fun w=>⟨But.refl _ w,fun _ _=>⟨.inl,id⟩⟩,fun h k=>⟨But.trans h.1 k.1 (fun _ _ e=>e),fun t ht=>⟨fun ho=>((h.2 t ht).1 ho).elim (k.2 t ht).1 fun h'=>.inr ((k.2 t ht).2 h'),fun ho=>(k.2 t ht).2 ((h.2 t ht).2 ho)⟩⟩,fun w=>⟨(But.refl _ w).drew,fun _ _=>⟨.inl,id⟩⟩⟩
theorem PS.grew {base q:Nat} {a b:World} (h:Grew a b):PS base q a b:=⟨But.of_grew h,fun _ _=>⟨fun ho=>.inl (ho.keep h),fun ho=>ho.keep h⟩⟩
theorem PS.cells {w w':World} {q:Nat} (h:PS w.heap.size q w w'):∀ b o,b < w.heap.size→w'.cell? ⟨b,o,none⟩=w.cell? ⟨b,o,none⟩:=fun b o hb=>World.cell?_of_block (h.1.block b hb (fun e=>by omega))
theorem PS.set {a:World} {base t q p:Nat} (ho:Owns a t (setL p) 66) (ht:base≤t):PS base q a (a.setRow t (setL q).toArray):=by
 obtain ⟨h2,h1⟩:=set_row (p:=q) ho
 refine ⟨(But.refl (fun k=>base≤k) a).trans h1 (fun k _ e=>by omega),fun t' ht'=>?_⟩
 by_cases e:t'=t
 ·subst e
  exact ⟨fun _=>.inr h2,fun _=>h2⟩
 ·exact ⟨fun h=>.inl (h1.owns h e),fun h=>h1.owns h e⟩
def HalfS (base q:Nat) (v:Value) (w:World):Prop:=∃ t,v=.pointer (some ⟨t,0,none⟩)∧base≤t∧(Owns w t (setL 0) 66∨Owns w t (setL q) 66)
def DoneS (base q:Nat) (v:Value) (w:World):Prop:=∃ t,v=.pointer (some ⟨t,0,none⟩)∧base≤t∧Owns w t (setL q) 66
theorem HalfS.keep {base q:Nat} {v:Value} {w w':World} (h:HalfS base q v w) (hg:PS base q w w'):HalfS base q v w':=by
 obtain ⟨t,h1,h2,h3⟩:=h
 exact ⟨t,h1,h2,h3.elim (hg.2 t h2).1 fun h=>.inr ((hg.2 t h2).2 h)⟩
theorem DoneS.keep {base q:Nat} {v:Value} {w w':World} (h:DoneS base q v w) (hg:PS base q w w'):DoneS base q v w':=by
 obtain ⟨t,h1,h2,h3⟩:=h
 exact ⟨t,h1,h2,(hg.2 t h2).2 h3⟩
def XE.G (E:XE) (S S':Int→Prop) (w w':World):Prop:=E.R w w'∧(E.At S w→E.At S w'∨E.At S' w')∧(E.At S' w→E.At S' w')
theorem XE.At.drew {E:XE} {S:Int→Prop} {w:World} (h:E.At S w):E.At S { w with drawn:=w.drawn+1 }:=h.but (F:=fun _=>False) (But.refl _ w).drew fun _=>False.elim
theorem XE.grel (E:XE) (S S':Int→Prop):Rel (E.G S S') :=
 ⟨fun w=>⟨But.refl _ w,.inl,id⟩,fun h k=>⟨h.1.trans k.1,fun ha=>(h.2.1 ha).elim k.2.1 fun h'=>.inr (k.2.2 h'),fun ha=>k.2.2 (h.2.2 ha)⟩,fun w=>⟨(But.refl _ w).drew,fun h=>.inl h.drew,fun h=>h.drew⟩⟩
theorem XE.G.grew {E:XE} {S S':Int→Prop} {a b:World} (h:Grew a b):E.G S S' a b:=⟨But.of_grew h,fun ha=>.inl (ha.grew h),fun ha=>ha.grew h⟩
def NoteR (E:XE) (S':Int→Prop) (D:Nat→Prop) (v:Value) (w:World):Prop:=∃ q,v=setV q∧q < 2 ^ 49∧Bits q D∧E.At S' w
theorem NoteR.keep {E:XE} {S S':Int→Prop} {D:Nat→Prop} {v:Value} {w w':World} (h:NoteR E S' D v w) (hg:E.G S S' w w'):NoteR E S' D v w':=by
 obtain ⟨q,h1,h2,h3,h4⟩:=h
 exact ⟨q,h1,h2,h3,hg.2.2 h4⟩
theorem XE.G.call {E:XE} {S N:Int→Prop} {w0 w:World} (h0:E.At S w0) (hg:E.G S (fun t=>S t∨N t) w0 w):∃ T,E.At T w∧(∀ t,(T t∨N t)↔(S t∨N t)):=by
 rcases hg.2.1 h0 with h | h
 ·exact ⟨S,h,fun t=>Iff.rfl⟩
 ·exact ⟨_,h,fun t=>⟨fun h=>h.elim id .inr,fun h=>.inl h⟩⟩
theorem XE.G.done {E:XE} {S S':Int→Prop} {w w':World} (hr:E.R w w') (h:E.At S' w'):E.G S S' w w':=⟨hr,fun _=>.inr h,fun _=>h⟩
end Go.Proofs.YtppjmdanckdobaaGreatDoor

/- from a place on: where a rule may end. -/
namespace Go.Proofs.YtppjmdanckdobaaGreatDoor
open Go.RowKit
open Lib (hid)
def XBody (E:XE) (r a j:Nat):Prop:=∃ n,E.B.bodies[r]? = some n∧Der E.B E.wl n a j
def XNxt (E:XE) (r a:Nat) (t:Int):Prop:=∃ (n:Nd) (t':Nat),E.B.bodies[r]? = some n∧Nx E.B E.wl n a t'∧t=(t':Int)
def AskX (E:XE) (r a:Nat):Prop:=∀ (S:Int→Prop) (W:World),E.At S W→Calls Tryz.prog 19 #[E.ptr,.agg #[.int .i64 (r:Int),.int .i64 (a:Int)]] W (XRes E (XBody E r a) S (XNxt E r a) W)
def NodeX1 (E:XE) (n:Nd) (a:Nat):Prop:=∀ (S:Int→Prop) (W:World) (v0 v1 v2 v3 v4:Value),E.At S W→NodeAt W E.lim (some v0) (some v1) (some v2) (some v3) (some v4) n →
 Calls Tryz.prog 39 #[E.ptr,.agg #[v0,v1,v2,v3,v4],setV (2 ^ a)] W (XRes E (Der E.B E.wl n a) S (fun t=>∃ t':Nat,Nx E.B E.wl n a t'∧t=(t':Int)) W)
set_option maxHeartbeats 8000000 in
set_option maxRecDepth 20000 in
theorem xfrom_ok (E:XE) (r a:Nat) (ha:a≤E.wl.length) (n:Nd) (hn:E.B.bodies[r]? = some n) (H:NodeX1 E n a):AskX E r a:=by
 intro S W hA
 have hrl:=(List.getElem?_eq_some_iff.1 hn).1
 obtain ⟨f,hf⟩:∃ f,W.heap.size=f:=⟨_,rfl⟩
 obtain ⟨w1,hw1⟩:∃ w1,W.alloc (.cells #[.int .i64 (r:Int),.int .i64 (a:Int)] 69)=w1:=⟨_,rfl⟩
 have g1:Grew W w1:=hw1▸grew_alloc W _
 have o1:Owns w1 f [.int .i64 (r:Int),.int .i64 (a:Int)] 69:=by rw [← hw1,← hf];exact Owns.alloc W _ _
 have z1:w1.heap.size=f+1:=by rw [← hw1,← hf];exact World.size_alloc _ _
 obtain ⟨w2,hw2⟩:∃ w2,w1.alloc (.cells #[.bool false,.bool false,.bool false,.bool false,.bool false,.bool false,.bool false,.bool false,.bool false,.bool false,.bool false,.bool false,.bool false,.bool false,.bool false,.bool false,.bool false,.bool false,.bool false,.bool false,.bool false,.bool false,.bool false,.bool false,.bool false,.bool false,.bool false,.bool false,.bool false,.bool false,.bool false,.bool false,.bool false,.bool false,.bool false,.bool false,.bool false,.bool false,.bool false,.bool false,.bool false,.bool false,.bool false,.bool false,.bool false,.bool false,.bool false,.bool false,.bool false] 66)=w2:=⟨_,rfl⟩
 have g2:Grew w1 w2:=hw2▸grew_alloc w1 _
 have o2:Owns w2 (f+1) (setL 0) 66:=by rw [← hw2,← z1];exact zset_owns w1
 have hA2:=hA.grew (g1.trans g2)
 have hfew:=hA2.few
 have k2:=hA2.box.cell_at (i:=2) rfl
 have kl:=hA2.box.lt
 have s0:=(o1.keep g2).cell_at (i:=0) rfl
 have s1:=(o1.keep g2).cell_at (i:=1) rfl
 have sl:=(o1.keep g2).lt
 have HA:=hid hA
 have HA2:=hid hA2
 have G2:=hid (g1.trans g2)
 have O1:=hid (o1.keep g2)
 have O2:=hid o2
 have HF:=hid hf
 have HHN:=hid hn
 have HH:=hid H
 have HLT:=hid hA.lts
 have ha49:a < 49:=by omega
 have HHA:=hid ha
 obtain ⟨Q,hQ⟩:∃ Q,XRes E (XBody E r a) S (XNxt E r a) W=Q:=⟨_,rfl⟩
 rw [hQ]
 have HQ:=hid hQ
 unfold XE.ptr
 clear hA hA2 g1 g2 o1 o2 hQ H ha
 obtain ⟨L,hL,hright⟩:=HA2.out.known
 have HL:=hid hL
 have HRI:=hid hright
 rcases run_knownX hL (r,a) with ⟨m,hm,hlk⟩ | ⟨hnone,hlk⟩
 ·as_aux_lemma =>
   have HRM:=hid (HRI.out _ hm)
   have HLK:Hid (∀ w,PS w2.heap.size m w2 w→(Instr.lookup 61 (.map (some E.kb)) (.agg #[.int .i64 (r:Int),.int .i64 (a:Int)]) true).run Tryz.prog w=.ok (.tuple #[setV m,.bool true]) w):=hid fun w hw=>by
    have hLw:w.heap[E.kb]? = some (mapObj (callL L)):=by rw [hw.1.block _ (Array.getElem?_eq_some_iff.1 HL.out).1 (fun h=>by have:=(Array.getElem?_eq_some_iff.1 HL.out).1;omega)];exact HL.out
    rcases run_knownX hLw (r,a) with ⟨m',hm',h⟩ | ⟨h,-⟩
    ·have e:m'=m:=(HRI.out _ hm').1.eq HRM.out.1
     rw [e] at h
     exact h
    ·exact absurd rfl (h _ hm)
   have hm49:Hid (m < 2 ^ 49):=hid (HRM.out.1.lt49 fun j ⟨n',_,hd⟩=>by have:=hd.le.2 HHA.out;omega)
   clear hlk hm hL hright
   go_enter Tryz.func19,Tryz.ntmps19
   go_upto_region 1 with fail
   refine wp_region_hav_litX (G:=PS w2.heap.size m) psRel follows (by kernel_rfl) ?_
   iterate 9 ((first | refine HavX.skip (fun _=>rfl) ?_ | (refine HavX.val psRel (fun _=>rfl) ?_ (fun x w hw _=>?_) ?_;rotate_left;(focus (have hc:=hw.cells;have hlk:=HLK.out w hw;clear hw;go_simp;first | done | rfl))));simp only [Act.put,sia,scz,scs])
   refine HavX.any (fun _=>rfl) (fun _=>HalfS w2.heap.size m) (fun _ _ _ _ _ h=>h) (fun _ v w w' hg h=>h.keep hg) (fun x w hw hd=>?_) ?_
   ·clear hd
    have HW:=hid hw
    clear hw
    go_simp
    exact ⟨PS.grew (grew_alloc w _),_,rfl,HW.out.1.size,.inl (zset_owns w)⟩
   simp only [Act.put,sia,scz,scs]
   refine HavX.any (fun _=>rfl) (fun x _ w=>DoneS w2.heap.size m (x 9) w) (fun x x' v w h hx=>show DoneS w2.heap.size m (x' 9) w by rw [← h 9 (by decide) (by kernel_rfl)];exact hx) (fun _ _ w w' hg h=>h.keep hg) (fun x w hw hd=>?_) ?_
   ·obtain ⟨t,hx,ht,hot⟩:=hd _ (List.mem_append_right _ (List.mem_singleton.2 rfl)) (by kernel_rfl)
    dsimp only at hx
    obtain ⟨p,hoy⟩:∃ p,Owns w t (setL p) 66:=hot.elim (fun h=>⟨_,h⟩) (fun h=>⟨_,h⟩)
    clear hd hot hw
    simp only [hx]
    rw [exec_store_set hoy rfl rfl rfl]
    exact ⟨PS.set hoy ht,t,rfl,ht,(set_row hoy).1⟩
   simp only [Act.put]
   refine HavX.tail (by kernel_rfl) (by kernel_rfl) (fun x w hw hd=>?_)
   obtain ⟨t,hx,ht,hot⟩:=hd _ (List.mem_append_right _ (List.mem_singleton.2 rfl))
   have hft:f≠t:=by have:=O1.out.lt;omega
   have hft2:f+1≠t:=by have:=O2.out.lt;omega
   have HWT:=hid (show W.heap.size≤t by have:=G2.out.size;omega)
   have HFT:=hid hft
   have HF2:=hid hft2
   have H3:=hid (HA2.out.but hw.1 fun k hk=>by have:=HA2.out.lts;have:=HA2.out.tab.low;omega)
   have HR3:=hid (show E.R W w from But.trans (XE.R.grew G2.out) hw.1 fun k hk e=>by have:=G2.out.size;omega)
   have O13:=hid (hw.1.owns O1.out (fun hq=>by have:=O1.out.lt;omega))
   have O23:=hid (hw.1.owns O2.out (fun hq=>by have:=O2.out.lt;omega))
   have OT3:=hid hot
   clear hd hot hft hft2 ht hw k2 kl s0 s1 sl z1 HLK hf hw1 hw2
   simp only [hx]
   clear hx
   obtain ⟨w3,rfl⟩:∃ z,z=w:=⟨_,rfl⟩
   go_upto_region 5 with fail
   apply wp_region_lit
   refine wpList_load_set OT3.out rfl _ rfl rfl ?_
   simp only [Act.put,sia,scz,scs]
   refine wpList_store_set O23.out rfl _ _ rfl rfl rfl ?_
   intro w5 o5 b5
   simp only [Act.put]
   have O5:=hid o5
   have H5:=hid (XE.At.fresh HA.out H3.out b5 (by have:=HF.out;omega))
   have HR5:=hid (XE.R.fresh HA.out HR3.out b5 (by have:=HF.out;omega))
   clear o5 b5
   go_wp2_with fail
   refine bodyPost_ret (ret_set rfl _ O5.out rfl) rfl ?_
   rw [← HQ.out]
   exact ⟨m,rfl,hm49.out,HRM.out.1,H5.out.iff fun t=>⟨.inl,fun h=>h.elim id fun ⟨n',t',h1,h2,h3⟩=>h3▸HRM.out.2 n' t' h1 h2⟩,HR5.out⟩
 ·as_aux_lemma =>
   have HNO:=hid hnone
   have HLK:Hid (∀ w,PS w2.heap.size 0 w2 w→(Instr.lookup 61 (.map (some E.kb)) (.agg #[.int .i64 (r:Int),.int .i64 (a:Int)]) true).run Tryz.prog w=.ok (.tuple #[setV 0,.bool false]) w):=hid fun w hw=>by
    have hLw:w.heap[E.kb]? = some (mapObj (callL L)):=by rw [hw.1.block _ (Array.getElem?_eq_some_iff.1 HL.out).1 (fun h=>by have:=(Array.getElem?_eq_some_iff.1 HL.out).1;omega)];exact HL.out
    rcases run_knownX hLw (r,a) with ⟨m,hm,-⟩ | ⟨-,h⟩
    ·exact absurd rfl (HNO.out _ hm)
    ·exact h
   clear hlk hnone hL hright
   go_enter Tryz.func19,Tryz.ntmps19
   go_upto_region 1 with fail
   refine wp_region_hav_litX (G:=PS w2.heap.size 0) psRel follows (by kernel_rfl) ?_
   iterate 9 ((first | refine HavX.skip (fun _=>rfl) ?_ | (refine HavX.val psRel (fun _=>rfl) ?_ (fun x w hw _=>?_) ?_;rotate_left;(focus (have hc:=hw.cells;have hlk:=HLK.out w hw;clear hw;go_simp;first | done | rfl))));simp only [Act.put,sia,scz,scs])
   refine HavX.any (fun _=>rfl) (fun _=>HalfS w2.heap.size 0) (fun _ _ _ _ _ h=>h) (fun _ v w w' hg h=>h.keep hg) (fun x w hw hd=>?_) ?_
   ·clear hd
    have HW:=hid hw
    clear hw
    go_simp
    exact ⟨PS.grew (grew_alloc w _),_,rfl,HW.out.1.size,.inl (zset_owns w)⟩
   simp only [Act.put,sia,scz,scs]
   refine HavX.any (fun _=>rfl) (fun x _ w=>DoneS w2.heap.size 0 (x 9) w) (fun x x' v w h hx=>show DoneS w2.heap.size 0 (x' 9) w by rw [← h 9 (by decide) (by kernel_rfl)];exact hx) (fun _ _ w w' hg h=>h.keep hg) (fun x w hw hd=>?_) ?_
   ·obtain ⟨t,hx,ht,hot⟩:=hd _ (List.mem_append_right _ (List.mem_singleton.2 rfl)) (by kernel_rfl)
    dsimp only at hx
    obtain ⟨p,hoy⟩:∃ p,Owns w t (setL p) 66:=hot.elim (fun h=>⟨_,h⟩) (fun h=>⟨_,h⟩)
    clear hd hot hw
    simp only [hx]
    rw [exec_store_set hoy rfl rfl rfl]
    exact ⟨PS.set hoy ht,t,rfl,ht,(set_row hoy).1⟩
   simp only [Act.put]
   refine HavX.tail (by kernel_rfl) (by kernel_rfl) (fun x w hw hd=>?_)
   obtain ⟨t,hx,ht,hot⟩:=hd _ (List.mem_append_right _ (List.mem_singleton.2 rfl))
   have hft:f≠t:=by have:=O1.out.lt;omega
   have hft2:f+1≠t:=by have:=O2.out.lt;omega
   have HWT:=hid (show W.heap.size≤t by have:=G2.out.size;omega)
   have HFT:=hid hft
   have HF2:=hid hft2
   have H3:=hid (HA2.out.but hw.1 fun k hk=>by have:=HA2.out.lts;have:=HA2.out.tab.low;omega)
   have HR3:=hid (show E.R W w from But.trans (XE.R.grew G2.out) hw.1 fun k hk e=>by have:=G2.out.size;omega)
   have O13:=hid (hw.1.owns O1.out (fun hq=>by have:=O1.out.lt;omega))
   have O23:=hid (hw.1.owns O2.out (fun hq=>by have:=O2.out.lt;omega))
   have OT3:=hid hot
   clear hd hot hft hft2 ht hw k2 kl s0 s1 sl z1 HLK hf hw1 hw2
   simp only [hx]
   clear hx
   obtain ⟨w3,rfl⟩:∃ z,z=w:=⟨_,rfl⟩
   go_upto_region 3 with fail
   obtain ⟨nb,no,hba,hnb,hnode⟩:=H3.out.tab.bodies.get hrl
   simp only [Nat.zero_add] at hnode
   obtain ⟨v0,v1,v2,v3,v4,n0,n1,n2,n3,n4,hnode⟩:=hnode.vals
   have hbn:E.B.bodies[r]=n:=Option.some.inj ((List.getElem?_eq_getElem hrl).symm.trans HHN.out)
   rw [hbn] at hnode
   have HNODE:=hid hnode
   have HFAC:Hid (∀ w,E.R w3 w→w.cell? ⟨E.kw,0,none⟩=some (.pointer (some ⟨E.tb,0,none⟩))∧E.kw < w.heap.size∧w.cell? ⟨E.tb,4,none⟩=some (.slice (some ⟨nb,no,none⟩) E.B.bodies.length E.bc)∧E.tb < w.heap.size∧nb < w.heap.size ∧
     w.cell? ⟨nb,no+r * 5,none⟩=some v0∧w.cell? ⟨nb,no+r * 5+1,none⟩=some v1∧w.cell? ⟨nb,no+r * 5+2,none⟩=some v2∧w.cell? ⟨nb,no+r * 5+3,none⟩=some v3∧w.cell? ⟨nb,no+r * 5+4,none⟩=some v4 ∧
     w.cell? ⟨f,0,none⟩=some (.int .i64 (r:Int))∧w.cell? ⟨f,1,none⟩=some (.int .i64 (a:Int))∧f < w.heap.size):=hid fun w hw=>by
    have hb:=hw.below H3.out
    have hkw:=hw.owns H3.out.box (fun e=>e.elim H3.out.kne.1 H3.out.kne.2)
    have htb:=below_owns hb H3.out.tab.box H3.out.tab.tbl
    have h3:=htb.cell_at (i:=4) rfl
    rw [hba] at h3
    have hff:Owns w f [.int .i64 (r:Int),.int .i64 (a:Int)] 69:=hw.owns O13.out fun e=>by have:=HLT.out;have:=HF.out;omega
    exact ⟨hkw.cell_at (i:=0) rfl,hkw.lt,h3,htb.lt,by have:=H3.out.tab.low;have:=hb.size;omega,by rw [hb.cell hnb];exact n0,by rw [hb.cell hnb];exact n1,by rw [hb.cell hnb];exact n2,by rw [hb.cell hnb];exact n3,by rw [hb.cell hnb];exact n4,hff.cell_at (i:=0) rfl,hff.cell_at (i:=1) rfl,hff.lt⟩
   obtain ⟨m0,m1,m2,m3,m4,m5,m6,m7,m8,rfl,rfl,rfl,rfl,rfl⟩:=hnode.forms
   have hri:(r:Int) < (E.B.bodies.length:Int):=by omega
   have hr0:(0:Int)≤(r:Int):=by omega
   clear hba hnb hnode hbn n0 n1 n2 n3 n4
   refine wp_region_hav_litX (G:=E.G S (fun t=>S t∨XNxt E r a t)) (E.grel _ _) follows (by kernel_rfl) ?_
   iterate 15 ((first | refine HavX.skip (fun _=>rfl) ?_ | (refine HavX.val (E.grel _ _) (fun _=>rfl) ?_ (fun x w hw _=>?_) ?_;rotate_left;(focus (obtain ⟨y0,y1,y2,y3,y4,y5,y6,y7,y8,y9,y10,y11,y12⟩:=HFAC.out w hw.1;clear hw;go_simp;first | done | rfl))));simp only [Act.put,sia,scz,scs])
   refine HavX.det (fun _=>rfl) (setV (2 ^ a)) (fun x w hw hd=>?_) ?_
   ·clear hd hw
    have HONE:=hid (xone_ok a ha49 w)
    go_simp
    refine HONE.out.mono ?_
    rintro e w' ⟨rfl,hg⟩
    exact ⟨rfl,XE.G.grew hg⟩
   simp only [Act.put,sia,scz,scs]
   refine HavX.any (fun _=>rfl) (fun _=>NoteR E (fun t=>S t∨XNxt E r a t) (Der E.B E.wl n a)) (fun _ _ _ _ _ h=>h) (fun _ _ _ _ hg h=>h.keep hg) (fun x w hw hd=>?_) ?_
   ·obtain ⟨T,hT,hTN⟩:=XE.G.call H3.out hw
    have HC:=hid (HH.out T w _ _ _ _ _ hT (HNODE.out.keep (hw.1.below H3.out)))
    have HTN:=hid hTN
    unfold XE.ptr at HC
    clear hd hw hT hTN
    go_simp
    refine HC.out.mono ?_
    rintro e w' ⟨q,rfl,h1,h2,h3,h4⟩
    have h5:E.At (fun t=>S t∨XNxt E r a t) w':=h3.iff fun t=>by
     rw [← HTN.out t]
     exact or_congr Iff.rfl ⟨fun ⟨t',h1,h2⟩=>⟨n,t',HHN.out,h1,h2⟩,fun ⟨n',t',h0,h1,h2⟩=>by
      have e:=HHN.out.symm.trans h0
      obtain rfl:=Option.some.inj e
      exact ⟨t',h1,h2⟩⟩
    exact ⟨XE.G.done h4 h5,q,rfl,h1,h2,h5⟩
   simp only [Act.put,sia,scz,scs]
   refine HavX.tail (by kernel_rfl) (by kernel_rfl) (fun x w hw hd=>?_)
   obtain ⟨q,hx,hq49,hqb,hAq⟩:=hd _ (List.mem_append_right _ (List.mem_singleton.2 rfl))
   dsimp only at hx
   have hot:=hw.1.owns OT3.out (fun e=>by have:=HLT.out;have:=HWT.out;omega)
   have ho1:=hw.1.owns O13.out (fun e=>by have:=HLT.out;have:=HF.out;omega)
   have ho2:=hw.1.owns O23.out (fun e=>by have:=HLT.out;have:=HF.out;omega)
   have hRw:=HR3.out.trans hw.1
   clear hd hw
   simp only [hx]
   clear hx
   refine wpList_store_set hot rfl _ _ rfl rfl rfl ?_
   intro w4 o4 b4
   simp only [Act.put]
   have OT4:=hid o4
   have O14:=hid (b4.owns ho1 HFT.out)
   have O24:=hid (b4.owns ho2 HF2.out)
   have H4:=hid (XE.At.fresh HA.out hAq b4 HWT.out)
   have HR4:=hid (XE.R.fresh HA.out hRw b4 HWT.out)
   have HQ49:=hid hq49
   have HQB:=hid hqb
   clear o4 b4 hot ho1 ho2 hRw hq49 hqb hAq
   go_upto_region 4 with fail
   have k0:=H4.out.box.cell_at (i:=2) rfl
   have kl:=H4.out.box.lt
   have s0:=O14.out.cell_at (i:=0) rfl
   have s1:=O14.out.cell_at (i:=1) rfl
   have sl:=O14.out.lt
   have HRQ:Hid (RightX E.B E.wl (fun t=>S t∨XNxt E r a t) (r,a) q):=hid ⟨HQB.out.iff fun j=>⟨fun h=>⟨n,HHN.out,h⟩,fun ⟨n',h1,h2⟩=>by
    have e:=HHN.out.symm.trans h1
    obtain rfl:=Option.some.inj e
    exact h2⟩,fun n' t h1 h2=>.inr ⟨n',t,h1,h2,rfl⟩⟩
   refine wp_region_hav_lit follows (by kernel_rfl) ?_
   iterate 5 ((first | refine HavG.skip (fun _=>rfl) ?_ | (refine HavG.val (fun _=>rfl) ?_ (fun x w hw _=>?_) ?_;rotate_left;(focus (have hc:=hw.cells;clear hw;go_simp;first | done | rfl))));simp only [Act.put,sia,scz,scs])
   refine HavG.val (fun _=>rfl) (setV q) (fun x w hw _=>exec_load_set (OT4.out.keep hw) rfl rfl) ?_
   simp only [Act.put,sia,scz,scs]
   refine HavG.tail (by kernel_rfl) (by kernel_rfl) (fun x w hw _=>?_)
   have hAw:=H4.out.grew hw
   obtain ⟨w5,hrun,hk5,hb5⟩:=run_learnX hAw.known (r,a) q HRQ.out
   have hrun':(Instr.mapUpdate 61 (.map (some E.kb)) (.agg #[.int .i64 (r:Int),.int .i64 (a:Int)]) (setV q)).run Tryz.prog w=.ok () w5:=hrun
   have HRUN:=hid hrun'
   have H5:=hid (hAw.setKnown hk5 hb5)
   have O25:=hid (hb5.owns (O24.out.keep hw) (show f+1≠E.kb by have:=HLT.out;have:=HF.out;omega))
   have OT5:=hid (hb5.owns (OT4.out.keep hw) (show t≠E.kb by have:=HLT.out;have:=HWT.out;omega))
   have HR5:Hid (E.R W w5):=hid ((HR4.out.trans (XE.R.grew hw)).trans (But.wideX hb5 fun _ _ e=>.inl e))
   clear hAw hk5 hb5 hrun hrun' hw k0 kl s0 s1 sl
   go_wp2_with fail
   rw [HRUN.out]
   simp only [Result.andThen]
   go_upto_region 5 with fail
   apply wp_region_lit
   refine wpList_load_set OT5.out rfl _ rfl rfl ?_
   simp only [Act.put,sia,scz,scs]
   refine wpList_store_set O25.out rfl _ _ rfl rfl rfl ?_
   intro w6 o6 b6
   simp only [Act.put]
   have O6:=hid o6
   have H6:=hid (XE.At.fresh HA.out H5.out b6 (by have:=HF.out;omega))
   have HR6:=hid (XE.R.fresh HA.out HR5.out b6 (by have:=HF.out;omega))
   clear o6 b6
   go_wp2_with fail
   refine bodyPost_ret (ret_set rfl _ O6.out rfl) rfl ?_
   rw [← HQ.out]
   exact ⟨q,rfl,HQ49.out,HRQ.out.1,H6.out,HR6.out⟩
end Go.Proofs.YtppjmdanckdobaaGreatDoor
