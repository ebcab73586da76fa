/- math/bits.Mul of one and a small number. -/
import Derived.Laws.IdiomCopy
import Derived.DeepKeys
import Derived.Test.YtppjmdanckdobaaGreatDoorQR10
import Derived.Test.YtppjmdanckdobaaGreatDoorQR5
namespace Go.Proofs.YtppjmdanckdobaaGreatDoor
open Go.RowKit
open Lib (hid)
set_option maxHeartbeats 2000000 in
set_option maxRecDepth 20000 in
theorem mul64_ok (n:Nat) (hn:n≤12) (W:World):Calls Tryz.prog 77 #[.int .u64 1,.int .u64 (n:Int)] W fun e W'=>e=.returned (.tuple #[.int .u64 0,.int .u64 (n:Int)])∧W'=W:=by
 have a1:∀ n:Nat,n≤12→bits .and .u64 (n:Int) 4294967295=(n:Int):=by decide
 have b1:=a1 n hn
 have b2:bits .and .u64 1 4294967295=1:=by decide
 have b3:bits .and .u64 0 4294967295=0:=by decide
 have b4:(n:Int) / 4294967296=0:=by omega
 have b5:IntKind.u64.wrap (n:Int)=(n:Int):=by
  have:∀ n:Nat,n≤12→IntKind.u64.wrap (n:Int)=(n:Int):=by decide
  exact this n hn
 clear a1
 go_enter Tryz.func77,Tryz.ntmps77
 go_wp2_with fail
 go_ret2
 exact ⟨rfl,rfl⟩
theorem mul_ok (n:Nat) (hn:n≤12) (W:World):Calls Tryz.prog 44 #[.int .u64 1,.int .u64 (n:Int)] W fun e W'=>e=.returned (.tuple #[.int .u64 0,.int .u64 (n:Int)])∧W'=W:=by
 have HC:=hid (mul64_ok n hn W)
 have b5:IntKind.u64.wrap (n:Int)=(n:Int):=by
  have:∀ n:Nat,n≤12→IntKind.u64.wrap (n:Int)=(n:Int):=by decide
  exact this n hn
 go_enter Tryz.func44,Tryz.ntmps44
 go_wp2_with fail
 refine HC.out.mono ?_
 rintro e w ⟨rfl,rfl⟩
 go_wp2_with fail
 go_ret2
 exact ⟨rfl,rfl⟩
end Go.Proofs.YtppjmdanckdobaaGreatDoor

/- slices.Repeat of one number. -/
namespace Go.Proofs.YtppjmdanckdobaaGreatDoor
open Go.RowKit
open Lib (hid)
def wrAt (cs:List Value):Nat→List Value→List Value
 | _,[]=>cs
 | o,v::r=>wrAt (cs.set o v) (o+1) r
theorem Owns.setCells {b T:Nat}:∀ (vs:List Value) (o:Nat) (W:World) (cs:List Value),Owns W b cs T→Owns (W.setCells b o vs) b (wrAt cs o vs) T
 | [],_,_,_,h=>h
 | v::r,o,_,_,h=>Owns.setCells r (o+1) _ _ (h.set o v)
theorem setCells_below {b B:Nat} (hb:B≤b):∀ (vs:List Value) (o:Nat) (W W0:World),Below B W0 W→Below B W0 (W.setCells b o vs)
 | [],_,_,_,h=>h
 | _::r,o,_,_,h=>setCells_below hb r (o+1) _ _ (h.setCell hb _)
def half (c n:Nat):List Value:=List.replicate c (.int .i64 (-2))++List.replicate (n - c) (.int .i64 0)
theorem half_len {c n:Nat} (h:c≤n):(half c n).length=n:=by simp [half];omega
theorem half_set {c n:Nat} (h:c < n):(half c n).set c (.int .i64 (-2))=half (c+1) n:=by
 apply List.ext_getElem?
 intro i
 unfold half
 rw [List.getElem?_set]
 simp only [List.length_append,List.length_replicate]
 by_cases e:c=i
 ·subst e
  rw [if_pos rfl,if_pos (by omega),List.getElem?_append_left (by simp),List.getElem?_replicate,if_pos (by omega)]
 ·rw [if_neg e]
  by_cases hi:i < c
  ·rw [List.getElem?_append_left (by simp;omega),List.getElem?_append_left (by simp;omega),List.getElem?_replicate,List.getElem?_replicate,if_pos hi,if_pos (by omega)]
  ·rw [List.getElem?_append_right (by simp;omega),List.getElem?_append_right (by simp;omega),List.getElem?_replicate,List.getElem?_replicate]
   simp only [List.length_replicate]
   by_cases h2:i < n
   ·rw [if_pos (by omega),if_pos (by omega)]
   ·rw [if_neg (by omega),if_neg (by omega)]
theorem half_wr:∀ {k c n:Nat},c+k≤n→wrAt (half c n) c (List.replicate k (.int .i64 (-2)))=half (c+k) n
 | 0,c,n,_=>rfl
 | k+1,c,n,h=>by
  rw [List.replicate_succ,wrAt,half_set (by omega),half_wr (by omega),show c+1+k=c+(k+1) by omega]
theorem half_get {c n i:Nat} (h:i < c):(half c n)[i]? = some (.int .i64 (-2)):=by
 unfold half
 rw [List.getElem?_append_left (by simp;omega),List.getElem?_replicate,if_pos h]
theorem rep_one (k:Nat):∀ u∈List.replicate k (Value.int .i64 (-2)),u.oneCell'=true:=by
 intro u hu
 rw [List.eq_of_mem_replicate hu];rfl
theorem run_copy_half {w:World} {g c n:Nat} (h:Owns w g (half c n) 3) (hc:c≤n) (src:Addr) (sl sc dc:Nat) (hsrc:∀ j,j < min sl (n - c)→w.cell? (src.add j)=some (.int .i64 (-2))) (ty:TypeId) :
  ∃ w',(Builtin.copy_ #[22,22] ty #[.slice (some ⟨g,c,none⟩) (n - c) dc,.slice (some src) sl sc]).run Tryz.prog w=.ok (.int .i64 ((min sl (n - c):Nat):Int)) w'∧Owns w' g (half (c+min sl (n - c)) n) 3∧(∀ B W0,B≤g→Below B W0 w→Below B W0 w'):=by
 obtain ⟨i0,hi,hz0,hz1,hz2⟩:=info_parts info_int
 have hl:(List.replicate (min sl (n - c)) (Value.int .i64 (-2))).length=min sl (n - c):=by simp
 have hr:=run_copy_cells (P:=Tryz.prog) w 22 22 ty 3 g c (n - c) dc src sl sc (List.replicate (min sl (n - c)) (.int .i64 (-2))) Tryz.underlying22 (by rw [hi];simp [hz1]) (by rw [hl]) (fun j v hj=>by
  obtain ⟨h1,h2⟩:=List.getElem?_eq_some_iff.1 hj
  rw [hl] at h1
  rw [List.getElem_replicate] at h2
  rw [← h2]
  exact hsrc j h1) (fun j hj=>by
  rw [hl] at hj
  rw [h.cell]
  have:=half_len hc
  rw [List.getElem?_eq_getElem (by omega)];rfl) (fun j _=>h.free _) (rep_one _)
 rw [hl] at hr
 refine ⟨_,hr,?_,fun B W0 hB hb=>setCells_below hB _ _ _ _ hb⟩
 have:=h.setCells (List.replicate (min sl (n - c)) (.int .i64 (-2))) c
 rw [half_wr (by omega)] at this
 exact this
set_option maxHeartbeats 4000000 in
set_option maxRecDepth 20000 in
theorem repeat_ok (n:Nat) (hn:n≤12) (W:World) (xb:Nat) (hx:Owns W xb [.int .i64 (-2)] 3) :
  Calls Tryz.prog 23 #[.slice (some ⟨xb,0,none⟩) 1 1,.int .i64 (n:Int)] W fun e W'=>∃ g,e=.returned (.slice (some ⟨g,0,none⟩) n n)∧W.heap.size≤g∧Owns W' g (half n n) 3∧Grew W W':=by
 obtain ⟨i0,hi,hz0,hz1,hz2⟩:=info_parts info_int
 have HM:=hid (mul_ok n hn W)
 have hmk:=run_make (P:=Tryz.prog) W 22 3 i0 (.int .i64 0) Tryz.underlying22 hi hz0 .i64 .i64 (n:Int) (n:Int) (by omega) (by omega) (by rw [hz2];omega) (by omega)
 obtain ⟨g,hg⟩:∃ g,W.heap.size=g:=⟨_,rfl⟩
 obtain ⟨w1,hw1⟩:∃ w1,W.alloc (.cells (madeCells (Value.int .i64 0).cells ((n:Int).toNat * i0.size)) 3)=w1:=⟨_,rfl⟩
 have g1:Grew W w1:=hw1▸grew_alloc W _
 have h1:w1.heap[W.heap.size]? = some (.cells (madeCells (Value.int .i64 0).cells ((n:Int).toNat * i0.size)) 3 (0,0)):=by rw [← hw1];exact heap_alloc_new W _
 have e2:(n:Int).toNat=n:=by omega
 rw [hw1,hg] at hmk
 rw [e2,hz1,Nat.mul_one] at h1
 rw [e2] at hmk
 have o1:Owns w1 g (half 0 n) 3:=by
  unfold Owns
  rw [← hg,h1]
  have:(madeCells (Value.int .i64 0).cells n).toList=half 0 n:=by
   rw [show (Value.int .i64 0).cells=#[Value.int .i64 0] from rfl,toList_madeCells_one]
   simp [half]
  rw [← this]
 have hxw:=hx.keep g1
 obtain ⟨w2,hcp,o2,b2⟩:=run_copy_half o1 (Nat.zero_le n) ⟨xb,0,none⟩ 1 1 n (fun j hj=>by
  have:j=0:=by omega
  subst this
  rw [padd_off]
  exact hxw.cell_at (i:=0) rfl) 3
 simp only [Nat.zero_add,Nat.sub_zero] at hcp o2
 obtain ⟨c0,hc0⟩:∃ c0,min 1 n=c0:=⟨_,rfl⟩
 rw [hc0] at hcp o2
 have HC0:=hid hc0
 have HB2:=hid (b2 _ _ (Nat.le_of_eq hg) g1)
 have HCP:=hid hcp
 have HO2:=hid o2
 have HG:=hid hg
 have HN:=hid hn
 have hcn:c0≤n:=by omega
 have hcp1:0 < n→0 < c0:=fun h=>by omega
 have HCP1:=hid hcp1
 have b5:IntKind.u64.wrap (n:Int)=(n:Int):=by
  have:∀ n:Nat,n≤12→IntKind.u64.wrap (n:Int)=(n:Int):=by decide
  exact this n hn
 have b6:IntKind.i64.wrap (n:Int)=(n:Int):=wrap_small _ (by omega) (by omega)
 have b7:¬ (n:Int) > 9223372036854775807:=by omega
 clear hi hz0 hz1 hz2 hw1 g1 h1 e2 o1 hxw hx hcp o2 b2 hg hc0 hcp1
 go_enter Tryz.func23,Tryz.ntmps23
 go_wp2_with fail
 refine HM.out.mono ?_
 rintro e w ⟨rfl,rfl⟩
 have hcp:=HCP.out
 clear HCP
 go_wp2_with fail
 clear hcp
 go_loopw [8] (fun c wr=>∃ k:Nat,c=.int .i64 k∧k≤n∧Hid (0 < n→0 < k)∧Hid (Owns wr g (half k n) 3)∧Hid (Grew w wr)) (fun c _=>n - (intOf c).toNat)
 case atStart=>exact ⟨c0,rfl,hcn,HCP1.out,HO2.out,HB2.out⟩
 case round =>
  obtain ⟨k,rfl,hk,HP,HO,HGW⟩:=hrel
  by_cases hlt:k < n
  ·have hki:(k:Int) < (n:Int):=by omega
   have hki2:(k:Int)≤(n:Int):=by omega
   have hk0:0 < k:=HP.out (by omega)
   have hadd:IntKind.i64.wrap ((k:Int)+((min k (n - k):Nat):Int))=((k+min k (n - k):Nat):Int):=by rw [wrap_small _ (by omega) (by omega)];push_cast;rfl
   have hnext:k+min k (n - k)≤n∧k < k+min k (n - k):=by omega
   have HRUN:Hid (∀ w4,Grew wr w4→∃ w3,(Builtin.copy_ #[22,22] 3 #[.slice (some ⟨g,k,none⟩) (n - k) (n - k),.slice (some ⟨g,0,none⟩) k n]).run Tryz.prog w4=.ok (.int .i64 ((min k (n - k):Nat):Int)) w3∧Owns w3 g (half (k+min k (n - k)) n) 3∧(∀ B W0,B≤g→Below B W0 w4→Below B W0 w3)):=hid fun w4 hw =>
    run_copy_half (HO.out.keep hw) hk ⟨g,0,none⟩ k n (n - k) (fun j hj=>by rw [padd_off,Nat.zero_add,(HO.out.keep hw).cell,half_get (by omega)]) 3
   generalize hmin:min k (n - k)=d at *
   obtain ⟨t,ht⟩:∃ t,k+d=t:=⟨_,rfl⟩
   rw [ht] at hadd hnext HRUN
   clear hmin
   go_upto_region 9 with fail
   refine wp_region_hav_lit follows (by kernel_rfl) ?_
   iterate 7 ((first | refine HavG.skip (fun _=>rfl) ?_ | (refine HavG.val (fun _=>rfl) ?_ (fun x w hw _=>?_) ?_;rotate_left;(focus (clear hw;go_simp;first | done | rfl))));simp only [Act.put,sia,scz,scs])
   refine HavG.tail0 (by kernel_rfl) (by kernel_rfl) (by kernel_rfl) (fun _ _ d _ _ h=>by cases d<;>exact h) (by decide) (fun x w4 hw hx=>?_)
   obtain ⟨w3,hcp,o3,b3⟩:=HRUN.out w4 hw
   have HO3:=hid o3
   have HG3:=hid (b3 _ _ (Nat.le_of_eq HG.out) (HGW.out.trans hw))
   clear hx hw o3 b3 HRUN
   go_wp2_with fail
   refine ⟨⟨t,rfl,hnext.1,fun _=>by omega,HO3.out,HG3.out⟩,by simp [intOf];omega⟩
  ·obtain rfl:k=n:=by omega
   go_wp2_with fail
   go_ret
   exact ⟨g,rfl,Nat.le_of_eq HG.out,HO.out,HGW.out⟩
end Go.Proofs.YtppjmdanckdobaaGreatDoor

/- Rows of rows of integers that a call made;fill,plain. -/
namespace Go.Proofs.YtppjmdanckdobaaGreatDoor
open Go.RowKit
open Lib (hid)
theorem But.grown {F:Nat→Prop} {w w':World} {row:Option Nat} (h:w.grownBy w' row) (hF:∀ k,row=some k→F k):But F w w' :=
 ⟨h.os,h.tape,h.output,h.size,fun k hk hn=>h.block k hk fun e=>hn (hF k e.symm)⟩
theorem But.row {F:Nat→Prop} {w w':World} {base:Nat} {e:TypeId} {size:Nat} {v:Value} {n:Nat} {xs:List Value} (h:But F w w') (hr:looseRow w base e size v n xs) (hn:∀ k,v.ownBlock=some k→¬F k):looseRow w' base e size v n xs:=by
 refine ⟨hr.1,hr.2.imp id ?_⟩
 rintro ⟨g,cap,cur,rfl,h2,h3,h4⟩
 exact ⟨g,cap,cur,rfl,h2,by rw [h.block g (Array.getElem?_eq_some_iff.1 h3).1 (hn g rfl)];exact h3,h4⟩
theorem row_type {w:World} {base:Nat} {e:TypeId} {size:Nat} {v:Value} {n:Nat} {xs:List Value} (hr:looseRow w base e size v n xs) {k:Nat} (hk:v.ownBlock=some k):base≤k∧k < w.heap.size∧∃ cur,w.heap[k]? = some (.cells cur e (0,0)):=by
 rcases hr.2 with ⟨rfl,_⟩ | ⟨g,cap,cur,rfl,h2,h3,_⟩
 ·simp [Value.ownBlock] at hk
 ·simp only [Value.ownBlock,Option.some.injEq] at hk
  subst hk
  exact ⟨h2,(Array.getElem?_eq_some_iff.1 h3).1,cur,h3⟩
theorem owns_type {w:World} {b T:Nat} {cs:List Value} (h:Owns w b cs T):∃ cur,w.heap[b]? = some (.cells cur T (0,0)):=⟨_,h⟩
theorem type_ne {w:World} {b c T U:Nat} (h:∃ cur,w.heap[b]? = some (.cells cur T (0,0))) (k:∃ cur,w.heap[c]? = some (.cells cur U (0,0))) (hT:T≠U):b≠c:=by
 rintro rfl
 obtain ⟨x,hx⟩:=h
 obtain ⟨y,hy⟩:=k
 rw [hx] at hy
 simp only [Option.some.injEq,Obj.cells.injEq] at hy
 exact hT hy.2.1
theorem looseRow.weak {w:World} {base b2 e size k:Nat} {v:Value} {xs:List Value} (h:looseRow w base e size v k xs) (hb:b2≤base):looseRow w b2 e size v k xs:=by
 refine ⟨h.1,h.2.imp id ?_⟩
 rintro ⟨b,cap,cur,h1,h2,h3⟩
 exact ⟨b,cap,cur,h1,Nat.le_trans hb h2,h3⟩
theorem owns_ints {w:World} {b T cap:Nat} {l:List Int} (h:Owns w b (intVs l) T):IntsV w w.heap.size (.slice (some ⟨b,0,none⟩) l.length cap) l :=
 ⟨_,_,rfl,fun k hk=>⟨b,0,rfl,h.lt,by rw [Nat.zero_add];exact h.cell_at (by simp [intVs,hk])⟩⟩
end Go.Proofs.YtppjmdanckdobaaGreatDoor

/- Sets of places,as arrays of 49 bools. -/
namespace Go.Proofs.YtppjmdanckdobaaGreatDoor
open Go.RowKit
open Lib (hid)
def setL (q:Nat):List Value:=(List.range 49).map fun i=>.bool (q.testBit i)
theorem setL_len (q:Nat):(setL q).length=49:=by unfold setL;rw [List.length_map,List.length_range]
theorem setL_get (q:Nat) {i:Nat} (hi:i < 49):(setL q)[i]? = some (.bool (q.testBit i)):=by
 unfold setL
 rw [List.getElem?_map,List.getElem?_range hi]
 rfl
theorem setL_one (q:Nat):∀ u∈setL q,u.oneCell'=true:=by
 intro u hu
 unfold setL at hu
 obtain ⟨i,_,rfl⟩:=List.mem_map.1 hu
 rfl
theorem setL_all (q:Nat):(setL q).toArray.all (·.oneCell')=true:=Array.all_eq_true_iff_forall_mem.2 fun u hu=>setL_one q u (by simpa using hu)
theorem setL_set (q:Nat) {i:Nat} (hi:i < 49) (b:Bool):(setL q).set i (.bool (q.testBit i || b))=setL (if b then q ||| 2 ^ i else q):=by
 apply List.ext_getElem?
 intro j
 rw [List.getElem?_set]
 by_cases hj:j < 49
 ·rw [setL_get _ hj,setL_get _ hj,setL_len]
  by_cases e:i=j
  ·subst e
   rw [if_pos rfl,if_pos hi]
   cases b
   ·simp
   ·simp [Nat.testBit_or,Nat.testBit_two_pow_self]
  ·rw [if_neg e]
   cases b
   ·simp
   ·simp only [if_true,Nat.testBit_or,Nat.testBit_two_pow_of_ne e,Bool.or_false]
 ·have h1:∀ q,(setL q)[j]? = none:=fun q=>List.getElem?_eq_none (by rw [setL_len];omega)
  rw [h1,h1]
  split
  ·rw [setL_len,if_neg (by omega)]
  ·rfl
theorem setL_zero:setL 0=List.replicate 49 (.bool false):=by
 apply List.ext_getElem?
 intro j
 by_cases hj:j < 49
 ·rw [setL_get _ hj,List.getElem?_replicate,if_pos hj,Nat.zero_testBit]
 ·rw [List.getElem?_eq_none (by rw [setL_len];omega),List.getElem?_replicate,if_neg hj]
theorem setL_inj {a b:Nat} (ha:a < 2 ^ 49) (hb:b < 2 ^ 49) (h:setL a=setL b):a=b:=by
 apply Nat.eq_of_testBit_eq
 intro j
 by_cases hj:j < 49
 ·have:=setL_get a hj
  rw [h,setL_get b hj] at this
  simpa using this.symm
 ·rw [Nat.testBit_lt_two_pow (Nat.lt_of_lt_of_le ha (Nat.pow_le_pow_right (by omega) (by omega))),Nat.testBit_lt_two_pow (Nat.lt_of_lt_of_le hb (Nat.pow_le_pow_right (by omega) (by omega)))]
def setV (q:Nat):Value:=.agg (setL q).toArray
theorem set_info:(Tryz.prog.info? 66).map (·.size)=some 49:=by kernel_rfl
theorem set_size (q:Nat):(Tryz.prog.info? 66).map (·.size)=some (setL q).toArray.size:=by
 rw [set_info,List.size_toArray,setL_len]
theorem wpList_load_set {ops:Array Oper} {rest:List Oper} {o:Oper} {a:Act} {w:World} {Q:Exit→Act→World→Prop} {q b:Nat} (hO:Owns w b (setL q) 66) (hgd:o.guard=none) (x:Operand) (ho:o.op=.load 66 x)
  (hx:a.eval x=.pointer (some ⟨b,0,none⟩)) (h:wpList Tryz.prog ops Q rest (a.put o.dst (setV q)) w):wpList Tryz.prog ops Q (o::rest) a w :=
 wpList_load_row hgd 66 x ho b hx 66 _ (0,0) _ hO Tryz.underlying66 rfl (set_size q) h
theorem wpList_store_set {ops:Array Oper} {rest:List Oper} {o:Oper} {a:Act} {w:World} {Q:Exit→Act→World→Prop} {q p b:Nat} (hO:Owns w b (setL q) 66) (hgd:o.guard=none) (x y:Operand) (ho:o.op=.store 66 x y)
  (hx:a.eval x=.pointer (some ⟨b,0,none⟩)) (hy:a.eval y=setV p) (h:∀ w',Owns w' b (setL p) 66→But (fun k=>k=b) w w'→wpList Tryz.prog ops Q rest (a.put o.dst undef) w'):wpList Tryz.prog ops Q (o::rest) a w :=
 wpList_store_row hgd 66 x y ho b (setL p).toArray hx hy 66 _ hO (set_size p) (by rw [List.size_toArray,List.size_toArray,setL_len,setL_len]) (setL_all p)
  (h _ (setRow_heap w b _ _ 66 _ hO) ⟨rfl,rfl,rfl,by simp,fun k _ hk=>setRow_other w b k _ hk⟩)
theorem ret_set {fn:Func} {p:Tmp} (h:fn.results=#[.cell p 66]) (tmps:Array Value) {w:World} {b q:Nat} (hO:Owns w b (setL q) 66) (hp:tmps.getD p undef=.pointer (some ⟨b,0,none⟩)) :
  (results fn tmps).run Tryz.prog w=.ok (setV q) w :=
 results_cell_row h tmps w b 66 _ (0,0) _ hp hO Tryz.underlying66 rfl (set_size q)
theorem Grew.but {a b c:World} {k:Nat} (h:Grew a b) (hb:But (fun q=>q=k) b c) (hk:a.heap.size≤k):Grew a c:=Below.trans h (But.below hb h.size fun q e=>by subst e;exact hk)
theorem index_set {sq:Array Value} {j:Nat} {c:Bool} (hj:j < 49) (h:sq[j]? = some (.bool c)) (w:World):(Instr.index 66 (.agg sq) (.int .i64 (j:Int))).run Tryz.prog w=.ok (.bool c) w:=by
 simp [Instr.index,asIntOf,run_underlying Tryz.underlying66,hj,part,h]
theorem or_mod_next (p q j:Nat):(if q.testBit j then (p ||| q % 2 ^ j) ||| 2 ^ j else p ||| q % 2 ^ j)=p ||| q % 2 ^ (j+1):=by
 apply Nat.eq_of_testBit_eq
 intro i
 rw [Nat.testBit_or,Nat.testBit_mod_two_pow]
 by_cases e:j=i
 ·subst e
  cases hq:q.testBit j
  ·simp [Nat.testBit_or,Nat.testBit_mod_two_pow]
  ·simp [Nat.testBit_or,Nat.testBit_mod_two_pow,Nat.testBit_two_pow_self]
 ·have h1:decide (i < j+1)=decide (i < j):=decide_eq_decide.2 (by omega)
  rw [h1]
  cases hq:q.testBit j
  ·simp [Nat.testBit_or,Nat.testBit_mod_two_pow]
  ·simp [Nat.testBit_or,Nat.testBit_mod_two_pow,Nat.testBit_two_pow_of_ne e]
theorem zset_owns (w:World):Owns (w.alloc (.cells #[.bool false,.bool false,.bool false,.bool false,.bool false,.bool false,.bool false,.bool false,.bool false,.bool false,.bool false,.bool false,.bool false,.bool false,.bool false,.bool false,.bool false,.bool false,.bool false,.bool false,.bool false,.bool false,.bool false,.bool false,.bool false,.bool false,.bool false,.bool false,.bool false,.bool false,.bool false,.bool false,.bool false,.bool false,.bool false,.bool false,.bool false,.bool false,.bool false,.bool false,.bool false,.bool false,.bool false,.bool false,.bool false,.bool false,.bool false,.bool false,.bool false] 66)) w.heap.size (setL 0) 66:=by
 rw [setL_zero]
 exact Owns.alloc w _ _
def setLits (q:Nat):List Lit:=(List.range 49).map fun i=>.bool (q.testBit i)
theorem setLits_of (q:Nat):Tryz.prog.keyLits 3 66 (setL q)=some (setLits q):=by kernel_rfl
theorem set_formed (q:Nat):(setV q).formed Tryz.prog 66=true:=by kernel_rfl
theorem setLits_inj {a b:Nat} (h:setLits a=setLits b):setL a=setL b:=by
 unfold setL
 unfold setLits at h
 refine List.map_congr_left fun i hi=>?_
 have h1:=congrArg (fun l=>l[i]?) h
 have hi2:i < 49:=List.mem_range.1 hi
 simp only [List.getElem?_map,List.getElem?_range hi2,Option.map_some,Option.some.injEq,Lit.bool.injEq] at h1
 rw [h1]
theorem set_eq {a b:Nat} (ha:a < 2 ^ 49) (hb:b < 2 ^ 49) (w:World):(Op.equalIn 10000 66 (setV a) (setV b)).run Tryz.prog w=.ok (decide (a=b)) w:=by
 obtain ⟨r,h1,h2⟩:=run_equalIn_deep (P:=Tryz.prog) 9997 3 66 (by kernel_rfl) w 3 3 (setV a) (setV b) (setLits a) (setLits b) (set_formed a) (set_formed b) (by
  have:=setLits_of a
  simpa [setV,Value.cells] using this) (by
  have:=setLits_of b
  simpa [setV,Value.cells] using this)
 have h3:r=decide (a=b):=by
  rw [Bool.eq_iff_iff,h2,decide_eq_true_eq]
  exact ⟨fun h=>setL_inj ha hb (setLits_inj h),fun h=>h▸rfl⟩
 exact h3▸h1
set_option maxHeartbeats 2000000 in
set_option maxRecDepth 20000 in
theorem xone_ok (i:Nat) (hi:i < 49) (W:World):Calls Tryz.prog 40 #[.int .i64 (i:Int)] W fun e W'=>e=.returned (setV (2 ^ i))∧Grew W W':=by
 obtain ⟨b,hb⟩:∃ b,W.heap.size=b:=⟨_,rfl⟩
 obtain ⟨w1,hw1⟩:∃ w1,W.alloc (.cells #[.bool false,.bool false,.bool false,.bool false,.bool false,.bool false,.bool false,.bool false,.bool false,.bool false,.bool false,.bool false,.bool false,.bool false,.bool false,.bool false,.bool false,.bool false,.bool false,.bool false,.bool false,.bool false,.bool false,.bool false,.bool false,.bool false,.bool false,.bool false,.bool false,.bool false,.bool false,.bool false,.bool false,.bool false,.bool false,.bool false,.bool false,.bool false,.bool false,.bool false,.bool false,.bool false,.bool false,.bool false,.bool false,.bool false,.bool false,.bool false,.bool false] 66)=w1:=⟨_,rfl⟩
 have g1:Grew W w1:=hw1▸grew_alloc W _
 have o1:Owns w1 b (setL 0) 66:=by rw [← hw1,← hb];exact zset_owns W
 obtain ⟨w2,hw2⟩:∃ w2,w1.setCell ⟨b,i,none⟩ (.bool true)=w2:=⟨_,rfl⟩
 have o2:Owns w2 b (setL (2 ^ i)) 66:=by
  have h:=setL_set 0 hi true
  rw [Bool.or_true,if_pos rfl,Nat.zero_or] at h
  rw [← h,← hw2]
  exact o1.set i _
 have b2:But (fun k=>k=b) w1 w2:=hw2▸set_but o1
 have c1:=o1.cell_at (i:=i) (setL_get 0 hi)
 have f1:=o1.free i
 have l1:=o1.lt
 have hi2:(i:Int) < 49:=by omega
 have O2:=hid o2
 have G2:Hid (Grew W w2):=hid (Below.trans g1 (But.below b2 g1.size fun q e=>by omega))
 have HB:=hid hb
 rw [Nat.zero_testBit] at c1
 clear o1 o2 b2 g1
 subst hb
 go_enter Tryz.func40,Tryz.ntmps40
 go_upto_region 2 with fail
 apply wp_region_lit
 refine wpList_load_set O2.out rfl _ rfl rfl ?_
 simp only [Act.put,sia,scz,scs]
 refine wpList_store_set O2.out rfl _ _ rfl rfl rfl ?_
 intro w3 o3 b3
 simp only [Act.put]
 have O3:=hid o3
 have B3:=hid b3
 clear o3 b3 c1 f1 hw1 hw2
 go_wp2_with fail
 exact bodyPost_ret (ret_set rfl _ O3.out rfl) rfl ⟨rfl,G2.out.but B3.out (Nat.le_refl _)⟩
set_option maxHeartbeats 4000000 in
set_option maxRecDepth 20000 in
theorem xwith_ok (p q:Nat) (hq:q < 2 ^ 49) (W:World):Calls Tryz.prog 63 #[setV p,setV q] W fun e W'=>e=.returned (setV (p ||| q))∧Grew W W':=by
 obtain ⟨b,hb⟩:∃ b,W.heap.size=b:=⟨_,rfl⟩
 obtain ⟨w1,hw1⟩:∃ w1,W.alloc (.cells (setL p).toArray 66)=w1:=⟨_,rfl⟩
 have g1:Grew W w1:=hw1▸grew_alloc W _
 have o1:Owns w1 b (setL p) 66:=by rw [← hw1,← hb];exact Owns.alloc W _ _
 have z1:w1.heap.size=b+1:=by rw [← hw1,← hb];exact World.size_alloc _ _
 obtain ⟨w2,hw2⟩:∃ w2,w1.alloc (.cells (setL q).toArray 66)=w2:=⟨_,rfl⟩
 have g2:Grew w1 w2:=hw2▸grew_alloc w1 _
 have o2:Owns w2 (b+1) (setL q) 66:=by rw [← hw2,← z1];exact Owns.alloc w1 _ _
 have z2:w2.heap.size=b+1+1:=by rw [← hw2,← z1];exact World.size_alloc _ _
 obtain ⟨w3,hw3⟩:∃ w3,w2.alloc (.cells #[.bool false,.bool false,.bool false,.bool false,.bool false,.bool false,.bool false,.bool false,.bool false,.bool false,.bool false,.bool false,.bool false,.bool false,.bool false,.bool false,.bool false,.bool false,.bool false,.bool false,.bool false,.bool false,.bool false,.bool false,.bool false,.bool false,.bool false,.bool false,.bool false,.bool false,.bool false,.bool false,.bool false,.bool false,.bool false,.bool false,.bool false,.bool false,.bool false,.bool false,.bool false,.bool false,.bool false,.bool false,.bool false,.bool false,.bool false,.bool false,.bool false] 66)=w3:=⟨_,rfl⟩
 have g3:Grew w2 w3:=hw3▸grew_alloc w2 _
 have o3:Owns w3 (b+1+1) (setL 0) 66:=by rw [← hw3,← z2];exact zset_owns w2
 have O1:=hid ((o1.keep g2).keep g3)
 have O2:=hid (o2.keep g3)
 have O3:=hid o3
 have G3:=hid ((g1.trans g2).trans g3)
 have HB:=hid hb
 have hb1:w1.heap.size=b+1:=z1
 have hb2:w2.heap.size=b+1+1:=z2
 clear o1 o2 o3 g1 g2 g3
 unfold setV
 go_enter Tryz.func63,Tryz.ntmps63
 go_upto_region 1 with fail
 apply wp_region_lit
 refine wpList_load_set O2.out rfl _ rfl rfl ?_
 unfold setV
 simp only [Act.put,sia,scz,scs]
 clear hw1 hw2 hw3 z1 z2 hb1 hb2
 subst hb
 obtain ⟨sq,hsq⟩:∃ sq,(setL q).toArray=sq:=⟨_,rfl⟩
 have HSQ:=hid hsq
 rw [hsq]
 clear hsq
 go_wp2_with fail
 go_loopw [8] (fun i wr=>∃ (j:Nat),i=.int .i64 j∧j≤49∧Hid (Owns wr W.heap.size (setL (p ||| q % 2 ^ j)) 66∧Owns wr (W.heap.size+1+1) (setL 0) 66∧Grew W wr)) (fun i _=>49 - (intOf i).toNat)
 case atStart=>exact ⟨0,rfl,by omega,hid ⟨by rw [Nat.pow_zero,Nat.mod_one,Nat.or_zero];exact O1.out,O3.out,G3.out⟩⟩
 case round =>
  obtain ⟨j,rfl,hj,hst⟩:=hrel
  obtain ⟨m,hm⟩:∃ m,p ||| q % 2 ^ j=m:=⟨_,rfl⟩
  have HMM:=hid hm
  rw [hm] at hst
  by_cases hlt:j < 49
  ·have hj2:(j:Int) < 49:=by omega
   obtain ⟨x,hx⟩:∃ x,m.testBit j=x:=⟨_,rfl⟩
   obtain ⟨c,hc⟩:∃ c,q.testBit j=c:=⟨_,rfl⟩
   have c1:=hst.out.1.cell_at (i:=j) (setL_get m hlt)
   have f1:=hst.out.1.free j
   have l1:=hst.out.1.lt
   have hix:sq[j]? = some (.bool c):=by rw [← HSQ.out,← hc];simpa using setL_get q hlt
   have hidx:=index_set hlt hix
   obtain ⟨w4,hw4⟩:∃ w4,wr.setCell ⟨W.heap.size,j,none⟩ (.bool (x || c))=w4:=⟨_,rfl⟩
   have hnx:Owns w4 W.heap.size (setL (p ||| q % 2 ^ (j+1))) 66:=by
    have h:=setL_set m hlt c
    rw [hx] at h
    rw [← HMM.out,← hc,or_mod_next] at h
    rw [← h,← hw4,HMM.out,hc]
    exact hst.out.1.set j _
   have hb4:But (fun k=>k=W.heap.size) wr w4:=hw4▸set_but hst.out.1
   have HNX:=hid hnx
   have HO4:=hid (hb4.owns hst.out.2.1 (by omega))
   have HG4:=hid (hst.out.2.2.but hb4 (Nat.le_refl _))
   rw [hx] at c1
   clear hnx hb4 hx hc hm
   cases x<;>cases c<;>simp only [Bool.or_true,Bool.or_false] at hw4
   all_goals
    go_wp2_with fail
    exact ⟨⟨j+1,by go_num,by omega,hid ⟨HNX.out,HO4.out,HG4.out⟩⟩,by simp [intOf];omega⟩
  ·have hj49:j=49:=by omega
   subst hj49
   rw [Nat.mod_eq_of_lt hq] at hm
   subst hm
   go_upto_region 6 with fail
   apply wp_region_lit
   refine wpList_load_set hst.out.1 rfl _ rfl rfl ?_
   simp only [Act.put,sia,scz,scs]
   refine wpList_store_set hst.out.2.1 rfl _ _ rfl rfl rfl ?_
   intro w5 o5 b5
   simp only [Act.put]
   have O5:=hid o5
   have G5:=hid (hst.out.2.2.but b5 (by omega))
   clear o5 b5
   go_wp2_with fail
   exact bodyPost_ret (ret_set rfl _ O5.out rfl) rfl ⟨rfl,G5.out⟩
end Go.Proofs.YtppjmdanckdobaaGreatDoor
