/- checks.rule's questions of a node: is it a name of none; of a sort that may not be named; a loop of what may be empty? -/
import Derived.Test.YtppjmdanckdobaaGreatDoorQR19
import Derived.Test.YtppjmdanckdobaaGreatDoorQR14
import Derived.Test.YtppjmdanckdobaaGreatDoorQR16
namespace Go.Proofs.YtppjmdanckdobaaGreatDoor
open Go.RowKit
open Lib (hid)
structure GrCell (W:World) (cb:Nat) (g:Gr):Prop where
 lt:cb < W.heap.size
 at_:∃ v0 v1 v2 v3,W.cell? ⟨cb,0,none⟩=some v0∧W.cell? ⟨cb,1,none⟩=some v1∧W.cell? ⟨cb,2,none⟩=some v2∧W.cell? ⟨cb,3,none⟩=some v3∧GrAt W W.heap.size (some v0) (some v1) (some v2) (some v3) g
theorem GrCell.grew {W W':World} {cb:Nat} {g:Gr} (h:GrCell W cb g) (hg:Grew W W'):GrCell W' cb g:=by
 obtain ⟨hl,v0,v1,v2,v3,h0,h1,h2,h3,h4⟩:=h
 refine ⟨by have:=hg.size;omega,v0,v1,v2,v3,?_,?_,?_,?_,(h4.keep hg).mono hg.size⟩
 ·rw [hg.cells _ _ hl];exact h0
 ·rw [hg.cells _ _ hl];exact h1
 ·rw [hg.cells _ _ hl];exact h2
 ·rw [hg.cells _ _ hl];exact h3
set_option maxHeartbeats 1000000 in
set_option maxRecDepth 20000 in
theorem rule1_ok (g:Gr) (n:Nd) (W:World) (cb pc:Nat) (v0 v1 v2 v3 v4:Value) (hG:GrCell W cb g) (hp:W.cell? ⟨pc,0,none⟩=some (.pointer (some ⟨cb,0,none⟩))) (hN:NodeAt W W.heap.size (some v0) (some v1) (some v2) (some v3) (some v4) n) :
  Calls Tryz.prog 124 (#[.agg #[v0,v1,v2,v3,v4]]++#[.pointer (some ⟨pc,0,none⟩)]) W fun e W'=>e=.returned (.bool (g.noneBad n))∧Grew W W':=by
 obtain ⟨k,nm,tx,set,subs⟩:=n
 rw [NodeAt] at hN
 obtain ⟨hk,h1,h2,h3,h4,h5,⟨sa,sc,h6,-,-⟩,na,nc,h7,-,-⟩:=hN
 obtain rfl:=Option.some.inj h3
 obtain rfl:=Option.some.inj h4
 obtain rfl:=Option.some.inj h5
 obtain rfl:=Option.some.inj h6
 obtain rfl:=Option.some.inj h7
 clear h3 h4 h5 h6 h7 hk
 unfold reachN at h1 h2
 have hgr:=grew_alloc W (.cells #[.int .u8 k,.string nm,.string tx,.slice sa set.length sc,.slice na subs.length nc] 80)
 have ho:=Owns.alloc W [.int .u8 k,.string nm,.string tx,.slice sa set.length sc,.slice na subs.length nc] 80
 have hpl:=lt_of_cell hp
 have hp':(W.alloc (.cells #[.int .u8 k,.string nm,.string tx,.slice sa set.length sc,.slice na subs.length nc] 80)).cell? ⟨pc,0,none⟩=some (.pointer (some ⟨cb,0,none⟩)):=by rw [hgr.cells _ _ hpl];exact hp
 obtain ⟨hcl,g0,g1,g2,g3,d0,d1,d2,d3,hGA⟩:=hG.grew hgr
 have b0:=ho.cell_at (i:=0) rfl
 have b1:=ho.cell_at (i:=1) rfl
 have b2:=ho.cell_at (i:=2) rfl
 have b3:=ho.cell_at (i:=3) rfl
 have b4:=ho.cell_at (i:=4) rfl
 have bl:=ho.lt
 have hpl':pc < (W.alloc (.cells #[.int .u8 k,.string nm,.string tx,.slice sa set.length sc,.slice na subs.length nc] 80)).heap.size:=by have:=hgr.size;omega
 have HNm:=hid (fun w=>names_ok (.mk k nm tx set subs) w (.int .u8 k) (.string nm) (.string tx) (.slice sa set.length sc) (.slice na subs.length nc) rfl)
 have HF:=hid (fun w hg'=>find_ok g nm w g0 g1 g2 g3 hg')
 have hfin:Hid (g.noneBad (.mk k nm tx set subs)=((Nd.mk k nm tx set subs).isName&&decide (g.find nm < 0))):=rfl
 have HG:=hid hGA
 have HGR:=hid hgr
 generalize hisn:(Nd.mk k nm tx set subs).isName=isn at *
 generalize hfd:g.find nm=fd at *
 clear hGA hgr ho hp hG hisn hfd
 simp only [List.append_toArray,List.cons_append,List.nil_append]
 cases isn
 ·go_enter Tryz.func124,Tryz.ntmps124
  go_wp2_with fail
  generalize W.alloc (.cells #[.int .u8 k,.string nm,.string tx,.slice sa set.length sc,.slice na subs.length nc] 80)=w1 at *
  refine wp_region_hav_lit follows (by kernel_rfl) ?_
  repeat ((first | refine HavG.skip (fun _=>rfl) ?_ | (refine HavG.val (fun _=>rfl) ?_ (fun x w hw _=>?_) ?_;rotate_left;(focus (have hc:=hw.cells;clear hw;go_simp;first | done | rfl))));simp only [Act.put,sia,scz,scs])
  refine HavG.det (fun _=>rfl) (.bool false) (fun x w hw _=>?_) ?_
  ·have HW:=hid hw
   clear hw
   go_simp
   refine (HNm.out _).mono ?_
   rintro e w' ⟨rfl,hb⟩
   exact ⟨rfl,hb⟩
  simp only [Act.put,sia,scz,scs]
  repeat ((first | refine HavG.skip (fun _=>rfl) ?_ | (refine HavG.val (fun _=>rfl) ?_ (fun x w hw _=>?_) ?_;rotate_left;(focus (have hc:=hw.cells;clear hw;go_simp;first | done | rfl))));simp only [Act.put,sia,scz,scs])
  refine HavG.tail (by kernel_rfl) (by kernel_rfl) (fun x w hw _=>?_)
  go_wp2
  go_ret
  exact ⟨by rw [hfin.out];rfl,HGR.out.trans hw⟩
 ·go_enter Tryz.func124,Tryz.ntmps124
  go_wp2_with fail
  generalize W.alloc (.cells #[.int .u8 k,.string nm,.string tx,.slice sa set.length sc,.slice na subs.length nc] 80)=w1 at *
  refine wp_region_hav_lit follows (by kernel_rfl) ?_
  repeat ((first | refine HavG.skip (fun _=>rfl) ?_ | (refine HavG.val (fun _=>rfl) ?_ (fun x w hw _=>?_) ?_;rotate_left;(focus (have hc:=hw.cells;clear hw;go_simp;first | done | rfl))));simp only [Act.put,sia,scz,scs])
  refine HavG.det (fun _=>rfl) (.bool true) (fun x w hw _=>?_) ?_
  ·have HW:=hid hw
   clear hw
   go_simp
   refine (HNm.out _).mono ?_
   rintro e w' ⟨rfl,hb⟩
   exact ⟨rfl,hb⟩
  simp only [Act.put,sia,scz,scs]
  repeat ((first | refine HavG.skip (fun _=>rfl) ?_ | (refine HavG.val (fun _=>rfl) ?_ (fun x w hw _=>?_) ?_;rotate_left;(focus (have hc:=hw.cells;clear hw;go_simp;first | done | rfl))));simp only [Act.put,sia,scz,scs])
  refine HavG.det (fun _=>rfl) (.int .i64 fd) (fun x w hw _=>?_) ?_
  ·have HW:=hid hw
   clear hw
   go_simp
   refine (HF.out _ ((HG.out.keep HW.out).mono HW.out.size)).mono ?_
   rintro e w' ⟨rfl,hb⟩
   exact ⟨rfl,hb⟩
  simp only [Act.put,sia,scz,scs]
  repeat ((first | refine HavG.skip (fun _=>rfl) ?_ | (refine HavG.val (fun _=>rfl) ?_ (fun x w hw _=>?_) ?_;rotate_left;(focus (have hc:=hw.cells;clear hw;go_simp;first | done | rfl))));simp only [Act.put,sia,scz,scs])
  refine HavG.tail (by kernel_rfl) (by kernel_rfl) (fun x w hw _=>?_)
  go_wp2
  all_goals
   go_ret
   exact ⟨by rw [hfin.out];simp [*],HGR.out.trans hw⟩
end Go.Proofs.YtppjmdanckdobaaGreatDoor

/- The rows of nulls.Reach in memory. -/
namespace Go.Proofs.YtppjmdanckdobaaGreatDoor
open Go.RowKit
open Lib (hid)
theorem info_bools:(Tryz.prog.info? 151).map (fun i=>(i.zero,i.size,i.bytes))=some (some (.slice none 0 0),1,24):=by kernel_rfl
theorem made_ones (z:Value) (n:Nat):madeCells #[z] n=(List.replicate n z).toArray:=by
 apply Array.toList_inj.1
 rw [toList_madeCells_one]
theorem make_rows (n:Nat) (hn:n≤1048576) (u:World):(Instr.makeSlice 153 (.int .i64 (n:Int)) (.int .i64 (n:Int))).run Tryz.prog u =
  .ok (.slice (some ⟨u.heap.size,0,none⟩) n n) (u.alloc (.cells (List.replicate n (.slice none 0 0)).toArray 151)):=by
 obtain ⟨i0,hi,hz0,hz1,hz2⟩:=info_parts info_bools
 have h:=run_make (P:=Tryz.prog) u 153 151 i0 (.slice none 0 0) Tryz.underlying153 hi hz0 .i64 .i64 (n:Int) (n:Int) (by omega) (Int.le_refl _) (by rw [hz2];omega) (by omega)
 rw [Int.toNat_natCast,hz1,Nat.mul_one] at h
 rw [h,← made_ones]
 rfl
def rowsL (f:Nat→Nat) (n j:Nat):List Value:=(List.range n).map fun k=>if k < j then .slice (some ⟨f k,0,none⟩) n n else .slice none 0 0
theorem rowsL_at (f:Nat→Nat) (n j k:Nat) (hk:k < n):(rowsL f n j)[k]? = some (if k < j then .slice (some ⟨f k,0,none⟩) n n else .slice none 0 0):=by
 simp [rowsL,hk]
theorem rowsL_zero (f:Nat→Nat) (n:Nat):rowsL f n 0=List.replicate n (.slice none 0 0):=by
 apply List.ext_getElem (by simp [rowsL])
 intro i h1 h2
 simp [rowsL]
theorem rowsL_next (f:Nat→Nat) (n j t:Nat):(rowsL f n j).set j (.slice (some ⟨t,0,none⟩) n n)=rowsL (fun k=>if k=j then t else f k) n (j+1):=by
 apply List.ext_getElem (by simp [rowsL])
 intro i h1 h2
 have hi:i < n:=by simpa [rowsL] using h2
 rw [List.getElem_set]
 split
 ·rename_i e;subst e;simp [rowsL]
 ·rename_i e
  simp only [rowsL,List.getElem_map,List.getElem_range]
  have:¬ i=j:=fun x=>e x.symm
  by_cases h:i < j
  ·have h':i < j+1:=by omega
   simp [h,h',this]
  ·have h':¬ i < j+1:=by omega
   simp [h,h']
structure Mat (W:World) (B ob rb n j:Nat) (f:Nat→Nat) (row:Nat→List Bool):Prop where
 o:Owns W ob [.slice (some ⟨rb,0,none⟩) n n] 153
 r:Owns W rb (rowsL f n j) 151
 rows:∀ i,i < j→Owns W (f i) ((row i).map .bool) 4
 len:∀ i,i < j→(row i).length=n
 inj:∀ i k,i < j→k < j→i≠k→f i≠f k
 lo:∀ i,i < j→B≤f i
 ob_lt:ob < B
 rb_lt:rb < B
 ne:ob≠rb
 jn:j≤n
theorem Mat.keep {W W':World} {B ob rb n j:Nat} {f:Nat→Nat} {row:Nat→List Bool} (h:Mat W B ob rb n j f row) (hg:Grew W W'):Mat W' B ob rb n j f row :=
 ⟨h.o.keep hg,h.r.keep hg,fun i hi=>(h.rows i hi).keep hg,h.len,h.inj,h.lo,h.ob_lt,h.rb_lt,h.ne,h.jn⟩
theorem Mat.next {W W':World} {B ob rb n j t:Nat} {f:Nat→Nat} {row:Nat→List Bool} {l:List Bool} (h:Mat W B ob rb n j f row) (hg:Upd t (W.setCell ⟨rb,j,none⟩ (.slice (some ⟨t,0,none⟩) n n)) W') (ht:Owns W' t (l.map .bool) 4) (hl:l.length=n)
  (hB:B≤t) (hnew:∀ i,i < j→f i≠t) (hj:j < n):Mat W' B ob rb n (j+1) (fun k=>if k=j then t else f k) (fun k=>if k=j then l else row k):=by
 have hb:rb < B:=h.rb_lt
 have ho:ob < B:=h.ob_lt
 refine ⟨(h.o.other (by simpa using fun e=>h.ne e.symm) _).upd hg (by omega),?_,fun i hi=>?_,fun i hi=>?_,fun i k hi hk hne=>?_,fun i hi=>?_,ho,hb,h.ne,by omega⟩
 ·have:=(h.r.set j (.slice (some ⟨t,0,none⟩) n n)).upd hg (by omega)
  rwa [rowsL_next] at this
 ·by_cases e:i=j
  ·subst e;simpa using ht
  ·have hi':i < j:=by omega
   have h1:=h.lo i hi'
   have:=((h.rows i hi').other (a:=⟨rb,j,none⟩) (by show rb≠f i;omega) (.slice (some ⟨t,0,none⟩) n n)).upd hg (hnew i hi')
   simpa [e] using this
 ·by_cases e:i=j
  ·subst e;simpa using hl
  ·simpa [e] using h.len i (by omega)
 ·by_cases e:i=j
  ·subst e
   have:¬ k=i:=fun x=>hne x.symm
   simp only [if_true,this,if_false]
   exact fun x=>hnew k (by omega) x.symm
  ·by_cases e2:k=j
   ·subst e2
    simp only [e,if_false,if_true]
    exact hnew i (by omega)
   ·simp only [e,e2,if_false]
    exact h.inj i k (by omega) (by omega) hne
 ·by_cases e:i=j
  ·subst e;simpa using hB
  ·simpa [e] using h.lo i (by omega)
theorem Mat.put {W:World} {B ob rb n:Nat} {f:Nat→Nat} {M:List (List Bool)} (h:Mat W B ob rb n n f (fun i=>M.getD i [])) (hs:Square n M) {i k:Nat} (hi:i < n) (b:Bool) :
  Mat (W.setCell ⟨f i,k,none⟩ (.bool b)) B ob rb n n f (fun j=>(set2 M i k b).getD j []):=by
 have h1:=h.lo i hi
 have hb:rb < B:=h.rb_lt
 have ho:ob < B:=h.ob_lt
 have hget:∀ j,(set2 M i k b).getD j []=if j=i then (M.getD i []).set k b else M.getD j []:=by
  intro j
  unfold set2
  by_cases e:j=i
  ·subst e;simp [List.getD_eq_getElem?_getD,hs.1,hi]
  ·simp only [List.getD_eq_getElem?_getD,List.getElem?_set_ne (fun x=>e x.symm),e,if_false]
 refine ⟨h.o.other (by show f i≠ob;omega) _,h.r.other (by show f i≠rb;omega) _,fun j hj=>?_,fun j hj=>?_,h.inj,h.lo,ho,hb,h.ne,h.jn⟩
 ·rw [hget]
  by_cases e:j=i
  ·subst e
   simp only [if_true]
   have:=(h.rows j hj).set k (.bool b)
   rwa [← List.map_set] at this
  ·simp only [e,if_false]
   exact (h.rows j hj).other (by show f i≠f j;exact h.inj i j hi hj (fun x=>e x.symm)) _
 ·rw [hget]
  split
  ·rename_i e;subst e;simpa using h.len j hj
  ·exact h.len j hj
theorem Mat.cell {W:World} {B ob rb n:Nat} {f:Nat→Nat} {M:List (List Bool)} (h:Mat W B ob rb n n f (fun i=>M.getD i [])) {i k:Nat} (hi:i < n) (hk:k < n):W.cell? ⟨f i,k,none⟩=some (.bool (at2 M i k)):=by
 have h1:=h.rows i hi
 have h2:=h.len i hi
 refine h1.cell_at ?_
 unfold at2
 rw [List.getElem?_map,List.getElem?_eq_getElem (by omega),List.getD_eq_getElem?_getD (l:=M.getD i []),List.getElem?_eq_getElem (by omega)]
 rfl
theorem Mat.row {W:World} {B ob rb n j:Nat} {f:Nat→Nat} {row:Nat→List Bool} (h:Mat W B ob rb n j f row) {i:Nat} (hi:i < j):W.cell? ⟨rb,i,none⟩=some (.slice (some ⟨f i,0,none⟩) n n):=by
 have:=h.jn
 rw [h.r.cell,rowsL_at _ _ _ _ (by omega),if_pos hi]
theorem Mat.congr {W:World} {B ob rb n j:Nat} {f:Nat→Nat} {row row':Nat→List Bool} (h:Mat W B ob rb n j f row) (he:∀ i,i < j→row i=row' i):Mat W B ob rb n j f row' :=
 ⟨h.o,h.r,fun i hi=>by rw [← he i hi];exact h.rows i hi,fun i hi=>by rw [← he i hi];exact h.len i hi,h.inj,h.lo,h.ob_lt,h.rb_lt,h.ne,h.jn⟩
end Go.Proofs.YtppjmdanckdobaaGreatDoor
