/- A table: has; a walk that begins. -/
import Derived.Sort.OwnSortedInts
import Derived.Shelf.Slices.In.SortNone
import Derived.Test.YtppjmdanckdobaaGreatDoorShelf
import Derived.Test.YtppjmdanckdobaaGreatDoorQR34
import Derived.Test.YtppjmdanckdobaaGreatDoorQR10
import Derived.Test.YtppjmdanckdobaaGreatDoorQR11
import Derived.Test.YtppjmdanckdobaaGreatDoorQR28
namespace Go.Proofs.YtppjmdanckdobaaGreatDoor
open Go.RowKit
open Lib (hid)
structure XT where
 tb:Nat
 bk:Nat
 nm:Nat
 tm:Nat
 V:BV
 kv:Value
 ba:Option Addr
 bc:Nat
 B:Bk
def XT.e (T:XT) (lim kw kb nb:Nat) (wa:Option Addr) (wc:Nat) (wl:List Int):XE:=⟨lim,kw,kb,nb,T.tb,T.bk,T.nm,T.tm,T.V,T.kv,T.ba,T.bc,wa,wc,T.B,wl⟩
def XT.ptr (T:XT):Value:=.pointer (some ⟨T.tb,0,none⟩)
def XT.At (T:XT) (lim:Nat) (w:World):Prop:=(T.e lim 0 0 0 none 0 []).Tab w
theorem XT.At.to {T:XT} {lim:Nat} {w:World} (h:T.At lim w) (kw kb nb:Nat) (wa:Option Addr) (wc:Nat) (wl:List Int):(T.e lim kw kb nb wa wc wl).Tab w:=⟨h.low,h.tbl,h.box,h.book,h.names,h.toks,h.nlo,h.kinds,h.bodies⟩
theorem XT.At.keep {T:XT} {lim:Nat} {w w':World} (h:T.At lim w) (hb:Below lim w w'):T.At lim w':=XE.Tab.keep h hb
theorem XT.At.mono {T:XT} {lim lim':Nat} {w:World} (h:T.At lim w) (h1:lim≤lim') (h2:lim'≤w.heap.size):T.At lim' w :=
 ⟨h2,Nat.lt_of_lt_of_le h.tbl h1,h.box,h.book.mono h1 h2,h.names,h.toks,⟨Nat.lt_of_lt_of_le h.nlo.1 h1,Nat.lt_of_lt_of_le h.nlo.2 h1⟩,IntsV.mono h1 h.kinds,h.bodies.mono h1⟩
theorem XT.At.grew {T:XT} {w w':World} (h:T.At w.heap.size w) (hg:Grew w w'):T.At w'.heap.size w':=(h.keep hg).mono hg.size (Nat.le_refl _)
def hasX (B:Bk) (r:Int) (n:Nat):Bool:=decide (0≤r)&&(decide (r < (B.bodies.length:Int))&&decide (n≤48))
set_option maxRecDepth 20000 in
theorem xhas_ok (T:XT) (r:Int) (a:Option Addr) (n c:Nat) (W:World) (hT:T.At W.heap.size W):Calls Tryz.prog 16 #[T.ptr,.int .i64 r,.slice a n c] W fun e W'=>e=.returned (.bool (hasX T.B r n))∧W'=W:=by
 have t4:=hT.box.cell_at (i:=4) rfl
 have tl:=hT.box.lt
 unfold XT.e at t4 tl
 dsimp only at t4 tl
 unfold XT.ptr hasX
 clear hT
 by_cases h0:0≤r
 ·by_cases h1:r < (T.B.bodies.length:Int)
  ·go_enter Tryz.func16,Tryz.ntmps16
   go_wp2_with fail
   go_ret
   exact ⟨ret_bool (by simp [h0,h1];omega),rfl⟩
  ·go_enter Tryz.func16,Tryz.ntmps16
   go_wp2_with fail
   go_ret
   exact ⟨ret_bool (by simp;omega),rfl⟩
 ·go_enter Tryz.func16,Tryz.ntmps16
  go_wp2_with fail
  go_ret
  exact ⟨ret_bool (by simp;omega),rfl⟩
def XNextS (B:Bk) (r:Nat) (wl:List Int) (x:Int):Prop:=∃ (n:Nd) (t:Nat),B.bodies[r]? = some n∧Nx B wl n 0 t∧x=(t:Int)
theorem XE.At.begin {T:XT} {lim kw kb nb:Nat} {wa:Option Addr} {wc:Nat} {wl:List Int} {w:World} (h:T.At lim w) (hbox:Owns w kw [.pointer (some ⟨T.tb,0,none⟩),.slice wa wl.length wc,.map (some kb),.map (some nb)] 64) (hi:IntsAt w lim wa wl) (h1:lim≤kw) (h2:lim≤kb) (h3:lim≤nb) (hne:kb≠nb) (hw:wl.length≤48) (hk:w.heap[kb]? = some (mapObj [])) (hn:w.heap[nb]? = some (mapObj [])):(T.e lim kw kb nb wa wc wl).At (fun _=>False) w :=
 ⟨h.to _ _ _ _ _ _,hbox,hi,⟨h1,h2,h3⟩,hne,hw,⟨[],hk,fun e he=>by simp at he⟩,⟨[],hn,List.nodup_nil,fun t=>by simp⟩⟩
theorem xstart_ok (T:XT) (hG:T.B.Good) (hB:T.B.Lng) {lim kw kb nb:Nat} {wa:Option Addr} {wc:Nat} {wl:List Int} {w:World} (hA:(T.e lim kw kb nb wa wc wl).At (fun _=>False) w) (r:Nat) (hr:r < T.B.bodies.length) :
  Calls Tryz.prog 19 #[.pointer (some ⟨kw,0,none⟩),.agg #[.int .i64 (r:Int),.int .i64 0]] w fun e W'=>∃ q,e=.returned (setV q)∧q < 2 ^ 49∧(q.testBit wl.length=true↔T.B.D r wl)∧NoteX (XNextS T.B r wl) nb W'∧But (fun k=>k=kb∨k=nb) w W':=by
 obtain ⟨rank,hrank⟩:=hG.rank wl (by have:=hA.few;show wl.length≤64;exact Nat.le_trans this (by omega))
 have h:=xask_all (T.e lim kw kb nb wa wc wl) hB hG.lp hA.few rank hrank r 0 hr (Nat.zero_le _) (fun _=>False) w hA
 refine h.mono ?_
 rintro e W' ⟨q,rfl,h1,h2,h3,h4⟩
 refine ⟨q,rfl,h1,h2.2 wl.length,?_,h4⟩
 have hS:(fun t=>False∨XNxt (T.e lim kw kb nb wa wc wl) r 0 t)=XNextS T.B r wl:=funext fun t=>propext ⟨fun h=>h.elim False.elim id,.inr⟩
 have:=h3.note
 rw [hS] at this
 exact this
end Go.Proofs.YtppjmdanckdobaaGreatDoor

/- slices.Sort of a row of ints of the call's own;a walk over a map's entries. -/
namespace Go.Proofs.YtppjmdanckdobaaGreatDoor
open Go.RowKit Go.Sort
open Lib (hid)
theorem nodup_ints {M:Nat} {l:List Int} (hd:l.Nodup) (h:∀ x∈l,-1≤x∧x < (M:Int) - 1):l.length≤M:=by
 have:=List.Nodup.length_le_of_subset hd (show l ⊆ (List.range M).map (fun (i:Nat)=>(i:Int) - 1) from fun x hx=>by
  have:=h x hx
  exact List.mem_map.2 ⟨(x+1).toNat,List.mem_range.2 (by omega),by omega⟩)
 rwa [List.length_map,List.length_range] at this
theorem nodup_nats {l:List Nat} {m:Nat} (h:l.Nodup) (hl:∀ j∈l,j < m):l.length≤m:=by
 have:=List.Nodup.length_le_of_subset h (show l ⊆ List.range m from fun j hj=>List.mem_range.2 (hl j hj))
 rwa [List.length_range] at this
def SeenX (m:Nat) (seen:List Nat) (last k:Nat):Prop:=seen.Nodup∧(∀ j∈seen,j < m)∧(seen≠[]→1≤last)∧k+seen.length=m+1
theorem SeenX.first (m last:Nat):SeenX m [] last (m+1):=⟨List.nodup_nil,fun j hj=>absurd hj (by simp),fun h=>absurd rfl h,by simp⟩
theorem SeenX.more {seen:List Nat} {m j k last:Nat} (h:SeenX m seen last k) (hn:j∉seen) (hj:j < m):k - 1 < k∧SeenX m (seen++[j]) m (k - 1)∧seen.length < m:=by
 obtain ⟨h1,h2,_,h4⟩:=h
 have h5:(seen++[j]).Nodup:=by
  rw [List.nodup_append]
  exact ⟨h1,by simp,fun a ha b hb=>by simp at hb;subst hb;exact fun e=>hn (e▸ha)⟩
 have h6:∀ i∈seen++[j],i < m:=fun i hi=>by
  rcases List.mem_append.1 hi with h | h
  ·exact h2 i h
  ·simp at h;omega
 have h7:=nodup_nats h5 h6
 simp at h7
 refine ⟨by omega,⟨h5,h6,fun _=>by omega,?_⟩,by omega⟩
 simp
 omega
theorem nodup_same {l:List Int} (h:l.Nodup) {a b:Nat} (ha:a < l.length) (hb:b < l.length) (e:l[a]=l[b]):a=b:=by
 rcases Nat.lt_trichotomy a b with hl | hl | hl
 ·exact absurd e (List.pairwise_iff_getElem.1 h a b ha hb hl)
 ·exact hl
 ·exact absurd e.symm (List.pairwise_iff_getElem.1 h b a hb ha hl)
def metL (L:List Int) (seen:List Nat):List Int:=seen.map fun i=>L.getD i 0
theorem metL_snoc (L:List Int) (seen:List Nat) (j:Nat):metL L (seen++[j])=metL L seen++[L.getD j 0]:=by simp [metL]
theorem metL_len (L:List Int) (seen:List Nat):(metL L seen).length=seen.length:=by simp [metL]
theorem metL_all {L:List Int} {seen:List Nat} (hd:L.Nodup) (h1:seen.Nodup) (h2:∀ j∈seen,j < L.length) (h3:∀ i,i < L.length→i∈seen):(metL L seen).Nodup∧∀ x,x∈metL L seen↔x∈L:=by
 constructor
 ·unfold metL
  unfold List.Nodup
  rw [List.pairwise_map]
  refine List.Pairwise.imp_of_mem ?_ h1
  intro a b ha hb hne e
  have h4:=h2 a ha
  have h5:=h2 b hb
  rw [List.getD_eq_getElem?_getD,List.getD_eq_getElem?_getD,List.getElem?_eq_getElem h4,List.getElem?_eq_getElem h5] at e
  exact hne (nodup_same hd h4 h5 e)
 ·intro x
  constructor
  ·intro hx
   obtain ⟨i,hi,rfl⟩:=List.mem_map.1 hx
   rw [List.getD_eq_getElem?_getD,List.getElem?_eq_getElem (h2 i hi)]
   exact List.getElem_mem _
  ·intro hx
   obtain ⟨i,hi,rfl⟩:=List.mem_iff_getElem.1 hx
   exact List.mem_map.2 ⟨i,h3 i hi,by rw [List.getD_eq_getElem?_getD,List.getElem?_eq_getElem hi];rfl⟩
theorem sort_rise {l:List Int} (h:l.Nodup):(l.mergeSort fun x y=>decide (x≤y)).Pairwise (· < ·):=by
 have h1:=List.pairwise_mergeSort (le:=fun x y:Int=>decide (x≤y)) (by intro a b c h1 h2;simp at *;omega) (by intro a b;simp;omega) l
 have h2:(l.mergeSort fun x y=>decide (x≤y)).Nodup:=(List.mergeSort_perm l _).nodup_iff.2 h
 refine (List.pairwise_and_iff.2 ⟨h1,h2⟩).imp ?_
 intro a b ⟨h3,h4⟩
 simp at h3
 omega
structure LoopX (W:World) (L:List Int) (mb r:Nat) (seen:List Nat) (last k:Nat) (v:Value) (wr:World):Prop where
 sees:SeenX L.length seen last k
 row:looseRow wr W.heap.size 3 1 v seen.length (intVs (metL L seen))
 iter:IterAt wr r mb L.length seen last
 map:wr.heap[mb]? = some (mapObj (noteL L))
 grew:Grew W wr
 mlo:W.heap.size≤mb
 rlo:W.heap.size≤r
theorem LoopX.begin {W w:World} {L:List Int} {mb:Nat} (hg:Grew W w) (hm:w.heap[mb]? = some (mapObj (noteL L))) (hl:W.heap.size≤mb) :
  LoopX W L mb w.heap.size [] L.length (L.length+1) (.slice none 0 0) (w.alloc (.mapIter (some mb) L.length #[] L.length)):=by
 have hga:=grew_alloc w (.mapIter (some mb) L.length #[] L.length)
 refine ⟨SeenX.first _ _,⟨rfl,.inl ⟨rfl,rfl⟩⟩,?_,by rw [hga.block _ (Array.getElem?_eq_some_iff.1 hm).1];exact hm,hg.trans hga,hl,hg.size⟩
 unfold IterAt
 exact heap_alloc_new w _
theorem LoopX.own {W wr:World} {L:List Int} {mb r last k:Nat} {seen:List Nat} {v:Value} (h:LoopX W L mb r seen last k v wr):v.ownBlock≠some r∧v.ownBlock≠some mb:=by
 constructor
 ·intro e
  obtain ⟨_,cs,h2⟩:=row_own h.row e
  have h3:=h.iter
  unfold IterAt at h3
  rw [h3] at h2
  cases h2
 ·intro e
  obtain ⟨_,cs,h2⟩:=row_own h.row e
  have h3:=h.map
  rw [h3] at h2
  unfold mapObj at h2
  cases h2
theorem grewPut {W w w1:World} (hg:Grew W w) (hw:w1=w∨w1=w.drew) {r:Nat} (hr:W.heap.size≤r) (o:Obj):Grew W (putObj w1 r o):=by
 have hb:w1.heap=w.heap:=by rcases hw with rfl | rfl<;>rfl
 refine ⟨?_,?_,?_,by rw [putObj_size,hb];exact hg.size,fun k hk=>by rw [putObj_other (by omega),hb];exact hg.block k hk⟩
 ·rcases hw with rfl | rfl<;>exact hg.os
 ·rcases hw with rfl | rfl<;>exact hg.tape
 ·rcases hw with rfl | rfl<;>exact hg.output
theorem LoopX.step {W wr:World} {L:List Int} {mb r last k:Nat} {seen:List Nat} {v:Value} (h:LoopX W L mb r seen last k v wr) (hd:L.Nodup) (ty:TypeId) :
  (∃ w1,(Instr.next (.pointer (some ⟨r,0,none⟩)) false ty).run Tryz.prog wr=.ok (.tuple #[.bool false]) w1∧looseRow w1 W.heap.size 3 1 v seen.length (intVs (metL L seen))∧Grew W w1∧(metL L seen).Nodup∧∀ x,x∈metL L seen↔x∈L) ∨
  ∃ (j:Nat) (t:Int) (w1:World),(Instr.next (.pointer (some ⟨r,0,none⟩)) false ty).run Tryz.prog wr=.ok (.tuple #[.bool true,.int .i64 t,.agg #[]]) w1∧(Instr.entry (.pointer (some ⟨r,0,none⟩))).run Tryz.prog w1=.ok (.tuple #[.int .i64 t,.agg #[]]) w1 ∧
   looseRow w1 W.heap.size 3 1 v seen.length (intVs (metL L seen))∧Grew W w1∧seen.length < L.length∧k - 1 < k ∧
   ∀ w2 w5 g cap,Grew w1 w2→looseRow w5 W.heap.size 3 1 (.slice (some ⟨g,0,none⟩) (seen.length+1) cap) (seen.length+1) (intVs (metL L seen)++[.int .i64 t])→w2.grownBy w5 v.ownBlock→LoopX W L mb r (seen++[j]) L.length (k - 1) (.slice (some ⟨g,0,none⟩) (seen.length+1) cap) w5:=by
 have hlen:(noteL L).length=L.length:=by simp [noteL]
 have hd':=hd
 rcases run_next_mapObj (P:=Tryz.prog) h.iter h.map h.sees.2.2.1 (by rw [hlen];exact Nat.le_refl _) ty with ⟨hall,w1,hw1,hrun⟩ | ⟨j,hj,hns,w1,hw1,hrun⟩
 ·left
  obtain ⟨m1,m2⟩:=metL_all hd h.sees.1 h.sees.2.1 hall
  have hb:But (fun _=>False) wr w1:=by
   rcases hw1 with rfl | rfl
   ·exact But.refl _ _
   ·exact (But.refl _ _).drew
  exact ⟨w1,hrun,row_but h.row hb fun _ _=>id,h.grew.trans ⟨hb.os,hb.tape,hb.output,hb.size,fun k hk=>hb.block k hk id⟩,m1,m2⟩
 ·right
  have hjL:j < L.length:=by rw [← hlen];exact hj
  have hget:(noteL L)[j]=(.int .i64 L[j],.agg #[]):=by simp [noteL]
  rw [hget,hlen] at hrun
  obtain ⟨hk1,hs1,hlt⟩:=h.sees.more hns hjL
  obtain ⟨ho1,ho2⟩:=h.own
  have hb0:But (fun _=>False) wr w1:=by
   rcases hw1 with rfl | rfl
   ·exact But.refl _ _
   ·exact (But.refl _ _).drew
  have hb1:But (fun q=>q=r) wr (putObj w1 r (.mapIter (some mb) L.length (seen++[j]).toArray L.length)):=(hb0.wideX (G:=fun q=>q=r) fun _ _ e=>e.elim).trans (But.put (F:=fun q=>q=r) rfl) fun _ _ e=>e
  have hne:mb≠r:=fun e=>by
   have h3:=h.iter
   unfold IterAt at h3
   rw [← e,h.map] at h3
   unfold mapObj at h3
   cases h3
  have hmap1:(putObj w1 r (.mapIter (some mb) L.length (seen++[j]).toArray L.length)).heap[mb]? = some (mapObj (noteL L)):=by
   rw [hb1.block _ (Array.getElem?_eq_some_iff.1 h.map).1 hne]
   exact h.map
  have hit1:IterAt (putObj w1 r (.mapIter (some mb) L.length (seen++[j]).toArray L.length)) r mb L.length (seen++[j]) L.length:=by
   unfold IterAt
   have hr0:=h.iter
   unfold IterAt at hr0
   exact putObj_same (by have:=(Array.getElem?_eq_some_iff.1 hr0).1;exact Nat.lt_of_lt_of_le this hb0.size) _
  refine ⟨j,L[j],_,hrun,?_,row_but h.row hb1 fun g hg e=>ho1 (by rw [hg,e]),grewPut h.grew hw1 h.rlo _,hlt,hk1,fun w2 w5 g cap hg2 hrow hgr=>?_⟩
  ·have he:=run_entry_mapObj (P:=Tryz.prog) (w:=putObj w1 r (.mapIter (some mb) L.length (seen++[j]).toArray L.length)) hj (by rw [hlen];exact hit1) hmap1
   rw [hget] at he
   exact he
  ·have hG0:=grewPut h.grew hw1 h.rlo (.mapIter (some mb) L.length (seen++[j]).toArray L.length)
   generalize putObj w1 r (.mapIter (some mb) L.length (seen++[j]).toArray L.length)=w11 at *
   have hr2:=Nat.lt_of_lt_of_le (Array.getElem?_eq_some_iff.1 hit1).1 hg2.size
   have hm2:=Nat.lt_of_lt_of_le (Array.getElem?_eq_some_iff.1 hmap1).1 hg2.size
   refine ⟨hs1,?_,?_,?_,?_,h.mlo,h.rlo⟩
   ·rw [metL_snoc,intVs_snoc,List.length_append,List.length_singleton,List.getD_eq_getElem?_getD,List.getElem?_eq_getElem hjL]
    exact hrow
   ·unfold IterAt
    rw [hgr.block r hr2 (fun e=>ho1 e.symm),hg2.block r (Array.getElem?_eq_some_iff.1 hit1).1]
    exact hit1
   ·rw [hgr.block mb hm2 (fun e=>ho2 e.symm),hg2.block mb (Array.getElem?_eq_some_iff.1 hmap1).1]
    exact hmap1
   ·have hrow2:looseRow w2 W.heap.size 3 1 v seen.length (intVs (metL L seen)):=row_but (row_but h.row hb1 fun g hg e=>ho1 (by rw [hg,e])) (But.of_grew (F:=fun _=>False) hg2) fun _ _=>id
    exact grew_loose hrow2 (hG0.trans hg2) hgr
theorem sortInt_ok (w:World) (base:Nat) (v:Value) (l:List Int) (hl:l.length≤reachN) (h:looseRow w base 3 1 v l.length (intVs l)) :
  Calls Tryz.prog 20 #[v] w fun e w'=>e=.returned (.tuple #[])∧looseRow w' base 3 1 v l.length (intVs (l.mergeSort fun x y=>decide (x≤y)))∧w.grownBy w' v.ownBlock:=by
 rcases h.2 with ⟨rfl,h0⟩ | ⟨g,cap,cur,rfl,h1,h2,h3,h4,h5,h6⟩
 ·have hn:l=[]:=List.eq_nil_of_length_eq_zero h0
  subst hn
  refine (Any.slices_Sort_int_none Tryz.lays189 none 0 w).mono ?_
  rintro e w' ⟨rfl,rfl⟩
  rw [List.mergeSort_nil]
  exact ⟨rfl,h,⟨rfl,rfl,rfl,Nat.le_refl _,fun _ _ _=>rfl⟩⟩
 ·rw [Nat.mul_one] at h6
  refine (Tryz.slices_Sort_int g 0 cap l w (holds_of_blockI h2 h6) (Array.getElem?_eq_some_iff.1 h2).1 (by unfold reachN at hl;omega)).mono ?_
  rintro e w' ⟨rfl,n,os,rfl⟩
  have hlen:(l.mergeSort fun x y=>decide (x≤y)).length=l.length:=List.length_mergeSort l
  refine ⟨rfl,⟨by simp [intVs,hlen],.inr ⟨g,cap,_,rfl,h1,heap_sortedI _ h2,h3,h4,?_,?_⟩⟩,grownBy_sortedI _⟩
  ·unfold putCells
   simpa using h5
  ·rw [Nat.mul_one,← hlen]
   exact take_putCellsI cur _ (by omega)
end Go.Proofs.YtppjmdanckdobaaGreatDoor

/- derived: is a list,of which some tokens may be whatever? -/
namespace Go.Proofs.YtppjmdanckdobaaGreatDoor
open Go.RowKit Go.Sort
open Lib (hid)
set_option maxHeartbeats 8000000 in
set_option maxRecDepth 40000 in
theorem xderived_ok (T:XT) (hG:T.B.Good) (hB:T.B.Lng) (k:Nat) (hk:k < T.B.bodies.length) (wa:Option Addr) (sc:Nat) (wl:List Int) (hwl:wl.length≤48) (W:World) (hT:T.At W.heap.size W) (hI:IntsAt W W.heap.size wa wl) :
  Calls Tryz.prog 24 #[T.ptr,.int .i64 (k:Int),.slice wa wl.length sc] W fun e W'=>∃ b,e=.returned (.bool b)∧(b=true↔T.B.D k wl)∧Grew W W':=by
 have HT:=hid hT
 have HI:=hid hI
 have HG:=hid hG
 have HB:=hid hB
 have HW48:=hid hwl
 have HKB:=hid hk
 have hFEW:=hT.book.few.2
 unfold XT.e at hFEW
 dsimp only at hFEW
 obtain ⟨lg,hlg⟩:∃ lg,T.B.longN k=lg:=⟨_,rfl⟩
 have HL:Hid (∀ w,T.At w.heap.size w→Calls Tryz.prog 17 #[.pointer (some ⟨T.bk,0,none⟩),.int .i64 k] w fun e W'=>e=.returned (.int .i64 lg)∧W'=w):=hid fun w h=>by
  rw [← hlg,← longN_eq hFEW]
  exact slong_ok T.B _ T.V T.bk w.heap.size w h.book
 have HLE:=hid hlg
 have hmk:∀ (t:TypeId) (w:World),(Instr.makeMap t none).run Tryz.prog w=.ok (.map (some w.heap.size)) (w.alloc (.map #[] 0)):=fun _ _=>rfl
 obtain ⟨n,hn⟩:∃ n,wl.length=n:=⟨_,rfl⟩
 have HN:=hid hn
 rw [hn]
 obtain ⟨kb,hkb⟩:∃ kb,W.heap.size=kb:=⟨_,rfl⟩
 obtain ⟨w4,hw4⟩:∃ w4,W.alloc (.map #[] 0)=w4:=⟨_,rfl⟩
 have z4:w4.heap.size=kb+1:=by rw [← hw4,← hkb];exact World.size_alloc _ _
 have hm4:(Instr.makeMap 61 none).run Tryz.prog W=.ok (.map (some kb)) w4:=by rw [hmk,hw4,hkb]
 obtain ⟨w5,hw5⟩:∃ w5,w4.alloc (.map #[] 0)=w5:=⟨_,rfl⟩
 have z5:w5.heap.size=kb+1+1:=by rw [← hw5,← z4];exact World.size_alloc _ _
 have hm5:(Instr.makeMap 62 none).run Tryz.prog w4=.ok (.map (some (kb+1))) w5:=by rw [hmk,hw5,z4]
 obtain ⟨w6,hw6⟩:∃ w6,w5.alloc (.cells #[.pointer (some ⟨T.tb,0,none⟩),.slice wa n sc,.map (some kb),.map (some (kb+1))] 64)=w6:=⟨_,rfl⟩
 have g4:Grew W w4:=hw4▸grew_alloc W _
 have g5:Grew w4 w5:=hw5▸grew_alloc w4 _
 have g6:Grew w5 w6:=hw6▸grew_alloc w5 _
 have hmap4:w6.heap[kb]? = some (mapObj []):=by
  rw [g6.block kb (by omega),g5.block kb (by omega),← hw4,← hkb]
  exact heap_alloc_new W _
 have hmap5:w6.heap[kb+1]? = some (mapObj []):=by
  rw [g6.block (kb+1) (by omega),← hw5,← z4]
  exact heap_alloc_new w4 _
 have o6:Owns w6 (kb+1+1) [.pointer (some ⟨T.tb,0,none⟩),.slice wa n sc,.map (some kb),.map (some (kb+1))] 64:=by rw [← hw6,← z5];exact Owns.alloc w5 _ _
 have HG36:=hid ((g4.trans g5).trans g6)
 have O6:=hid o6
 have hE:(T.e kb (kb+1+1) kb (kb+1) wa sc wl).At (fun _=>False) w6:=XE.At.begin (hkb▸HT.out.keep HG36.out) (by rw [HN.out];exact o6) (hkb▸IntsAt.keep HG36.out HI.out) (by omega) (Nat.le_refl _) (by omega) (by omega) HW48.out hmap4 hmap5
 have HS:=hid (xstart_ok T HG.out HB.out hE k HKB.out)
 have HKB3:=hid hkb
 have hT6:=HT.out.grew HG36.out
 have HL6:=hid (HL.out w6 hT6)
 have t0:=hT6.box.cell_at (i:=0) rfl
 have tl:=hT6.box.lt
 unfold XT.e at t0 tl
 dsimp only at t0 tl
 unfold XT.ptr
 have HFIN:Hid (∀ w7,But (fun k=>k=kb∨k=kb+1) w6 w7→Grew W w7):=hid fun w7 hb=>by
  have h1:Below W.heap.size w6 w7:=hb.below HG36.out.size fun q hq=>by rcases hq with e | e<;>omega
  exact Below.trans HG36.out h1
 have HBW:Hid (lg < 0→¬ T.B.D k wl):=hid fun hl ⟨nd,h1,h2⟩=>by
  have:=hB wl (by omega) k nd 0 wl.length h1 (Nat.zero_le _) h2
  omega
 clear hT hI hG hB hwl hk hFEW hlg hn g4 g5 g6 hmap4 hmap5 o6 hE hmk hT6 HL
 by_cases hl0:lg < 0
 ·have hl1:decide (0≤lg)=false:=decide_eq_false (by omega)
  go_enter Tryz.func24,Tryz.ntmps24
  go_wp2_with fail
  refine HL6.out.mono ?_
  rintro e w7 ⟨rfl,rfl⟩
  go_wp2_with fail
  go_ret
  exact ⟨false,rfl,⟨nofun,fun h=>absurd h (HBW.out hl0)⟩,HG36.out⟩
 ·have hl1:decide (0≤lg)=true:=decide_eq_true (by omega)
  go_enter Tryz.func24,Tryz.ntmps24
  go_wp2_with fail
  refine HL6.out.mono ?_
  rintro e w7 ⟨rfl,rfl⟩
  go_wp2_with fail
  refine HS.out.mono ?_
  rintro e w7 ⟨q,rfl,q1,q2,q3,q4⟩
  obtain ⟨d,hd⟩:∃ d,q.testBit n=d:=⟨_,rfl⟩
  have hidx:(Instr.index 66 (setV q) (.int .i64 (n:Int))).run Tryz.prog w7=.ok (.bool d) w7:=index_set (by have:=HW48.out;have:=HN.out;omega) (by rw [← hd];simpa using setL_get q (by have:=HW48.out;have:=HN.out;omega)) w7
  go_wp2_with fail
  go_ret
  exact ⟨d,rfl,by rw [← hd,← HN.out];exact q2,HFIN.out _ q4⟩
end Go.Proofs.YtppjmdanckdobaaGreatDoor

/- Rest,plain: a list is filled token by token. -/
namespace Go.Proofs.YtppjmdanckdobaaGreatDoor
open Go.RowKit
open Lib (hid)
def rep (n:Nat):List Int:=List.replicate n (-2)
theorem rep_len (n:Nat):(rep n).length=n:=List.length_replicate
theorem rep_succ (n:Nat):rep (n+1) = -2::rep n:=rfl
def Fil (B:Bk) (r:Nat):List Int→Nat→List Int→Prop
 | _,0,v=>v=[]
 | p,n+1,v=>∃ x u,v=x::u∧x∈B.kinds∧B.D r (p++x::rep n)∧(∀ y∈B.kinds,y < x→¬ B.D r (p++y::rep n))∧Fil B r (p++[x]) n u
section
variable {B:Bk} {r:Nat}
theorem Fil.len:∀ {n:Nat} {p v:List Int},Fil B r p n v→v.length=n
 | 0,_,_,h=>by rw [show _=[] from h];rfl
 | n+1,_,_,⟨x,u,e,_,_,_,h⟩=>by rw [e,List.length_cons,h.len]
theorem Fil.kinds:∀ {n:Nat} {p v:List Int},Fil B r p n v→∀ x∈v,x∈B.kinds
 | 0,_,_,h,x,hx=>by rw [show _=[] from h] at hx;cases hx
 | n+1,_,_,⟨y,u,e,h1,_,_,h⟩,x,hx=>by
  rw [e] at hx
  rcases List.mem_cons.1 hx with rfl | hx
  ·exact h1
  ·exact h.kinds x hx
theorem Fil.derived:∀ {n:Nat} {p v:List Int},B.D r (p++rep n)→Fil B r p n v→B.D r (p++v)
 | 0,p,_,hd,h=>by rw [show _=[] from h];exact hd
 | n+1,p,_,_,⟨y,u,e,_,h2,_,h⟩=>by
  have:=h.derived (by rw [List.append_assoc];exact h2)
  rw [List.append_assoc] at this
  rw [e]
  exact this
theorem Fil.uniq:∀ {n:Nat} {p v v':List Int},Fil B r p n v→Fil B r p n v'→v=v'
 | 0,p,_,_,h,h'=>by rw [show _=[] from h,show _=[] from h']
 | n+1,p,_,_,⟨y,u,e,h1,h2,h3,h⟩,⟨y',u',e',h1',h2',h3',h'⟩=>by
  have hy:y=y':=by
   rcases Int.lt_trichotomy y y' with hl | hl | hl
   ·exact absurd h2 (h3' y h1 hl)
   ·exact hl
   ·exact absurd h2' (h3 y' h1' hl)
  subst hy
  rw [e,e',h.uniq h']
theorem d_wild {u w:List Int} (h:B.D r u) (hw:Wld u w):B.D r w:=d_rg.2 (rg_wild (d_rg.1 h) hw)
theorem wld_rep (u:List Int):Wld u (rep u.length):=Wld.all u
theorem Fil.least:∀ {n:Nat} {p v u:List Int},Fil B r p n v→u.length=n→(∀ x∈u,x∈B.kinds)→B.D r (p++u)→lexB u v=false
 | 0,p,_,u,h,hu,_,_=>by rw [List.eq_nil_of_length_eq_zero hu,show _=[] from h];rfl
 | n+1,p,_,[],_,hu,_,_=>by simp at hu
 | n+1,p,_,a::u,⟨y,v,e,h1,h2,h3,h⟩,hu,hk,hd=>by
  have hul:u.length=n:=by simpa using hu
  rw [e,lexB]
  by_cases ha:a=y
  ·rw [if_pos ha]
   subst ha
   exact h.least hul (fun x hx=>hk x (List.mem_cons_of_mem _ hx)) (by rw [List.append_assoc];exact hd)
  ·rw [if_neg ha]
   refine decide_eq_false fun hl=>h3 a (hk a (List.mem_cons_self ..)) hl (d_wild hd (Wld.app (Wld.refl p) ⟨.inl rfl,?_⟩))
   have:=wld_rep u
   rw [hul] at this
   exact this
mutual
theorem lg_cleanW:∀ {n:Nd} {u:List Int},Lg B n u→∃ v,Wld v u∧Lg B n v∧∀ x∈v,0≤x
 | .mk _ nm _ _ _,_,.tok h=>⟨[(B.tok nm:Int)],⟨h,trivial⟩,.tok (.inl rfl),fun x hx=>by rw [List.mem_singleton.1 hx];omega⟩
 | _,_,.ref h hd=>by
  obtain ⟨v,h1,h2,h3⟩:=lg_cleanW hd
  exact ⟨v,h1,.ref h h2,h3⟩
 | _,_,.seq h=>by
  obtain ⟨v,h1,h2,h3⟩:=lgL_cleanW h
  exact ⟨v,h1,.seq h2,h3⟩
 | _,_,.alt hx h=>by
  obtain ⟨v,h1,h2,h3⟩:=lg_cleanW h
  exact ⟨v,h1,.alt hx h2,h3⟩
 | _,_,.opt0=>⟨[],trivial,.opt0,by simp⟩
 | _,_,.opt h=>by
  obtain ⟨v,h1,h2,h3⟩:=lg_cleanW h
  exact ⟨v,h1,.opt h2,h3⟩
 | _,_,.star0=>⟨[],trivial,.star0,by simp⟩
 | _,_,.star h=>by
  obtain ⟨v,h1,h2,h3⟩:=lgP_cleanW h
  exact ⟨v,h1,.star h2,h3⟩
 | _,_,.plus h=>by
  obtain ⟨v,h1,h2,h3⟩:=lgP_cleanW h
  exact ⟨v,h1,.plus h2,h3⟩
 | _,_,.other hk=>⟨[],trivial,.other hk,by simp⟩
theorem lgL_cleanW:∀ {l:List Nd} {u:List Int},LgL B l u→∃ v,Wld v u∧LgL B l v∧∀ x∈v,0≤x
 | _,_,.nil=>⟨[],trivial,.nil,by simp⟩
 | _,_,.cons h hr=>by
  obtain ⟨v,h1,h2,h3⟩:=lg_cleanW h
  obtain ⟨v',k1,k2,k3⟩:=lgL_cleanW hr
  exact ⟨v++v',Wld.app h1 k1,.cons h2 k2,fun x hx=>(List.mem_append.1 hx).elim (h3 x) (k3 x)⟩
theorem lgP_cleanW:∀ {n:Nd} {u:List Int},LgP B n u→∃ v,Wld v u∧LgP B n v∧∀ x∈v,0≤x
 | _,_,.one h=>by
  obtain ⟨v,h1,h2,h3⟩:=lg_cleanW h
  exact ⟨v,h1,.one h2,h3⟩
 | _,_,.more h hr=>by
  obtain ⟨v,h1,h2,h3⟩:=lgP_cleanW h
  obtain ⟨v',k1,k2,k3⟩:=lg_cleanW hr
  exact ⟨v++v',Wld.app h1 k1,.more h2 k2,fun x hx=>(List.mem_append.1 hx).elim (h3 x) (k3 x)⟩
end
theorem Wld.splitR:∀ {p q v:List Int} {y:Int},Wld v (p++y::q)→∃ a x b,v=a++x::b∧Wld a p∧Wld b q
 | [],_,x::b,_,h=>⟨[],x,b,rfl,trivial,h.2⟩
 | [],_,[],_,h=>by cases h
 | _::_,_,[],_,h=>by cases h
 | _::_,_,z::_,_,h=>by
  obtain ⟨a,x,b,rfl,h1,h2⟩:=Wld.splitR h.2
  exact ⟨z::a,x,b,rfl,⟨h.1,h1⟩,h2⟩
theorem d_some (hT:∀ n∈B.bodies,TokIn B n) {p q:List Int} (h:B.D r (p++-2::q)):∃ x∈B.kinds,B.D r (p++x::q):=by
 obtain ⟨n,h1,h2⟩:=d_rg.1 h
 obtain ⟨v,h3,h4,h5⟩:=lg_cleanW h2
 obtain ⟨a,x,b,rfl,h6,h7⟩:=Wld.splitR h3
 have hx:x∈a++x::b:=by simp
 refine ⟨x,?_,d_rg.2 ⟨n,h1,lg_wild h4 _ (Wld.app h6 ⟨.inl rfl,h7⟩)⟩⟩
 rcases lg_toks hT h4 (hT _ (List.mem_of_getElem? h1)) x hx with e | e
 ·have:=h5 x hx
  omega
 ·exact e
end
end Go.Proofs.YtppjmdanckdobaaGreatDoor
