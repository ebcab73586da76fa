/- A book being made, in memory. -/
import Derived.Orders
import Derived.Test.YtppjmdanckdobaaGreatDoorQR26
import Derived.Test.YtppjmdanckdobaaGreatDoorQR43
namespace Go.Proofs.YtppjmdanckdobaaGreatDoor
open Go.RowKit
theorem owns_not {w:World} {b b' T o:Nat} {cs:List Value} {v:Value} (h:Owns w b cs T) (hc:w.cell? ⟨b',o,none⟩=some v) (hv:v∉cs):b'≠b:=by
 rintro rfl
 unfold Owns at h
 simp only [World.cell?,h] at hc
 exact hv (by simpa using List.mem_of_getElem? (by simpa using hc))
theorem cell_butS {F:Nat→Prop} {w w':World} (h:But F w w') {b o:Nat} {v:Value} (hc:w.cell? ⟨b,o,none⟩=some v) (hn:¬F b):w'.cell? ⟨b,o,none⟩=some v:=by
 have hl:=lt_of_cell hc
 rw [World.cell?_of_block (w:=w) (h.block b hl hn)]
 exact hc
theorem cell_mapS {w:World} {b b' o:Nat} {v:Value} {L:List (Value × Value)} (hc:w.cell? ⟨b,o,none⟩=some v) (h':w.heap[b']? = some (mapObj L)):b≠b':=by
 rintro rfl
 unfold mapObj at h'
 simp [World.cell?,h'] at hc
theorem owns_mapS {w:World} {b b' T:Nat} {cs:List Value} {L:List (Value × Value)} (h:Owns w b cs T) (h':w.heap[b']? = some (mapObj L)):b≠b':=by
 rintro rfl
 unfold Owns at h
 unfold mapObj at h'
 rw [h'] at h
 simp at h
theorem row_mapS {w:World} {base e size n b':Nat} {v:Value} {xs:List Value} {L:List (Value × Value)} (h:looseRow w base e size v n xs) (h':w.heap[b']? = some (mapObj L)):∀ k,v.ownBlock=some k→k≠b':=by
 rintro k hk rfl
 obtain ⟨-,-,cur,hc⟩:=row_type h hk
 unfold mapObj at h'
 rw [h'] at hc
 simp at hc
theorem run_name_new {w:World} {b k:Nat} {nm:ByteArray} {l:List (ByteArray × Nat)} (hb:w.heap[b]? = some (mapObj (nmapL l))) (hn:lookS l nm=none) :
  (Instr.mapUpdate 26 (.map (some b)) (.string nm) (.int .i64 (k:Int))).run Tryz.prog w=.ok () (putObj w b (mapObj (nmapL (l++[(nm,k)])))):=by
 have hK:KeyRun Tryz.prog w 9 (.string nm) (fun v=>match v with | .string b=>nm == b | _=>false) (nmapL l):=KeyRun.string Tryz.underlying9 fun x hx=>by
  obtain ⟨y,-,rfl⟩:=List.mem_map.1 hx
  exact ⟨y.1,rfl,rfl⟩
 have hno:∀ x∈nmapL l,(match x.1 with | .string b=>nm == b | _=>false)=false:=by
  have:∀ (l:List (ByteArray × Nat)),lookS l nm=none→∀ x∈l,(nm == x.1)=false:=by
   intro l
   induction l with
   | nil=>intro _ x hx;simp at hx
   | cons y r ih =>
    intro h x hx
    rw [lookS] at h
    split at h
    ·cases h
    ·rename_i hc
     rcases List.mem_cons.1 hx with rfl | hx
     ·simpa using hc
     ·exact ih h x hx
  intro x hx
  obtain ⟨y,hy,rfl⟩:=List.mem_map.1 hx
  exact this l hn y hy
 have h:=run_update_new (x:=.int .i64 (k:Int)) Tryz.underlying26 hb hK hno
 rw [h]
 simp [nmapL]
theorem IntsV.but {F:Nat→Prop} {w w':World} {lim:Nat} {v:Value} {l:List Int} (h:IntsV w lim v l) (hb:But F w w') (hF:∀ b o x,w.cell? ⟨b,o,none⟩=some (.int .i64 x)→¬F b):IntsV w' lim v l:=by
 obtain ⟨a,cap,h1,h2⟩:=h
 refine ⟨a,cap,h1,fun k hk=>?_⟩
 obtain ⟨b,off,e,hl,hc⟩:=h2 k hk
 exact ⟨b,off,e,hl,cell_butS hb hc (hF _ _ _ hc)⟩
def noneVs:Nat→List Value
 | 0=>[]
 | j+1=>noneVs j++[.int .i64 (-1),.slice none 0 0]
theorem noneVs_len:∀ j,(noneVs j).length=j * 2
 | 0=>rfl
 | j+1=>by rw [noneVs,List.length_append,noneVs_len j,List.length_cons,List.length_singleton];omega
theorem noneVs_at:∀ {j k:Nat},k < j→(noneVs j)[k * 2]? = some (.int .i64 (-1))∧(noneVs j)[k * 2+1]? = some (.slice none 0 0)
 | 0,k,h=>absurd h (by omega)
 | j+1,k,h=>by
  rw [noneVs]
  by_cases e:k < j
  ·rw [List.getElem?_append_left (by rw [noneVs_len];omega),List.getElem?_append_left (by rw [noneVs_len];omega)]
   exact noneVs_at e
  ·have:k=j:=by omega
   subst this
   rw [List.getElem?_append_right (by rw [noneVs_len];omega),List.getElem?_append_right (by rw [noneVs_len];omega),noneVs_len,Nat.sub_self,show k * 2+1 - k * 2=1 by omega]
   exact ⟨rfl,rfl⟩
theorem fst_nil (w:World) (lim:Nat):FstAt w lim (some (.int .i64 (-1))) (some (.slice none 0 0)) ⟨-1,[]⟩:=⟨rfl,_,rfl,nil_ints w 0,fun g h=>by simp [Value.ownBlock] at h⟩
theorem firsts_none {w:World} {base lim n:Nat} {v:Value} (h:looseRow w base 91 2 v n (noneVs n)) (hl:∀ g,v.ownBlock=some g→g < lim):∃ a c,v=.slice a n c∧FirstsAt w lim a (List.replicate n ⟨-1,[]⟩):=by
 rcases h.2 with ⟨rfl,rfl⟩ | ⟨g,cap,cur,rfl,-⟩
 ·exact ⟨_,_,rfl,fun k hk=>by simp at hk⟩
 ·refine ⟨_,_,rfl,fun k hk=>⟨g,0,rfl,hl g rfl,?_⟩⟩
  rw [List.length_replicate] at hk
  obtain ⟨h1,h2⟩:=noneVs_at hk
  have hc:=looseRow_cells h (g:=g) rfl
  rw [Nat.zero_add,hc _ _ h1,hc _ _ h2,List.getElem_replicate]
  exact fst_nil w lim
structure BookFp (w:World) (bk:Nat) (V:BV) (B:Bk):Prop where
 at_:BookAt w w.heap.size bk V B
 fp:NodesFp w (fun b=>b < w.heap.size∧b≠bk) V.ba 0 B.bodies
theorem BookFp.grew {w w':World} {bk:Nat} {V:BV} {B:Bk} (h:BookFp w bk V B) (hg:Grew w w'):BookFp w' bk V B :=
 ⟨(h.at_.keep hg).mono hg.size (Nat.le_refl _),h.fp.keep fun b hb=>⟨⟨Nat.lt_of_lt_of_le hb.1 hg.size,hb.2⟩,hg.block b hb.1⟩⟩
abbrev V2:=Value × Value
def v2 (u:V2):List Value:=[u.1,u.2]
theorem v2_len (u:V2):(v2 u).length=2:=rfl
theorem fmap_set {α β:Type} (f:α→List β) (k:Nat) (hk:∀ x,(f x).length=k):∀ (l:List α) (i j:Nat) (x y:α) (v:β),l[i]? = some x→j < k→f y=(f x).set j v→(l.flatMap f).set (i * k+j) v=(l.set i y).flatMap f
 | [],_,_,_,_,_,h,_,_=>by simp at h
 | z::l,0,j,x,y,v,h,hj,he=>by
  simp only [List.getElem?_cons_zero,Option.some.injEq] at h
  subst h
  rw [List.flatMap_cons,Nat.zero_mul,Nat.zero_add,List.set_append_left _ _ (by rw [hk];exact hj),List.set_cons_zero,List.flatMap_cons,he]
 | z::l,i+1,j,x,y,v,h,hj,he=>by
  simp only [List.getElem?_cons_succ] at h
  rw [List.flatMap_cons,List.set_append_right _ _ (by rw [hk,Nat.succ_mul];omega),hk,show (i+1) * k+j - k=i * k+j by rw [Nat.succ_mul];omega,fmap_set f k hk l i j x y v h hj he,List.set_cons_succ,List.flatMap_cons]
def FstRow (w:World) (B:Bk) (i:Nat) (L:List V2):Prop:=L.length=B.bodies.length∧∀ k,k < i→∀ n,B.bodies[k]? = some n→∃ u,L[k]? = some (.int .i64 (B.firstN n).long,u)∧looseRow w 0 3 1 u (B.firstN n).w.length (intVs (B.firstN n).w)
theorem FstRow.but {F:Nat→Prop} {w w':World} {B:Bk} {i:Nat} {L:List V2} (h:FstRow w B i L) (hb:But F w w') (hF:∀ b,(∃ cur,w.heap[b]? = some (.cells cur 3 (0,0)))→¬F b):FstRow w' B i L :=
 ⟨h.1,fun k hk n hn=>by
  obtain ⟨u,h1,h2⟩:=h.2 k hk n hn
  exact ⟨u,h1,hb.row h2 fun q hq=>hF q (row_type h2 hq).2.2⟩⟩
theorem FstRow.next {w:World} {B:Bk} {i:Nat} {L:List V2} {n:Nd} {u:Value} (h:FstRow w B i L) (hn:B.bodies[i]? = some n) (hu:looseRow w 0 3 1 u (B.firstN n).w.length (intVs (B.firstN n).w)):FstRow w B (i+1) (L.set i (.int .i64 (B.firstN n).long,u)):=by
 refine ⟨by rw [List.length_set];exact h.1,fun k hk m hm=>?_⟩
 have hi:=(List.getElem?_eq_some_iff.1 hn).1
 by_cases e:k=i
 ·subst e
  rw [hn] at hm
  cases hm
  exact ⟨u,List.getElem?_set_self (by rw [h.1];exact hi),hu⟩
 ·obtain ⟨x,h1,h2⟩:=h.2 k (by omega) m hm
  exact ⟨x,by rw [List.getElem?_set_ne (fun x=>e x.symm)];exact h1,h2⟩
theorem BookFp.next {w:World} {bk gn n:Nat} {V:BV} {B:Bk} {L:List V2} (h:BookFp w bk V B) (hn:B.bodies.length=n) (ho:Owns w gn (L.flatMap v2) 91) (hL:FstRow w B n L) :
  BookFp (w.setCell ⟨bk,4,none⟩ (.slice (some ⟨gn,0,none⟩) n n)) bk { V with fa:=some ⟨gn,0,none⟩,fc:=n } B.step:=by
 have hb:=set_but (i:=4) (v:=.slice (some ⟨gn,0,none⟩) n n) h.at_.box
 have hbox:=h.at_.box.set 4 (.slice (some ⟨gn,0,none⟩) n n)
 have hz:(w.setCell ⟨bk,4,none⟩ (.slice (some ⟨gn,0,none⟩) n n)).heap.size=w.heap.size:=by simp
 have hnot:∀ b o x,w.cell? ⟨b,o,none⟩=some (.int .i64 x)→¬ b=bk:=fun b o x hc=>by
  obtain ⟨ka,kc,hkv,-⟩:=h.at_.kinds
  refine owns_not h.at_.box hc ?_
  rw [hkv]
  simp
 have hfp:NodesFp (w.setCell ⟨bk,4,none⟩ (.slice (some ⟨gn,0,none⟩) n n)) (fun b=>b < (w.setCell ⟨bk,4,none⟩ (.slice (some ⟨gn,0,none⟩) n n)).heap.size∧b≠bk) V.ba 0 B.bodies :=
  h.fp.keep fun b hbb=>⟨⟨by rw [hz];exact hbb.1,hbb.2⟩,hb.block b hbb.1 hbb.2⟩
 have hmap:∀ {q:Nat} {l:List (Value × Value)},w.heap[q]? = some (mapObj l)→(w.setCell ⟨bk,4,none⟩ (.slice (some ⟨gn,0,none⟩) n n)).heap[q]? = some (mapObj l):=fun {q l} hq=>by
  rw [hb.block q (Array.getElem?_eq_some_iff.1 hq).1 fun e=>owns_mapS h.at_.box hq e.symm]
  exact hq
 have hg:gn≠bk:=type_ne (owns_type ho) (owns_type h.at_.box) (by decide)
 refine ⟨⟨Nat.le_refl _,by rw [hz];exact h.at_.blk,?_,hmap h.at_.rules,hmap h.at_.tokens,by rw [hz];exact h.at_.rlo,by rw [hz];exact h.at_.kinds.but hb hnot,hfp.at fun b hb=>hb.1,?_,?_⟩,hfp⟩
 ·have e:B.step.firsts.length=n:=by
   show (B.bodies.map _).length=n
   rw [List.length_map,hn]
  show Owns _ bk [.map (some V.rm),.map (some V.tm),V.kv,.slice V.ba B.bodies.length V.bc,.slice (some ⟨gn,0,none⟩) B.step.firsts.length n] 89
  rw [e]
  exact hbox
 ·intro k hk
  have hk':k < B.bodies.length:=by
   have:k < (B.bodies.map fun n=>B.firstN n).length:=hk
   simpa using this
  have hkn:B.bodies[k]? = some B.bodies[k]:=List.getElem?_eq_getElem hk'
  obtain ⟨u,h1,h2⟩:=hL.2 k (by omega) _ hkn
  have hf:B.step.firsts[k]=B.firstN B.bodies[k]:=by
   show (B.bodies.map fun n=>B.firstN n)[k]'(by simpa using hk')=_
   simp
  have c0:=fmap_get v2 2 v2_len L k 0 (by omega)
  have c1:=fmap_get v2 2 v2_len L k 1 (by omega)
  rw [h1] at c0 c1
  have ho':=hb.owns ho hg
  refine ⟨gn,0,rfl,by rw [hz];exact ho.lt,?_⟩
  rw [Nat.zero_add,ho'.cell_at (i:=k * 2) (v:=.int .i64 (B.firstN B.bodies[k]).long) (by simpa [v2] using c0),ho'.cell_at (i:=k * 2+1) (v:=u) (by simpa [v2] using c1),hf]
  refine ⟨rfl,u,rfl,hb.row h2 fun q hq=>type_ne (row_type h2 hq).2.2 (owns_type h.at_.box) (by decide),fun g hgu=>by rw [hz];exact (row_type h2 hgu).2.1⟩
 ·show B.bodies.length≤60∧(B.bodies.map _).length=B.bodies.length
  rw [List.length_map]
  exact ⟨h.at_.few.1,rfl⟩
theorem loose_set {w:World} {base e size n g cap i:Nat} {v:Value} {xs:List Value} (h:looseRow w base e size (.slice (some ⟨g,0,none⟩) n cap) n xs) (hi:i < xs.length) :
  looseRow (w.setCell ⟨g,i,none⟩ v) base e size (.slice (some ⟨g,0,none⟩) n cap) n (xs.set i v)∧But (fun q=>q=g) w (w.setCell ⟨g,i,none⟩ v)∧w.frozen? ⟨g,i,none⟩=false∧w.cell? ⟨g,i,none⟩=some xs[i]∧g < w.heap.size:=by
 have hc:=looseRow_cells h (g:=g) rfl i _ (List.getElem?_eq_getElem hi)
 rcases h.2 with ⟨e,-⟩ | ⟨g',cap',cur,e,k2,k3,k4,k5,k6,k7⟩
 ·cases e
 ·cases e
  have ho:Owns w g cur.toList e:=by unfold Owns;rw [k3]
  have hs:=ho.set i v
  refine ⟨⟨by rw [List.length_set];exact h.1,.inr ⟨g,cap,(cur.toList.set i v).toArray,rfl,k2,hs,k4,k5,by simpa using k6,?_⟩⟩,set_but ho,ho.free i,hc,ho.lt⟩
  show (cur.toList.set i v).take (n * size)=xs.set i v
  rw [List.take_set,k7]
theorem loose_set5 {w:World} {base g cap j:Nat} {xs:List Value} {z0 z1 z2 z3 z4:Value} (h:looseRow w base 80 5 (.slice (some ⟨g,0,none⟩) (j+1) cap) (j+1) (xs++[z0,z1,z2,z3,z4])) (hx:xs.length=j * 5) (y0 y1 y2 y3 y4:Value) :
  looseRow (((((w.setCell ⟨g,j * 5,none⟩ y0).setCell ⟨g,j * 5+1,none⟩ y1).setCell ⟨g,j * 5+2,none⟩ y2).setCell ⟨g,j * 5+3,none⟩ y3).setCell ⟨g,j * 5+4,none⟩ y4) base 80 5 (.slice (some ⟨g,0,none⟩) (j+1) cap) (j+1) (xs++[y0,y1,y2,y3,y4]) ∧
  But (fun q=>q=g) w (((((w.setCell ⟨g,j * 5,none⟩ y0).setCell ⟨g,j * 5+1,none⟩ y1).setCell ⟨g,j * 5+2,none⟩ y2).setCell ⟨g,j * 5+3,none⟩ y3).setCell ⟨g,j * 5+4,none⟩ y4):=by
 have hl:∀ (ys:List Value),ys.length=5→(xs++ys).length=j * 5+5:=fun ys hy=>by rw [List.length_append,hx,hy]
 have hset:∀ (ys:List Value) (i:Nat) (v:Value),(xs++ys).set (j * 5+i) v=xs++ys.set i v:=fun ys i v=>by
  rw [List.set_append_right _ _ (by rw [hx];omega),hx,show j * 5+i - j * 5=i by omega]
 obtain ⟨h1,b1,-⟩:=loose_set (i:=j * 5+0) (v:=y0) h (by rw [hl _ rfl];omega)
 rw [hset] at h1
 obtain ⟨h2,b2,-⟩:=loose_set (i:=j * 5+1) (v:=y1) h1 (by rw [hl _ rfl];omega)
 rw [hset] at h2
 obtain ⟨h3,b3,-⟩:=loose_set (i:=j * 5+2) (v:=y2) h2 (by rw [hl _ rfl];omega)
 rw [hset] at h3
 obtain ⟨h4,b4,-⟩:=loose_set (i:=j * 5+3) (v:=y3) h3 (by rw [hl _ rfl];omega)
 rw [hset] at h4
 obtain ⟨h5,b5,-⟩:=loose_set (i:=j * 5+4) (v:=y4) h4 (by rw [hl _ rfl];omega)
 rw [hset] at h5
 exact ⟨h5,(((b1.trans b2 fun _ _ e=>e).trans b3 fun _ _ e=>e).trans b4 fun _ _ e=>e).trans b5 fun _ _ e=>e⟩
theorem wpOp_at {P:Program} {ops:Array Oper} {Q:Exit→Act→World→Prop} {i:Nat} {K:Act→World→Prop} {a:Act} {w:World} {o:Oper} (hi:ops[i]? = some o) (hw:Region.wanted o (yielded ops a.tmps)=true) (h:o.wp P a w K Q):wpOp P ops Q i K a w:=by
 unfold wpOp
 rw [hi]
 simp only [hw,if_true]
 exact .inl h
def ZeR (lo:Nat) (v:Value) (w:World):Prop:=∃ t,v=.slice (some ⟨t,0,none⟩) 1 1∧lo≤t∧Owns w t [.int .u8 0,.string { data:=#[] },.string { data:=#[] },.slice none 0 0,.slice none 0 0] 80
theorem ZeR.keep {lo:Nat} {v:Value} {w w':World} (hg:Grew w w') (h:ZeR lo v w):ZeR lo v w':=by
 obtain ⟨t,h1,h2,h3⟩:=h
 exact ⟨t,h1,h2,h3.keep hg⟩
theorem wp_store {P:Program} {o:Oper} {a:Act} {w w':World} {K:Act→World→Prop} {Q:Exit→Act→World→Prop} {t:TypeId} {x y:Operand} (ho:o.op=.store t x y) (p v:Value) (hp:a.eval x=p) (hv:a.eval y=v) (hr:(Instr.storeAt t p v).run P w=.ok () w') (hk:K (a.put o.dst undef) w'):o.wp P a w K Q:=by
 subst hp
 subst hv
 unfold Oper.wp execOp
 simp only [ho,Sem.run_bind,hr,Result.andThen_ok,Sem.run_pure]
 exact hk
theorem run_store_node {w:World} {g k:Nat} {z0 z1 z2 z3 z4:Value} (h0:w.cell? ⟨g,k,none⟩=some z0) (h1:w.cell? ⟨g,k+1,none⟩=some z1) (h2:w.cell? ⟨g,k+2,none⟩=some z2) (h3:w.cell? ⟨g,k+3,none⟩=some z3) (h4:w.cell? ⟨g,k+4,none⟩=some z4) (hf:∀ o,w.frozen? ⟨g,o,none⟩=false)
  (y0:Int) (y1 y2:ByteArray) (y3:Option Addr) (y4 y5:Nat) (y6:Option Addr) (y7 y8:Nat) :
  (Instr.storeAt 80 (.pointer (some ⟨g,k,none⟩)) (.agg #[.int .u8 y0,.string y1,.string y2,.slice y3 y4 y5,.slice y6 y7 y8])).run Tryz.prog w=.ok () (((((w.setCell ⟨g,k,none⟩ (.int .u8 y0)).setCell ⟨g,k+1,none⟩ (.string y1)).setCell ⟨g,k+2,none⟩ (.string y2)).setCell ⟨g,k+3,none⟩ (.slice y3 y4 y5)).setCell ⟨g,k+4,none⟩ (.slice y6 y7 y8)):=by
 have f0:=hf k
 have f1:=hf (k+1)
 have f2:=hf (k+2)
 have f3:=hf (k+3)
 have f4:=hf (k+4)
 clear hf
 go_simp
theorem run_store_sl {w:World} {b i:Nat} {z:Value} (h0:w.cell? ⟨b,i,none⟩=some z) (hf:w.frozen? ⟨b,i,none⟩=false) (a:Option Addr) (n c:Nat) :
  (Instr.storeAt 27 (.pointer (some ⟨b,i,none⟩)) (.slice a n c)).run Tryz.prog w=.ok () (w.setCell ⟨b,i,none⟩ (.slice a n c)):=by
 go_simp
theorem info_fst:(Tryz.prog.info? 91).map (fun i=>(i.zero,i.size,i.bytes))=some (some (.agg #[.int .i64 0,.slice none 0 0]),2,32):=by kernel_rfl
theorem make_fsts (n:Nat) (hn:n≤1000) (u:World):(Instr.makeSlice 87 (.int .i64 (n:Int)) (.int .i64 (n:Int))).run Tryz.prog u =
  .ok (.slice (some ⟨u.heap.size,0,none⟩) n n) (u.alloc (.cells ((List.replicate n ((.int .i64 0,.slice none 0 0):V2)).flatMap v2).toArray 91)):=by
 obtain ⟨i0,hi,hz0,hz1,hz2⟩:=info_parts info_fst
 have h:=run_make (P:=Tryz.prog) u 87 91 i0 (.agg #[.int .i64 0,.slice none 0 0]) Tryz.underlying87 hi hz0 .i64 .i64 (n:Int) (n:Int) (by omega) (Int.le_refl _) (by rw [hz2];omega) (by omega)
 rw [Int.toNat_natCast,hz1] at h
 rw [h]
 have:madeCells (Value.agg #[.int .i64 0,.slice none 0 0]).cells (n * 2)=((List.replicate n ((.int .i64 0,.slice none 0 0):V2)).flatMap v2).toArray:=by
  unfold madeCells
  apply Array.ext
  ·have:=fmap_len v2 2 v2_len (List.replicate n ((.int .i64 0,.slice none 0 0):V2))
   rw [List.length_replicate] at this
   rw [show ((List.replicate n ((.int .i64 0,.slice none 0 0):V2)).flatMap v2).toArray.size=n * 2 from this]
   simp
  ·intro k h1 h2
   have hk:k < n * 2:=by simpa using h1
   have e:=fmap_get v2 2 v2_len (List.replicate n ((.int .i64 0,.slice none 0 0):V2)) (k / 2) (k % 2) (Nat.mod_lt _ (by omega))
   rw [show k / 2 * 2+k % 2=k by omega,List.getElem?_replicate,if_pos (by omega)] at e
   have h3:((List.replicate n ((.int .i64 0,.slice none 0 0):V2)).flatMap v2).toArray[k]? = some (if k % 2=0 then .int .i64 0 else .slice none 0 0):=by
    rw [List.getElem?_toArray,e]
    rcases (by omega:k % 2=0∨k % 2=1) with hm | hm<;>simp [v2,hm]
   have h4:=(Array.getElem?_eq_some_iff.1 h3).2
   rw [h4]
   rcases (by omega:k % 2=0∨k % 2=1) with hm | hm<;>simp [Value.cells,hm]
 rw [this]
theorem v2_set2 {L:List V2} {i:Nat} (hi:i < L.length) (a b:Value):((L.flatMap v2).set (i * 2) a).set (i * 2+1) b=(L.set i (a,b)).flatMap v2:=by
 have hx:L[i]? = some L[i]:=List.getElem?_eq_getElem hi
 have h1:=fmap_set v2 2 v2_len L i 0 L[i] (a,L[i].2) a hx (by omega) rfl
 rw [Nat.add_zero] at h1
 have h2:=fmap_set v2 2 v2_len (L.set i (a,L[i].2)) i 1 (a,L[i].2) (a,b) b (List.getElem?_set_self hi) (by omega) rfl
 rw [h1,h2,List.set_set]
theorem v2_cells {L:List V2} {i:Nat} (hi:i < L.length):(L.flatMap v2)[i * 2]? = some L[i].1∧(L.flatMap v2)[i * 2+1]? = some L[i].2:=by
 have h0:=fmap_get v2 2 v2_len L i 0 (by omega)
 have h1:=fmap_get v2 2 v2_len L i 1 (by omega)
 rw [List.getElem?_eq_getElem hi] at h0 h1
 rw [Nat.add_zero] at h0
 exact ⟨h0,h1⟩
end Go.Proofs.YtppjmdanckdobaaGreatDoor
