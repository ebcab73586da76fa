/- A map that the call has made and out of which nothing is taken, known whole: its entries in order; a walk over one that grows. -/
import Derived.Maps.RangeRun
import Derived.Laws.StructEq
import Derived.Maps.Keyed
import Derived.Test.YtppjmdanckdobaaGreatDoorRows
import Derived.WalkKit
import Derived.Deep.AppendLies
import Derived.Deep.CutBlock
import Derived.Deep.DeepCutAuto
import Derived.Deep.LoopGhost
import Derived.Deep.RegionLaw
import Derived.Test.YtppjmdanckdobaaGreatDoorQR3
import Derived.Test.YtppjmdanckdobaaGreatDoorQR1
namespace Go.Proofs.YtppjmdanckdobaaGreatDoor
open Go.RowKit
def entsAt (n:Nat):List (Value × Value)→List MapEntry
 | []=>[]
 | x::r=>⟨x.1,x.2,n⟩::entsAt (n+1) r
def mapObj (L:List (Value × Value)):Obj:=.map (entsAt 0 L).toArray L.length
theorem entsAt_length (L:List (Value × Value)):∀ n,(entsAt n L).length=L.length:=by
 induction L with
 | nil=>intro n;rfl
 | cons x r ih=>intro n;simp [entsAt,ih]
theorem entsAt_get (L:List (Value × Value)):∀ n i (h:i < L.length),(entsAt n L)[i]'(by rw [entsAt_length];exact h)=⟨L[i].1,L[i].2,n+i⟩:=by
 induction L with
 | nil=>intro n i h;exact absurd h (by simp)
 | cons x r ih =>
  intro n i h
  cases i with
  | zero=>rfl
  | succ i =>
   simp only [entsAt,List.getElem_cons_succ]
   rw [ih (n+1) i (by simpa using h)]
   congr 1
   omega
theorem entsAt_snoc (L:List (Value × Value)) (x:Value × Value):∀ n,entsAt n (L++[x])=entsAt n L++[⟨x.1,x.2,n+L.length⟩]:=by
 induction L with
 | nil=>intro n;rfl
 | cons y r ih =>
  intro n
  simp only [List.cons_append,entsAt,ih,List.length_cons]
  rw [show n+1+r.length=n+(r.length+1) by omega]
theorem entsAt_mem {L:List (Value × Value)} {n:Nat} {e:MapEntry} (h:e∈entsAt n L):∃ i,∃ h:i < L.length,e=⟨L[i].1,L[i].2,n+i⟩:=by
 obtain ⟨i,hi,rfl⟩:=List.mem_iff_getElem.1 h
 rw [entsAt_length] at hi
 exact ⟨i,hi,entsAt_get L n i hi⟩
def fnd (f:Value→Bool):List (Value × Value)→Nat→Option (Nat × Value)
 | [],_=>none
 | x::r,i=>if f x.1 then some (i,x.2) else fnd f r (i+1)
theorem fnd_none {f:Value→Bool}:∀ {L:List (Value × Value)} {i:Nat},(∀ x∈L,f x.1=false)→fnd f L i=none
 | [],_,_=>rfl
 | x::r,i,h=>by
  rw [fnd,h x (by simp)]
  exact fnd_none fun y hy=>h y (by simp [hy])
theorem fnd_some {f:Value→Bool}:∀ {L:List (Value × Value)} {i:Nat},(∃ x∈L,f x.1=true)→∃ j x,fnd f L i=some (j,x.2)∧x∈L∧f x.1=true
 | [],_,h=>by obtain ⟨x,hx,_⟩:=h;cases hx
 | y::r,i,h=>by
  by_cases hy:f y.1=true
  ·exact ⟨i,y,by rw [fnd,if_pos hy],by simp,hy⟩
  ·obtain ⟨x,hx,hf⟩:=h
   rcases List.mem_cons.1 hx with rfl | hx
   ·exact absurd hf hy
   ·obtain ⟨j,z,h1,h2,h3⟩:=fnd_some (L:=r) (i:=i+1) ⟨x,hx,hf⟩
    exact ⟨j,z,by rw [fnd,if_neg hy];exact h1,by simp [h2],h3⟩
section
variable {P:Program} {w:World}
theorem asking_run {kt:TypeId} {v:Value} {f:Value→Bool}:∀ (L:List (Value × Value)) (n i:Nat),(∀ x∈L,(Op.equal kt v x.1).run P w=.ok (f x.1) w) →
  (Instr.findAsking kt v (entsAt n L) i).run P w=.ok (fnd f L i) w
 | [],_,_,_=>rfl
 | x::r,n,i,h=>by
  have hx:=h x (by simp)
  simp only [entsAt,Instr.findAsking,fnd,Sem.run_bind,hx,Result.andThen_ok]
  cases hf:f x.1
  ·simp only [Bool.false_eq_true,if_false]
   exact asking_run r (n+1) (i+1) fun y hy=>h y (by simp [hy])
  ·simp
structure KeyRun (P:Program) (w:World) (kt:TypeId) (v:Value) (f:Value→Bool) (L:List (Value × Value)):Prop where
 check:∀ e,(Instr.checkKey e 10000 kt v).run P w=.ok () w
 find:(Instr.findKey kt v (entsAt 0 L)).run P w=.ok (fnd f L 0) w
theorem findNow_struct {fs:Array Field} {v:Value}:∀ (es:List MapEntry),es≠[]→Instr.findNow (.struct fs) v es 0=none
 | [],h=>absurd rfl h
 | e::r,_=>by simp [Instr.findNow,Instr.sameNow]
theorem KeyRun.struct {kt:TypeId} {fs:Array Field} {v:Value} {f:Value→Bool} {L:List (Value × Value)} (ht:P.underlying kt=some (.struct fs)) (hc:∀ e,(Instr.checkKey e 10000 kt v).run P w=.ok () w)
  (hq:∀ x∈L,(Op.equal kt v x.1).run P w=.ok (f x.1) w):KeyRun P w kt v f L:=by
 refine ⟨hc,?_⟩
 unfold Instr.findKey
 rw [Sem.run_bind,run_underlying ht,Result.andThen_ok]
 cases L with
 | nil=>rfl
 | cons x r =>
  rw [findNow_struct _ (by simp [entsAt])]
  exact asking_run (x::r) 0 0 hq
theorem findNow_int {k:IntKind} {a:Int} {f:Value→Bool}:∀ (L:List (Value × Value)) (n i:Nat),(∀ x∈L,∃ b,x.1=.int k b∧f (.int k b)=(a == b))→Instr.findNow (.int k) (.int k a) (entsAt n L) i=some (fnd f L i)
 | [],_,_,_=>rfl
 | x::r,n,i,h=>by
  obtain ⟨b,hb,hf⟩:=h x (by simp)
  have ih:=findNow_int (k:=k) (a:=a) r (n+1) (i+1) fun y hy=>h y (by simp [hy])
  rw [entsAt,Instr.findNow,fnd,hb,hf]
  cases hab:(a == b)
  ·simp only [Instr.sameNow,if_true,hab,Bool.false_eq_true,if_false]
   exact ih
  ·simp only [Instr.sameNow,if_true,hab]
theorem KeyRun.int {kt:TypeId} {k:IntKind} {a:Int} {f:Value→Bool} {L:List (Value × Value)} (ht:P.underlying kt=some (.int k)) (hL:∀ x∈L,∃ b,x.1=.int k b∧f (.int k b)=(a == b)) :
  KeyRun P w kt (.int k a) f L:=by
 refine ⟨fun e=>?_,?_⟩
 ·rw [show (10000:Nat)=9999+1 from rfl]
  unfold Instr.checkKey
  simp only [Sem.run_bind,run_underlying ht,Result.andThen]
  rfl
 ·unfold Instr.findKey
  rw [Sem.run_bind,run_underlying ht,Result.andThen_ok]
  simp only [findNow_int L 0 0 hL]
  rfl
theorem run_map_of {b:Nat} {L:List (Value × Value)} (hb:w.heap[b]? = some (mapObj L)):(getObj b).run P w=.ok (mapObj L) w:=by
 unfold mapObj at *
 simp [getObj,Sem.run,hb]
def putObj (w:World) (b:Nat) (o:Obj):World:={ w with heap:=w.heap.setIfInBounds b o }
theorem putObj_same {b:Nat} (hb:b < w.heap.size) (o:Obj):(putObj w b o).heap[b]? = some o:=by simp [putObj,hb]
theorem putObj_other {b i:Nat} (h:i≠b) (o:Obj):(putObj w b o).heap[i]? = w.heap[i]?:=by
 unfold putObj
 simp [Ne.symm h]
theorem putObj_size (b:Nat) (o:Obj):(putObj w b o).heap.size=w.heap.size:=by simp [putObj]
theorem run_update_new {t kt e:TypeId} {b:Nat} {v x:Value} {f:Value→Bool} {L:List (Value × Value)} (ht:P.underlying t=some (.map kt e)) (hb:w.heap[b]? = some (mapObj L)) (hK:KeyRun P w kt v f L) (hn:∀ x∈L,f x.1=false) :
  (Instr.mapUpdate t (.map (some b)) v x).run P w=.ok () (putObj w b (mapObj (L++[(v,x)]))):=by
 have hg:=run_map_of (P:=P) hb
 unfold mapObj at hg
 have hf:=hK.find
 rw [fnd_none hn] at hf
 have hb':=hb
 unfold mapObj at hb'
 simp only [Instr.mapUpdate,Sem.run_bind,run_underlying ht,Result.andThen_ok,hg,hK.check,hf,setObj,Sem.run,hb']
 unfold putObj mapObj
 rw [entsAt_snoc]
 simp
def IterAt (w:World) (r b since:Nat) (seen:List Nat) (last:Nat):Prop:=w.heap[r]? = some (.mapIter (some b) since seen.toArray last)
theorem run_range_mapObj {t kt e:TypeId} {b:Nat} {L:List (Value × Value)} (ht:P.underlying t=some (.map kt e)) (hb:w.heap[b]? = some (mapObj L)) :
  (Instr.range t (.map (some b))).run P w=.ok (.pointer (some ⟨w.heap.size,0,none⟩)) (w.alloc (.mapIter (some b) L.length #[] L.length)):=by
 unfold mapObj at hb
 exact run_range_map w t kt e b _ _ ht hb
theorem run_next_mapObj {r b since last:Nat} {seen:List Nat} {L:List (Value × Value)} (hr:IterAt w r b since seen last) (hb:w.heap[b]? = some (mapObj L)) (hl:seen≠[]→1≤last) (hs:since≤L.length) (ty:TypeId) :
  ((∀ i,i < since→i∈seen)∧∃ w1,(w1=w∨w1=w.drew)∧(Instr.next (.pointer (some ⟨r,0,none⟩)) false ty).run P w=.ok (.tuple #[.bool false]) w1) ∨
  ∃ i,∃ h:i < L.length,i∉seen∧∃ w1,(w1=w∨w1=w.drew)∧(Instr.next (.pointer (some ⟨r,0,none⟩)) false ty).run P w=.ok (.tuple #[.bool true,L[i].1,L[i].2]) (putObj w1 r (.mapIter (some b) since (seen++[i]).toArray L.length)):=by
 unfold IterAt at hr
 have hb':=hb
 unfold mapObj at hb'
 have htest:(!seen.toArray.isEmpty&&!(entsAt 0 L).toArray.isEmpty&&(entsAt 0 L).toArray.all (fun x=>decide (x.born≥last)))=false:=by
  cases seen with
  | nil=>simp
  | cons s0 sr =>
   have h1:=hl (by simp)
   cases L with
   | nil=>simp [entsAt]
   | cons x rest =>
    have:((entsAt 0 (x::rest)).toArray.all (fun x=>decide (x.born≥last)))=false:=by
     rw [Array.all_eq_false']
     refine ⟨⟨x.1,x.2,0⟩,by simp [entsAt],?_⟩
     simp
     omega
    rw [this,Bool.and_false]
 simp only [Instr.next,getObj,Sem.run_bind,Sem.run,hr,hb',Result.andThen,htest,Bool.false_eq_true,if_false]
 have hmem:∀ x,x∈Array.filter (fun e=>!seen.toArray.contains e.born) (entsAt 0 L).toArray↔∃ i,∃ h:i < L.length,i∉seen∧x=⟨L[i].1,L[i].2,i⟩:=by
  intro x
  constructor
  ·intro hx
   have hx':=Array.mem_filter.1 hx
   have h1:x∈entsAt 0 L:=by simpa using hx'.1
   obtain ⟨i,hi,rfl⟩:=entsAt_mem h1
   refine ⟨i,hi,?_,by simp⟩
   have:=hx'.2
   simpa using this
  ·rintro ⟨i,hi,hs',rfl⟩
   refine Array.mem_filter.2 ⟨?_,by simpa using hs'⟩
   have h1:=List.getElem_mem (l:=entsAt 0 L) (n:=i) (by rw [entsAt_length];exact hi)
   rw [entsAt_get L 0 i hi,Nat.zero_add] at h1
   simpa using h1
 generalize Array.filter (fun e=>!seen.toArray.contains e.born) (entsAt 0 L).toArray=A at hmem ⊢
 have hold:∀ x,x∈Array.filter (fun x=>decide (x.born < since)) A↔x∈A∧x.born < since:=fun x=>by simp
 have hnew:∀ x,x∈Array.filter (fun x=>decide (x.born≥since)) A↔x∈A∧since≤x.born:=fun x=>by simp
 generalize Array.filter (fun x=>decide (x.born < since)) A=O at hold ⊢
 generalize Array.filter (fun x=>decide (x.born≥since)) A=Nw at hnew ⊢
 generalize hC:(if O.isEmpty=true then #[none] else #[])++Array.map some (O++Nw)=C
 have hCm:∀ c,c∈C→(c=none∧O=#[])∨∃ x,c=some x∧x∈A:=by
  intro c hc
  rw [← hC] at hc
  rcases Array.mem_append.1 hc with hc | hc
  ·left
   by_cases hO:O.isEmpty=true
   ·rw [if_pos hO] at hc
    exact ⟨by simpa using hc,by simpa using hO⟩
   ·rw [if_neg hO] at hc
    simp at hc
  ·right
   obtain ⟨x,hx,rfl⟩:=Array.mem_map.1 hc
   refine ⟨x,rfl,?_⟩
   rcases Array.mem_append.1 hx with hx | hx
   ·exact ((hold x).1 hx).1
   ·exact ((hnew x).1 hx).1
 have hpos:0 < C.size:=by
  rw [← hC]
  by_cases hO:O.isEmpty=true
  ·simp [hO]
   omega
  ·have:O.size≠0:=fun h=>hO (by simp [Array.isEmpty,h])
   simp
   omega
 have hch:∃ (j:Nat) (w1:World),j < C.size∧(w1=w∨w1=w.drew)∧(choose (Question.mapNext C.size)).run P w=.ok j w1:=by
  by_cases hf:C.size≤1
  ·exact ⟨0,w,hpos,Or.inl rfl,by simp [choose,Sem.run,Question.forced,hf]⟩
  ·exact ⟨_,w.drew,Nat.mod_lt _ (by omega),Or.inr rfl,by
    simp only [choose,Sem.run,Question.forced,decide_eq_true_eq,hf,if_false,Question.cut]
    rfl⟩
 obtain ⟨j,w1,hj,hal,hrun⟩:=hch
 rw [hrun]
 simp only
 have hCj:C[j]? = some C[j]:=Array.getElem?_eq_getElem hj
 rcases hCm C[j] (Array.getElem_mem hj) with ⟨hc,hO⟩ | ⟨x,hc,hx⟩
 ·left
  refine ⟨fun i hi=>?_,w1,hal,?_⟩
  ·by_cases hs':i∈seen
   ·exact hs'
   ·have hiL:i < L.length:=by omega
    have h1:=(hold ⟨L[i].1,L[i].2,i⟩).2 ⟨(hmem _).2 ⟨i,hiL,hs',rfl⟩,hi⟩
    rw [hO] at h1
    simp at h1
  ·rw [hCj,hc]
   rfl
 ·right
  obtain ⟨i,hi,hns,rfl⟩:=(hmem x).1 hx
  refine ⟨i,hi,hns,w1,hal,?_⟩
  have hr1:w1.heap[r]? = some (.mapIter (some b) since seen.toArray last):=by rcases hal with rfl | rfl<;>exact hr
  rw [hCj,hc]
  simp only [setObj,Sem.run_bind,Sem.run,hr1,Result.andThen]
  unfold putObj
  simp
theorem run_entry_mapObj {r b since:Nat} {seen:List Nat} {L:List (Value × Value)} {i:Nat} (hi:i < L.length) (hr:IterAt w r b since (seen++[i]) L.length) (hb:w.heap[b]? = some (mapObj L)) :
  (Instr.entry (.pointer (some ⟨r,0,none⟩))).run P w=.ok (.tuple #[L[i].1,L[i].2]) w:=by
 unfold IterAt at hr
 have hb':=hb
 unfold mapObj at hb'
 have hf:∀ (L:List (Value × Value)) (n i:Nat) (h:i < L.length),List.find? (fun x=>x.born == n+i) (entsAt n L)=some ⟨L[i].1,L[i].2,n+i⟩:=by
  intro L
  induction L with
  | nil=>intro n i h;exact absurd h (by simp)
  | cons x rest ih =>
   intro n i h
   cases i with
   | zero=>simp [entsAt]
   | succ i =>
    rw [entsAt,List.find?_cons_of_neg (by simp)]
    have:=ih (n+1) i (by simpa using h)
    rw [show n+1+i=n+(i+1) by omega] at this
    exact this
 have h2:=hf L 0 i hi
 rw [Nat.zero_add] at h2
 have hback:(seen++[i]).toArray.back? = some i:=by simp
 simp only [Instr.entry,getObj,Sem.run_bind,Sem.run,hr,hb',Result.andThen,hback,bne_self_eq_false,Bool.false_eq_true,if_false,List.find?_toArray,h2]
 rfl
end
end Go.Proofs.YtppjmdanckdobaaGreatDoor

/- A row of the call's own that may be shorter than the block in which it lies: append onto it. -/
namespace Go.Proofs.YtppjmdanckdobaaGreatDoor
open Go.RowKit
def looseRow (w:World) (base:Nat) (e:TypeId) (size:Nat) (v:Value) (n:Nat) (xs:List Value):Prop :=
 xs.length=n * size ∧
 ((v=.slice none 0 0∧n=0) ∨
  ∃ g cap cur,v=.slice (some ⟨g,0,none⟩) n cap∧base≤g∧w.heap[g]? = some (.cells cur e (0,0))∧n≤cap∧cap≤maxLen∧cap * size≤cur.size∧cur.toList.take (n * size)=xs)
theorem looseRow_of {w:World} {base e size n:Nat} {v:Value} {xs:List Value} (h:w.ownsRow base e size v n xs):looseRow w base e size v n xs:=by
 refine ⟨h.1,h.2.imp id ?_⟩
 rintro ⟨g,cap,cur,h1,h2,h3,h4,h5,h6,h7⟩
 exact ⟨g,cap,cur,h1,h2,h3,h4,h5,Nat.le_of_eq h6.symm,h7⟩
theorem looseRow_cells {w:World} {base e size n:Nat} {v:Value} {xs:List Value} (h:looseRow w base e size v n xs) {g:Nat} (hg:v.ownBlock=some g):∀ (j:Nat) u,xs[j]? = some u→w.cell? ⟨g,j,none⟩=some u:=by
 intro j u hj
 rcases h.2 with ⟨rfl,_⟩ | ⟨g',cap,cur,rfl,_,hb,_,_,_,htake⟩
 ·simp [Value.ownBlock] at hg
 ·simp only [Value.ownBlock,Option.some.injEq] at hg
  subst hg
  rw [← htake,List.getElem?_take] at hj
  split at hj
  ·rw [cell_of_row w g' j cur e (0,0) hb]
   simpa using hj
  ·cases hj
section
variable {P:Program} (w:World)
theorem run_append_loose (t ty:TypeId) (base:Nat) (e:TypeId) (i:TypeInfo) (z:Value) (size bytes:Nat) (ht:P.underlying t=some (.slice e)) (hi:P.info? e=some i) (hz:i.zero=some z)
  (hsize:i.size=size) (hby:i.bytes=bytes) (hzs:z.cells.size=size) (_hsz:0 < size)
  (v:Value) (n:Nat) (xs:List Value) (hown:looseRow w base e size v n xs)
  (ad:Addr) (m c:Nat) (news:List Value) (hl:news.length=m * size) (hnews:∀ j u,news[j]? = some u→w.cell? (ad.add j)=some u) (h1:∀ u∈news,u.oneCell'=true)
  (hm:0 < m) (h63:n+m≤maxLen) (hbytes:(n+m) * bytes≤140737488355328) (hbase:base≤w.heap.size) (H:Nat) (hH:w.heap.size=H) :
  ∃ g cap w',(Builtin.append_ #[t,t] ty #[v,.slice (some ad) m c]).run P w=.ok (.slice (some ⟨g,0,none⟩) (n+m) cap) w' ∧
   looseRow w' base e size (.slice (some ⟨g,0,none⟩) (n+m) cap) (n+m) (xs++news)∧w.grownBy w' v.ownBlock∧(v.ownBlock=some g∨g=H)∧g < w'.heap.size:=by
 subst hsize
 subst hby
 subst hH
 have hsmall:n+m≤9223372036854775807:=by simp only [maxLen] at h63;omega
 have hlen:(xs++news).length=(n+m) * i.size:=by rw [List.length_append,hown.1,hl,Nat.add_mul]
 have grown:∀ (old:Nat),old < n+m→∀ (row:Option Nat),
   looseRow (w.drew.alloc (.cells (xs.toArray++news.toArray++Builtin.zeroCells z.cells (grownCap w (n+m) old e - (n+m))) e)) base e i.size
    (.slice (some ⟨w.heap.size,0,none⟩) (n+m) (grownCap w (n+m) old e)) (n+m) (xs++news) ∧
   w.grownBy (w.drew.alloc (.cells (xs.toArray++news.toArray++Builtin.zeroCells z.cells (grownCap w (n+m) old e - (n+m))) e)) row:=by
  intro old ho row
  have hge:=grownCap_ge w (n+m) old e
  have hcm:grownCap w (n+m) old e≤maxLen:=grownCap_le_maxLen w (n+m) old e h63
  refine ⟨⟨hlen,.inr ⟨w.heap.size,_,_,rfl,hbase,heap_alloc_new w.drew _,hge,hcm,?_,?_⟩⟩,⟨rfl,rfl,rfl,by simp,fun k hk _=>(Below.refl _ w.drew).alloc (Nat.le_refl _) _ |>.block k hk⟩⟩
  ·apply Nat.le_of_eq
   simp only [Array.size_append,List.size_toArray,size_zeroCells,hzs,hown.1,hl,← Nat.add_mul]
   congr 1
   omega
  ·simp only [Array.toList_append,List.append_assoc]
   rw [← List.append_assoc,← hlen]
   exact List.take_left
 have fresh:∀ {cs:Array Value},w.heap.size < (w.drew.alloc (.cells cs e)).heap.size:=by intro cs;simp
 rcases hown.2 with ⟨rfl,rfl⟩ | ⟨g,cap,cur,rfl,hbg,hg,hnc,hcm,hcs,htake⟩
 ·have hx:xs=[]:=List.eq_nil_of_length_eq_zero (by simpa using hown.1)
  subst hx
  have hr:=run_append_nil (P:=P) w t ty e i z ht hi hz ad m c news hl hnews (by omega) (by omega) (by have hb:=hbytes;simp only [Nat.zero_add] at hb;omega)
  have hgr:=grown 0 (by omega) (Value.ownBlock (.slice none 0 0))
  simp only [Nat.zero_add,List.nil_append,Array.empty_append] at hgr ⊢
  exact ⟨_,_,_,hr,hgr.1,hgr.2,.inr rfl,fresh⟩
 ·by_cases hroom:n+m≤cap
  ·have hfit:n * i.size+news.length≤cur.size:=by
    rw [hl,← Nat.add_mul]
    exact Nat.le_trans (Nat.mul_le_mul_right _ hroom) hcs
   have hr:=run_append_room (P:=P) w t ty e i ht hi g n cap cur hg ad m c news hl hnews h1 hroom hfit
   have hlt:=(Array.getElem?_eq_some_iff.1 hg).1
   refine ⟨_,_,_,hr,⟨hlen,.inr ⟨g,cap,_,rfl,hbg,setRow_heap w g cur _ e _ hg,hroom,hcm,?_,?_⟩⟩,⟨rfl,rfl,rfl,by simp,fun k _ hk=>setRow_other w g k _ (fun e=>hk (by simp [Value.ownBlock,e]))⟩,.inl rfl,by simpa using hlt⟩
   ·simp only [List.size_toArray,List.length_append,List.length_take,List.length_drop,Array.length_toList]
    omega
   ·rw [htake,← hlen]
    exact List.take_left
  ·have holds:∀ j u,xs[j]? = some u→w.cell? ((⟨g,0,none⟩:Addr).add j)=some u:=fun j u hj=>by
    have:=looseRow_cells hown (g:=g) rfl j u hj
    rw [show (⟨g,0,none⟩:Addr).add j=⟨g,j,none⟩ by unfold Addr.add;split<;>simp_all]
    exact this
   have hr:=run_append_grow (P:=P) w t ty e i z ht hi hz ⟨g,0,none⟩ n cap xs hown.1 holds ad m c news hl hnews (by omega) (by omega) (growslice_fits (by omega) hbytes)
   have hgr:=grown cap (by omega) (Value.ownBlock (.slice (some ⟨g,0,none⟩) n cap))
   exact ⟨_,_,_,hr,hgr.1,hgr.2,.inr rfl,fresh⟩
theorem wp_append_loose {o:Oper} {a:Act} {K:Act→World→Prop} {Q:Exit→Act→World→Prop} (s x:Operand) (t:TypeId)
  (ho:o.op=.call { callee:=.builtin .append,args:=#[s,x],argTypes:=#[t,t] })
  (base:Nat) (e:TypeId) (i:TypeInfo) (z:Value) (size bytes:Nat) (ht:P.underlying t=some (.slice e)) (hi:P.info? e=some i) (hz:i.zero=some z)
  (hsize:i.size=size) (hby:i.bytes=bytes) (hzs:z.cells.size=size) (hsz:0 < size)
  (v:Value) (n:Nat) (xs:List Value) (hs:a.eval s=v) (hown:looseRow w base e size v n xs)
  (ad:Addr) (m c:Nat) (news:List Value) (hx:a.eval x=.slice (some ad) m c) (hl:news.length=m * size) (hnews:∀ j u,news[j]? = some u→w.cell? (ad.add j)=some u) (h1:∀ u∈news,u.oneCell'=true)
  (hm:0 < m) (h63:n+m≤maxLen) (hbytes:(n+m) * bytes≤140737488355328) (hbase:base≤w.heap.size) (H:Nat) (hH:w.heap.size=H)
  (h:∀ g cap w',looseRow w' base e size (.slice (some ⟨g,0,none⟩) (n+m) cap) (n+m) (xs++news)→w.grownBy w' v.ownBlock→(v.ownBlock=some g∨g=H)→g < w'.heap.size→K (a.put o.dst (.slice (some ⟨g,0,none⟩) (n+m) cap)) w'):o.wp P a w K Q:=by
 obtain ⟨g,cap,w',hr,h2,h3,h4,h5⟩:=run_append_loose (P:=P) w t o.type base e i z size bytes ht hi hz hsize hby hzs hsz v n xs hown ad m c news hl hnews h1 hm h63 hbytes hbase H hH
 unfold Oper.wp execOp
 simp only [ho,resolve,invoke,builtin,Sem.run_bind,Sem.run_pure,Result.andThen_ok,List.map_toArray,List.map_cons,List.map_nil,hs,hx,hr]
 exact h g cap w' h2 h3 h4 h5
theorem wpList_append_loose {ops:Array Oper} {rest:List Oper} {o:Oper} {a:Act} {Q:Exit→Act→World→Prop} (hgd:o.guard=none) (s x:Operand) (t:TypeId)
  (ho:o.op=.call { callee:=.builtin .append,args:=#[s,x],argTypes:=#[t,t] })
  (base:Nat) (e:TypeId) (i:TypeInfo) (z:Value) (size bytes:Nat) (ht:P.underlying t=some (.slice e)) (hi:P.info? e=some i) (hz:i.zero=some z)
  (hsize:i.size=size) (hby:i.bytes=bytes) (hzs:z.cells.size=size) (hsz:0 < size)
  (v:Value) (n:Nat) (xs:List Value) (hs:a.eval s=v) (hown:looseRow w base e size v n xs)
  (ad:Addr) (m c:Nat) (news:List Value) (hx:a.eval x=.slice (some ad) m c) (hl:news.length=m * size) (hnews:∀ j u,news[j]? = some u→w.cell? (ad.add j)=some u) (h1:∀ u∈news,u.oneCell'=true)
  (hm:0 < m) (h63:n+m≤maxLen) (hbytes:(n+m) * bytes≤140737488355328) (hbase:base≤w.heap.size) (H:Nat) (hH:w.heap.size=H)
  (h:∀ g cap w',looseRow w' base e size (.slice (some ⟨g,0,none⟩) (n+m) cap) (n+m) (xs++news)→w.grownBy w' v.ownBlock→(v.ownBlock=some g∨g=H)→g < w'.heap.size→wpList P ops Q rest (a.put o.dst (.slice (some ⟨g,0,none⟩) (n+m) cap)) w'):wpList P ops Q (o::rest) a w :=
 wpList_plain hgd fun _ hK=>wp_append_loose w s x t ho base e i z size bytes ht hi hz hsize hby hzs hsz v n xs hs hown ad m c news hx hl hnews h1 hm h63 hbytes hbase H hH fun g cap w' h2 h3 h4 h5=>hK _ _ (h g cap w' h2 h3 h4 h5)
end
end Go.Proofs.YtppjmdanckdobaaGreatDoor

/- A net in memory;a search of ways in memory: who lies where,and what stays. -/
namespace Go.Proofs.YtppjmdanckdobaaGreatDoor
open Go.RowKit
def IntsAt (W:World) (lim:Nat) (a:Option Addr) (l:List Int):Prop:=∀ k (h:k < l.length),∃ b off,a=some ⟨b,off,none⟩∧b < lim∧W.cell? ⟨b,off+k,none⟩=some (.int .i64 l[k])
def IntsV (W:World) (lim:Nat) (v:Value) (l:List Int):Prop:=∃ a cap,v=.slice a l.length cap∧IntsAt W lim a l
section
variable {W W':World} {lim:Nat}
theorem IntsAt.keep (hb:Below lim W W') {a:Option Addr} {l:List Int} (h:IntsAt W lim a l):IntsAt W' lim a l:=fun k hk=>by
 obtain ⟨b,off,h1,h2,h3⟩:=h k hk
 exact ⟨b,off,h1,h2,by rw [hb.cell h2];exact h3⟩
theorem IntsV.keep (hb:Below lim W W') {v:Value} {l:List Int} (h:IntsV W lim v l):IntsV W' lim v l:=by
 obtain ⟨a,cap,h1,h2⟩:=h
 exact ⟨a,cap,h1,h2.keep hb⟩
theorem IntsAt.mono {lim':Nat} (hl:lim≤lim') {a:Option Addr} {l:List Int} (h:IntsAt W lim a l):IntsAt W lim' a l:=fun k hk=>by
 obtain ⟨b,off,h1,h2,h3⟩:=h k hk
 exact ⟨b,off,h1,by omega,h3⟩
theorem IntsV.mono {lim':Nat} (hl:lim≤lim') {v:Value} {l:List Int} (h:IntsV W lim v l):IntsV W lim' v l:=by
 obtain ⟨a,cap,h1,h2⟩:=h
 exact ⟨a,cap,h1,h2.mono hl⟩
end
structure But (F:Nat→Prop) (w w':World):Prop where
 os:w'.os=w.os
 tape:w'.tape=w.tape
 output:w'.output=w.output
 size:w.heap.size≤w'.heap.size
 block:∀ k,k < w.heap.size→¬F k→w'.heap[k]? = w.heap[k]?
theorem But.refl (F:Nat→Prop) (w:World):But F w w:=⟨rfl,rfl,rfl,Nat.le_refl _,fun _ _ _=>rfl⟩
theorem But.trans {F G:Nat→Prop} {a b c:World} (h:But F a b) (k:But G b c) (hG:∀ i,i < a.heap.size→G i→F i):But F a c :=
 ⟨k.os.trans h.os,k.tape.trans h.tape,k.output.trans h.output,Nat.le_trans h.size k.size,fun i hi hn=>(k.block i (Nat.lt_of_lt_of_le hi h.size) (fun g=>hn (hG i hi g))).trans (h.block i hi hn)⟩
theorem But.of_grew {F:Nat→Prop} {a b:World} (h:Grew a b):But F a b:=⟨h.os,h.tape,h.output,h.size,fun k hk _=>h.block k hk⟩
theorem But.put {w:World} {b:Nat} {o:Obj} {F:Nat→Prop} (hb:F b):But F w (putObj w b o) :=
 ⟨rfl,rfl,rfl,by rw [putObj_size];exact Nat.le_refl _,fun k _ hn=>putObj_other (fun e=>hn (by rw [e];exact hb)) o⟩
theorem But.below {F:Nat→Prop} {w w':World} {lim:Nat} (h:But F w w') (hl:lim≤w.heap.size) (hF:∀ k,F k→lim≤k):Below lim w w' :=
 ⟨h.os,h.tape,h.output,h.size,fun k hk=>h.block k (by omega) (fun hf=>by have:=hF k hf;omega)⟩
theorem But.drew {F:Nat→Prop} {a b:World} (h:But F a b):But F a b.drew:=⟨h.os,h.tape,h.output,h.size,h.block⟩
theorem But.owns {F:Nat→Prop} {w w':World} {b T:Nat} {cs:List Value} (h:But F w w') (ho:Owns w b cs T) (hn:¬F b):Owns w' b cs T:=by
 have:=ho.lt
 unfold Owns at *
 rw [h.block b this hn];exact ho
theorem setCell_put {w:World} {b T i:Nat} {cs:List Value} (h:Owns w b cs T) (v:Value):w.setCell ⟨b,i,none⟩ v=putObj w b (.cells (cs.set i v).toArray T (0,0)):=by
 have hlt:=h.lt
 unfold Owns at h
 unfold World.setCell putObj
 have hget:w.heap[b]=.cells cs.toArray T (0,0):=by
  have:=Array.getElem?_eq_getElem hlt
  rw [h] at this
  exact (Option.some.inj this).symm
 congr 1
 apply Array.ext
 ·simp
 ·intro j h1 h2
  by_cases e:j=b
  ·subst e
   simp [Array.getElem_modify,hget]
  ·rw [Array.getElem_setIfInBounds_ne (by simpa using h1) (Ne.symm e)]
   simp [Array.getElem_modify,Ne.symm e]
section
variable {w w':World}
theorem row_own {base e size n:Nat} {v:Value} {xs:List Value} (h:looseRow w base e size v n xs) {g:Nat} (hg:v.ownBlock=some g):base≤g∧∃ cs,w.heap[g]? = some (.cells cs e (0,0)):=by
 rcases h.2 with ⟨rfl,_⟩ | ⟨g',cap,cur,rfl,h1,h2,_⟩
 ·simp [Value.ownBlock] at hg
 ·simp only [Value.ownBlock,Option.some.injEq] at hg
  subst hg
  exact ⟨h1,cur,h2⟩
theorem row_but {base e size n:Nat} {v:Value} {xs:List Value} (h:looseRow w base e size v n xs) {F:Nat→Prop} (hb:But F w w') (hn:∀ g,v.ownBlock=some g→¬F g):looseRow w' base e size v n xs:=by
 refine ⟨h.1,?_⟩
 rcases h.2 with h2 | ⟨g,cap,cur,rfl,h1,h2,h3⟩
 ·exact .inl h2
 ·exact .inr ⟨g,cap,cur,rfl,h1,by rw [hb.block g (Array.getElem?_eq_some_iff.1 h2).1 (hn g rfl)];exact h2,h3⟩
end
theorem padd_off (b o j:Nat):(⟨b,o,none⟩:Addr).add j=⟨b,o+j,none⟩:=by
 unfold Addr.add
 split
 ·rename_i h;rw [h];rfl
 ·rfl
end Go.Proofs.YtppjmdanckdobaaGreatDoor

/- Two small laws. -/
namespace Go.Proofs.YtppjmdanckdobaaGreatDoor
open Go.RowKit
theorem owns_newsO {w:World} {b T:Nat} {cs:List Value} (h:Owns w b cs T):∀ j u,cs[j]? = some u→w.cell? ((⟨b,0,none⟩:Addr).add j)=some u:=by
 intro j u hj
 rw [padd_off,Nat.zero_add,h.cell,hj]
end Go.Proofs.YtppjmdanckdobaaGreatDoor
