/- A table and a walk over tokens in memory: what is known of calls, which tokens are noted. -/
import Derived.Test.YtppjmdanckdobaaGreatDoorQR11
import Derived.Test.YtppjmdanckdobaaGreatDoorQR28
namespace Go.Proofs.YtppjmdanckdobaaGreatDoor
open Go.RowKit
open Lib (hid)
def callL (L:List (Spot × Nat)):List (Value × Value):=L.map fun e=>(spotV e.1,setV e.2)
def noteL (L:List Int):List (Value × Value):=L.map fun t=>(.int .i64 t,.agg #[])
theorem call_check (p:Spot) (w:World) (e:Bool):(Instr.checkKey e 10000 69 (spotV p)).run Tryz.prog w=.ok () w:=by
 kernel_rfl
theorem call_eqIn (n:Nat) (a b c d:Int) (w:World):(Op.equalIn (n+2) 69 (.agg #[.int .i64 a,.int .i64 b]) (.agg #[.int .i64 c,.int .i64 d])).run Tryz.prog w=.ok (a == c&&b == d) w:=by
 rw [run_equalIn_struct w (n+1) 69 _ _ (by kernel_rfl) (by kernel_rfl)]
 go_simp
 by_cases h1:a=c<;>by_cases h2:b=d<;>simp [h1,h2]
theorem call_eq (p q:Spot) (w:World):(Op.equal 69 (spotV p) (spotV q)).run Tryz.prog w=.ok (isV (spotV p) (spotV q)) w:=by
 have h:=call_eqIn 9998 p.1 p.2 q.1 q.2 w
 have e:(((p.1:Int) == (q.1:Int))&&((p.2:Int) == (q.2:Int)))=isV (spotV p) (spotV q):=by
  rw [Bool.eq_iff_iff,isV_true]
  simp only [Bool.and_eq_true,beq_iff_eq]
  constructor
  ·rintro ⟨h1,h2⟩;unfold spotV;rw [h1,h2]
  ·intro h;rw [spotV_inj h];exact ⟨rfl,rfl⟩
 rw [e] at h
 exact h
theorem key_call (w:World) (p:Spot) (L:List (Spot × Nat)):KeyRun Tryz.prog w 69 (spotV p) (isV (spotV p)) (callL L) :=
 KeyRun.struct (fs:=Tryz.prog.fieldsOf 69) (by kernel_rfl) (call_check p w) fun x hx=>by
  obtain ⟨q,_,rfl⟩:=List.mem_map.1 hx
  exact call_eq p q.1 w
theorem zero_set (w:World):(zeroValue 66).run Tryz.prog w=.ok (setV 0) w:=by kernel_rfl
theorem run_knownX {w:World} {kb:Nat} {L:List (Spot × Nat)} (hb:w.heap[kb]? = some (mapObj (callL L))) (s:Spot) :
  (∃ m,(s,m)∈L∧(Instr.lookup 61 (.map (some kb)) (spotV s) true).run Tryz.prog w=.ok (.tuple #[setV m,.bool true]) w) ∨
  ((∀ e∈L,e.1≠s)∧(Instr.lookup 61 (.map (some kb)) (spotV s) true).run Tryz.prog w=.ok (.tuple #[setV 0,.bool false]) w):=by
 have hK:=key_call w s L
 have hg:=run_map_of (P:=Tryz.prog) hb
 unfold mapObj at hg
 have hf:=hK.find
 have hz:=zero_set w
 simp only [Instr.lookup,Sem.run_bind,run_underlying Tryz.underlying61,Result.andThen_ok,hg,Sem.run_pure,hK.check,hf]
 by_cases h:∃ x∈callL L,isV (spotV s) x.1=true
 ·obtain ⟨j,x,h1,h2,h3⟩:=fnd_some (i:=0) h
  obtain ⟨e,he,rfl⟩:=List.mem_map.1 h2
  have hs:e.1=s:=spotV_inj (isV_true.1 h3)
  left
  refine ⟨e.2,?_,?_⟩
  ·rw [← hs];exact he
  ·rw [h1];simp
 ·have h1:∀ x∈callL L,isV (spotV s) x.1=false:=fun x hx=>by
   cases hfx:isV (spotV s) x.1
   ·rfl
   ·exact absurd ⟨x,hx,hfx⟩ h
  right
  refine ⟨fun e he hs=>?_,?_⟩
  ·have:=h1 (spotV e.1,setV e.2) (List.mem_map.2 ⟨e,he,rfl⟩)
   rw [hs,isV_true.2 rfl] at this
   cases this
  ·rw [fnd_none h1];simp [hz]
theorem run_update_same {P:Program} {w:World} {t kt e:TypeId} {b j:Nat} {v x:Value} {f:Value→Bool} {L:List (Value × Value)} (ht:P.underlying t=some (.map kt e)) (hb:w.heap[b]? = some (mapObj L)) (hK:KeyRun P w kt v f L)
  (h1:fnd f L 0=some (j,x)) (hj:j < L.length) (hkey:L[j]=(v,x)) (hsb:Instr.sameBits 10000 v v=true):(Instr.mapUpdate t (.map (some b)) v x).run P w=.ok () w:=by
 have hent:(entsAt 0 L).toArray[j]? = some ⟨v,x,j⟩:=by
  rw [List.getElem?_toArray,List.getElem?_eq_getElem (by rw [entsAt_length];exact hj),entsAt_get _ _ _ hj,hkey,Nat.zero_add]
 have hmod:((entsAt 0 L).toArray.modify j fun e=>{ e with key:=v,val:=x })=(entsAt 0 L).toArray:=by
  apply Array.ext
  ·simp
  ·intro k h4 h5
   rw [Array.getElem_modify]
   split
   ·rename_i e
    subst e
    have:=(Array.getElem?_eq_some_iff.1 hent).2
    rw [this]
   ·rfl
 have hg:=run_map_of (P:=P) hb
 have hb':=hb
 unfold mapObj at hg hb'
 have hf:=hK.find
 rw [h1] at hf
 simp only [Instr.mapUpdate,Sem.run_bind,run_underlying ht,Result.andThen_ok,hg,hK.check,hf,Instr.keyThatStays,hent,Option.map_some,Option.getD_some,hsb,if_true,Sem.run_pure]
 rw [hmod]
 simp only [setObj,Sem.run,hb']
 have hset:w.heap.setIfInBounds b (.map (entsAt 0 L).toArray L.length)=w.heap:=by
  apply Array.ext
  ·simp
  ·intro k h4 h5
   rw [Array.getElem_setIfInBounds]
   split
   ·rename_i e
    subst e
    have:=(Array.getElem?_eq_some_iff.1 hb').2
    exact this.symm
   ·rfl
 rw [hset]
def RightX (B:Bk) (wl:List Int) (S:Int→Prop) (s:Spot) (m:Nat):Prop:=Right B wl s m∧∀ (n:Nd) (t:Nat),B.bodies[s.1]? = some n→Nx B wl n s.2 t→S t
def KnownX (B:Bk) (wl:List Int) (S:Int→Prop) (kb:Nat) (w:World):Prop:=∃ L:List (Spot × Nat),w.heap[kb]? = some (mapObj (callL L))∧∀ e∈L,RightX B wl S e.1 e.2
def NoteX (S:Int→Prop) (nb:Nat) (w:World):Prop:=∃ L:List Int,w.heap[nb]? = some (mapObj (noteL L))∧L.Nodup∧∀ t,t∈L↔S t
theorem run_learnX {B:Bk} {wl:List Int} {S:Int→Prop} {w:World} {kb:Nat} (hk:KnownX B wl S kb w) (s:Spot) (m:Nat) (hm:RightX B wl S s m) :
  ∃ w',(Instr.mapUpdate 61 (.map (some kb)) (spotV s) (setV m)).run Tryz.prog w=.ok () w'∧KnownX B wl S kb w'∧But (fun q=>q=kb) w w':=by
 obtain ⟨L,hb,hr⟩:=hk
 have hK:=key_call w s L
 by_cases hn:∀ e∈L,e.1≠s
 ·have h:=run_update_new (x:=setV m) Tryz.underlying61 hb hK (fun x hx=>by
   obtain ⟨e,he,rfl⟩:=List.mem_map.1 hx
   cases hv:isV (spotV s) (spotV e.1)
   ·rfl
   ·exact absurd (spotV_inj (isV_true.1 hv)) (hn e he))
  refine ⟨_,h,⟨L++[(s,m)],?_,fun e he=>?_⟩,But.put rfl⟩
  ·rw [putObj_same (Array.getElem?_eq_some_iff.1 hb).1]
   simp [callL]
  ·rcases List.mem_append.1 he with he | he
   ·exact hr e he
   ·rw [List.mem_singleton.1 he];exact hm
 ·have hex:∃ x∈callL L,isV (spotV s) x.1=true:=by
   refine Classical.byContradiction fun hc=>hn fun e he hs=>hc ⟨(spotV e.1,setV e.2),List.mem_map.2 ⟨e,he,rfl⟩,?_⟩
   rw [isV_true,hs]
  obtain ⟨j,x,h1,-,-⟩:=fnd_some (i:=0) hex
  obtain ⟨-,hj,h2,h3⟩:=fnd_index h1
  simp only [Nat.sub_zero] at hj h2 h3
  have hjL:j < L.length:=by simpa [callL] using hj
  have hkey:(callL L)[j]=(spotV L[j].1,setV L[j].2):=by simp [callL]
  have hs:L[j].1=s:=spotV_inj (isV_true.1 (by rw [hkey] at h3;exact h3))
  have hv:L[j].2=m:=by
   have:=(hr L[j] (List.getElem_mem hjL)).1
   rw [hs] at this
   exact this.eq hm.1
  rw [hs,hv] at hkey
  rw [hkey] at h2
  rw [← h2] at h1
  exact ⟨w,run_update_same Tryz.underlying61 hb hK h1 hj hkey (by simp [spotV,Instr.sameBits]),⟨L,hb,hr⟩,But.refl _ _⟩
def noteF (t:Int):Value→Bool
 | .int _ b=>t == b
 | _=>false
theorem key_note (w:World) (t:Int) (L:List Int):KeyRun Tryz.prog w 3 (.int .i64 t) (noteF t) (noteL L) :=
 KeyRun.int Tryz.underlying3 fun x hx=>by
  obtain ⟨y,_,rfl⟩:=List.mem_map.1 hx
  exact ⟨y,rfl,rfl⟩
theorem run_noteX {S:Int→Prop} {w:World} {nb:Nat} (hn:NoteX S nb w) (t:Int) :
  ∃ w',(Instr.mapUpdate 62 (.map (some nb)) (.int .i64 t) (.agg #[])).run Tryz.prog w=.ok () w'∧NoteX (fun x=>S x∨x=t) nb w'∧But (fun q=>q=nb) w w':=by
 obtain ⟨L,hb,hd,hS⟩:=hn
 have hK:=key_note w t L
 by_cases ht:t∈L
 ·have hex:∃ x∈noteL L,noteF t x.1=true:=⟨(.int .i64 t,.agg #[]),List.mem_map.2 ⟨t,ht,rfl⟩,by simp [noteF]⟩
  obtain ⟨j,x,h1,-,-⟩:=fnd_some (i:=0) hex
  obtain ⟨-,hj,h2,h3⟩:=fnd_index h1
  simp only [Nat.sub_zero] at hj h2 h3
  have hjL:j < L.length:=by simpa [noteL] using hj
  have hkey:(noteL L)[j]=(.int .i64 L[j],.agg #[]):=by simp [noteL]
  have hs:t=L[j]:=by
   rw [hkey] at h3
   simpa [noteF] using h3
  rw [← hs] at hkey
  rw [hkey] at h2
  rw [← h2] at h1
  exact ⟨w,run_update_same Tryz.underlying62 hb hK h1 hj hkey (by simp [Instr.sameBits]),⟨L,hb,hd,fun x=>by rw [hS];exact ⟨.inl,fun h=>h.elim id fun e=>by rw [e,← hS];exact ht⟩⟩,But.refl _ _⟩
 ·have h:=run_update_new (x:=.agg #[]) Tryz.underlying62 hb hK (fun x hx=>by
   obtain ⟨y,hy,rfl⟩:=List.mem_map.1 hx
   have:t≠y:=fun e=>ht (e▸hy)
   simpa [noteF] using this)
  refine ⟨_,h,⟨L++[t],?_,?_,fun x=>?_⟩,But.put rfl⟩
  ·rw [putObj_same (Array.getElem?_eq_some_iff.1 hb).1]
   simp [noteL]
  ·rw [List.nodup_append]
   exact ⟨hd,by simp,fun a ha b hb e=>by rw [List.mem_singleton.1 hb] at e;exact ht (e▸ha)⟩
  ·rw [List.mem_append,List.mem_singleton,hS]
structure XE where
 lim:Nat
 kw:Nat
 kb:Nat
 nb:Nat
 tb:Nat
 bk:Nat
 nm:Nat
 tm:Nat
 V:BV
 kv:Value
 ba:Option Addr
 bc:Nat
 wa:Option Addr
 wc:Nat
 B:Bk
 wl:List Int
structure XE.Tab (E:XE) (w:World):Prop where
 low:E.lim≤w.heap.size
 tbl:E.tb < E.lim
 box:Owns w E.tb [.pointer (some ⟨E.bk,0,none⟩),.map (some E.nm),.map (some E.tm),E.kv,.slice E.ba E.B.bodies.length E.bc] 31
 book:BookAt w E.lim E.bk E.V E.B
 names:w.heap[E.nm]? = some (mapObj (nmapL E.B.rules))
 toks:w.heap[E.tm]? = some (mapObj (nmapL E.B.tokens))
 nlo:E.nm < E.lim∧E.tm < E.lim
 kinds:IntsV w E.lim E.kv E.B.kinds
 bodies:NodesAt w E.lim E.ba 0 E.B.bodies
structure XE.At (E:XE) (S:Int→Prop) (w:World):Prop where
 tab:E.Tab w
 box:Owns w E.kw [.pointer (some ⟨E.tb,0,none⟩),.slice E.wa E.wl.length E.wc,.map (some E.kb),.map (some E.nb)] 64
 ints:IntsAt w E.lim E.wa E.wl
 lo:E.lim≤E.kw∧E.lim≤E.kb∧E.lim≤E.nb
 ne:E.kb≠E.nb
 few:E.wl.length≤48
 known:KnownX E.B E.wl S E.kb w
 note:NoteX S E.nb w
def XE.R (E:XE) (w w':World):Prop:=But (fun q=>q=E.kb∨q=E.nb) w w'
def XE.ptr (E:XE):Value:=.pointer (some ⟨E.kw,0,none⟩)
theorem XE.Tab.keep {E:XE} {w w':World} (h:E.Tab w) (hb:Below E.lim w w'):E.Tab w' :=
 ⟨Nat.le_trans h.low hb.size,h.tbl,below_owns hb h.box h.tbl,h.book.keep hb,by rw [hb.block _ h.nlo.1];exact h.names,by rw [hb.block _ h.nlo.2];exact h.toks,h.nlo,IntsV.keep hb h.kinds,h.bodies.keep hb⟩
theorem XE.R.trans {E:XE} {a b c:World} (h:E.R a b) (k:E.R b c):E.R a c:=But.trans h k fun _ _ e=>e
theorem XE.R.grew {E:XE} {a b:World} (h:Grew a b):E.R a b:=But.of_grew h
theorem map_own {w:World} {b c T:Nat} {cs:List Value} {L:List (Value × Value)} (h:Owns w b cs T) (k:w.heap[c]? = some (mapObj L)):b≠c:=by
 rintro rfl
 unfold Owns at h
 rw [k] at h
 unfold mapObj at h
 simp at h
theorem XE.At.kne {E:XE} {S:Int→Prop} {w:World} (h:E.At S w):E.kw≠E.kb∧E.kw≠E.nb:=by
 obtain ⟨L,h1,-⟩:=h.known
 obtain ⟨L',h2,-⟩:=h.note
 exact ⟨map_own h.box h1,map_own h.box h2⟩
theorem XE.At.lts {E:XE} {S:Int→Prop} {w:World} (h:E.At S w):E.kw < w.heap.size∧E.kb < w.heap.size∧E.nb < w.heap.size:=by
 obtain ⟨L,h1,-⟩:=h.known
 obtain ⟨L',h2,-⟩:=h.note
 exact ⟨h.box.lt,(Array.getElem?_eq_some_iff.1 h1).1,(Array.getElem?_eq_some_iff.1 h2).1⟩
theorem XE.R.below {E:XE} {S:Int→Prop} {a b:World} (h:E.R a b) (hA:E.At S a):Below E.lim a b:=But.below h hA.tab.low fun q e=>by
 have:=hA.lo
 rcases e with rfl | rfl
 ·exact this.2.1
 ·exact this.2.2
theorem XE.At.but {E:XE} {S:Int→Prop} {w w':World} {F:Nat→Prop} (h:E.At S w) (hb:But F w w') (hF:∀ k,F k→E.lim≤k∧k≠E.kw∧k≠E.kb∧k≠E.nb):E.At S w':=by
 have hB:Below E.lim w w':=hb.below h.tab.low fun k hk=>(hF k hk).1
 have hl:=h.lts
 obtain ⟨L,h1,h2⟩:=h.known
 obtain ⟨L',h3,h4⟩:=h.note
 exact ⟨h.tab.keep hB,hb.owns h.box fun e=>(hF _ e).2.1 rfl,IntsAt.keep hB h.ints,h.lo,h.ne,h.few,⟨L,by rw [hb.block _ hl.2.1 fun e=>(hF _ e).2.2.1 rfl];exact h1,h2⟩,⟨L',by rw [hb.block _ hl.2.2 fun e=>(hF _ e).2.2.2 rfl];exact h3,h4⟩⟩
theorem XE.At.grew {E:XE} {S:Int→Prop} {w w':World} (h:E.At S w) (hg:Grew w w'):E.At S w':=h.but (But.of_grew (F:=fun _=>False) hg) fun _=>False.elim
theorem XE.At.fresh {E:XE} {S:Int→Prop} {a w w':World} {f:Nat} {S0:Int→Prop} (h0:E.At S0 a) (h:E.At S w) (hb:But (fun q=>q=f) w w') (hf:a.heap.size≤f):E.At S w':=h.but hb fun k e=>by
 have:=h0.lts
 have:=h0.tab.low
 subst e
 omega
theorem XE.R.fresh {E:XE} {S:Int→Prop} {a b c:World} {f:Nat} (_:E.At S a) (h:E.R a b) (hb:But (fun q=>q=f) b c) (hf:a.heap.size≤f):E.R a c:=But.trans h hb fun i hi e=>by omega
theorem XE.At.iff {E:XE} {S S':Int→Prop} {w:World} (h:E.At S w) (hS:∀ t,S t↔S' t):E.At S' w:=by
 have:S=S':=funext fun t=>propext (hS t)
 exact this▸h
theorem KnownX.mono {B:Bk} {wl:List Int} {S S':Int→Prop} {kb:Nat} {w:World} (h:KnownX B wl S kb w) (hS:∀ t,S t→S' t):KnownX B wl S' kb w:=by
 obtain ⟨L,h1,h2⟩:=h
 exact ⟨L,h1,fun e he=>⟨(h2 e he).1,fun n t h3 h4=>hS _ ((h2 e he).2 n t h3 h4)⟩⟩
theorem XE.At.setNote {E:XE} {S S':Int→Prop} {w w':World} (h:E.At S w) (hn:NoteX S' E.nb w') (hb:But (fun q=>q=E.nb) w w') (hS:∀ t,S t→S' t):E.At S' w':=by
 have hB:Below E.lim w w':=hb.below h.tab.low fun k hk=>by subst hk;exact h.lo.2.2
 obtain ⟨L,h1,h2⟩:=h.known
 have hk:KnownX E.B E.wl S' E.kb w':=by
  refine KnownX.mono ⟨L,?_,h2⟩ hS
  rw [hb.block _ h.lts.2.1 h.ne]
  exact h1
 exact ⟨h.tab.keep hB,hb.owns h.box h.kne.2,IntsAt.keep hB h.ints,h.lo,h.ne,h.few,hk,hn⟩
theorem XE.At.setKnown {E:XE} {S:Int→Prop} {w w':World} (h:E.At S w) (hk:KnownX E.B E.wl S E.kb w') (hb:But (fun q=>q=E.kb) w w'):E.At S w':=by
 have hB:Below E.lim w w':=hb.below h.tab.low fun k hk=>by subst hk;exact h.lo.2.1
 obtain ⟨L,h1,h2⟩:=h.note
 exact ⟨h.tab.keep hB,hb.owns h.box h.kne.1,IntsAt.keep hB h.ints,h.lo,h.ne,h.few,hk,⟨L,by rw [hb.block _ h.lts.2.2 (fun e=>h.ne e.symm)];exact h1,h2⟩⟩
def NxF (B:Bk) (wl:List Int) (m:Nat) (n:Nd) (t:Int):Prop:=∃ (i t':Nat),m.testBit i=true∧Nx B wl n i t'∧t=(t':Int)
def XRes (E:XE) (P:Nat→Prop) (S N:Int→Prop) (W:World) (e:Ending) (W':World):Prop:=∃ q,e=.returned (setV q)∧q < 2 ^ 49∧Bits q P∧E.At (fun t=>S t∨N t) W'∧E.R W W'
theorem XRes.iff {E:XE} {P P':Nat→Prop} {S N N':Int→Prop} {W W':World} {e:Ending} (h:XRes E P S N W e W') (hP:∀ j,P j↔P' j) (hN:∀ t,N t↔N' t):XRes E P' S N' W e W':=by
 obtain ⟨q,h1,h2,h3,h4,h5⟩:=h
 exact ⟨q,h1,h2,h3.iff hP,h4.iff fun t=>or_congr Iff.rfl (hN t),h5⟩
theorem Bits.lt49 {q:Nat} {P:Nat→Prop} (h:Bits q P) (hP:∀ j,P j→j≤48):q < 2 ^ 49:=by
 apply Nat.lt_pow_two_of_testBit
 intro j hj
 cases hq:q.testBit j
 ·rfl
 ·have:=hP j ((h.2 j).1 hq)
  omega
end Go.Proofs.YtppjmdanckdobaaGreatDoor

/- token: one token from some places on. -/
namespace Go.Proofs.YtppjmdanckdobaaGreatDoor
open Go.RowKit
open Lib (hid)
def TokTo (wl:List Int) (m t i j:Nat):Prop:=∃ k,k < i∧m.testBit k=true∧tokM wl k t∧j=k+1
theorem TokTo.next {wl:List Int} {m t i:Nat} {q:Nat} (h:Bits q (TokTo wl m t i)) (hn:¬ (m.testBit i=true∧tokM wl i t)):Bits q (TokTo wl m t (i+1)) :=
 h.iff fun j=>⟨fun ⟨k,h1,h2⟩=>⟨k,by omega,h2⟩,fun ⟨k,h1,h2,h3,h4⟩=>by
  by_cases e:k=i
  ·subst e
   exact absurd ⟨h2,h3⟩ hn
  ·exact ⟨k,by omega,h2,h3,h4⟩⟩
theorem TokTo.put {wl:List Int} {m t i:Nat} {q:Nat} (hi:i < 48) (h:Bits q (TokTo wl m t i)) (h1:m.testBit i=true) (h2:tokM wl i t):Bits (q ||| 2 ^ (i+1)) (TokTo wl m t (i+1)) :=
 (h.or (Bits.pow (by omega))).iff fun j=>⟨fun hj=>hj.elim (fun ⟨k,h3,h4⟩=>⟨k,by omega,h4⟩) fun e=>⟨i,by omega,h1,h2,e⟩,fun ⟨k,h3,h4,h5,h6⟩=>by
  by_cases e:k=i
  ·subst e
   exact .inr h6
  ·exact .inl ⟨k,by omega,h4,h5,h6⟩⟩
set_option maxHeartbeats 8000000 in
set_option maxRecDepth 20000 in
theorem xtoken_ok (E:XE) (t m:Nat) (S:Int→Prop) (W:World) (hA:E.At S W) :
  Calls Tryz.prog 62 #[E.ptr,.int .i64 (t:Int),setV m] W (XRes E (TokTo E.wl m t (E.wl.length+1)) S (fun x=>m.testBit E.wl.length=true∧x=(t:Int)) W):=by
 obtain ⟨b,hb⟩:∃ b,W.heap.size=b:=⟨_,rfl⟩
 obtain ⟨w1,hw1⟩:∃ w1,W.alloc (.cells (setL m).toArray 66)=w1:=⟨_,rfl⟩
 have g1:Grew W w1:=hw1▸grew_alloc W _
 have o1:Owns w1 b (setL m) 66:=by rw [← hw1,← hb];exact Owns.alloc W _ _
 have z1:w1.heap.size=b+1:=by rw [← hw1,← hb];exact World.size_alloc _ _
 obtain ⟨w2,hw2⟩:∃ w2,w1.alloc (.cells #[.bool false,.bool false,.bool false,.bool false,.bool false,.bool false,.bool false,.bool false,.bool false,.bool false,.bool false,.bool false,.bool false,.bool false,.bool false,.bool false,.bool false,.bool false,.bool false,.bool false,.bool false,.bool false,.bool false,.bool false,.bool false,.bool false,.bool false,.bool false,.bool false,.bool false,.bool false,.bool false,.bool false,.bool false,.bool false,.bool false,.bool false,.bool false,.bool false,.bool false,.bool false,.bool false,.bool false,.bool false,.bool false,.bool false,.bool false,.bool false,.bool false] 66)=w2:=⟨_,rfl⟩
 have g2:Grew w1 w2:=hw2▸grew_alloc w1 _
 have o2:Owns w2 (b+1) (setL 0) 66:=by rw [← hw2,← z1];exact zset_owns w1
 have hA2:=hA.grew (g1.trans g2)
 have k1:=hA2.box.cell_at (i:=1) rfl
 have kl:=hA2.box.lt
 have hfew:=hA2.few
 have HA0:=hid hA
 have A2:=hid hA2
 have O1:=hid (o1.keep g2)
 have O2:=hid o2
 have G2:=hid (g1.trans g2)
 have HB:=hid hb
 have HLT:=hid hA.lts
 obtain ⟨n,hn⟩:∃ n,E.wl.length=n:=⟨_,rfl⟩
 have HN:=hid hn
 obtain ⟨Q,hQ⟩:∃ Q,XRes E (TokTo E.wl m t (E.wl.length+1)) S (fun x=>m.testBit E.wl.length=true∧x=(t:Int)) W=Q:=⟨_,rfl⟩
 have HQ:=hid hQ
 rw [hQ]
 rw [hn] at hfew k1
 have hal:Tryz.prog.arrayLen 66=49:=by kernel_rfl
 have hsl:∀ V,(Instr.sliceAt 66 (.pointer (some ⟨b,0,none⟩)) none (some (.int .i64 ((n:Int)+1))) none).run Tryz.prog V=.ok (.slice (some ⟨b,0,none⟩) (n+1) 49) V:=fun V=>by
  rw [run_sliceAt_array_h V 66 ⟨b,0,none⟩ (by kernel_rfl) .i64 ((n:Int)+1) (by omega) (by rw [hal];omega)]
  rw [hal]
  go_simp
 have hwr2:IntKind.i64.wrap ((n:Int)+1)=(n:Int)+1:=wrap_small _ (by omega) (by omega)
 clear hA hA2 o1 o2 g1 g2 hn hQ hal
 unfold setV XE.ptr
 go_enter Tryz.func62,Tryz.ntmps62
 go_wp2_with fail
 clear hw1 hw2 k1 kl z1 hsl hwr2
 go_loopw [17] (fun c wr=>∃ (i q:Nat),c=.int .i64 i∧i≤n+1∧Hid (q < 2 ^ 49∧Bits q (TokTo E.wl m t i)∧Owns wr b (setL m) 66∧Owns wr (b+1) (setL q) 66∧E.At (fun x=>S x∨(n < i∧m.testBit n=true∧x=(t:Int))) wr∧E.R W wr)) (fun c _=>n+1 - (intOf c).toNat)
 case atStart =>
  exact ⟨0,0,rfl,by omega,hid ⟨by decide,Bits.zero.iff fun j=>⟨False.elim,fun ⟨k,h,_⟩=>absurd h (by omega)⟩,O1.out,O2.out,A2.out.iff fun x=>⟨.inl,fun h=>h.elim id fun h=>absurd h.1 (by omega)⟩,XE.R.grew G2.out⟩⟩
 case round =>
  obtain ⟨i,q,rfl,hi,hst⟩:=hrel
  have k1:=hst.out.2.2.2.2.1.box.cell_at (i:=1) rfl
  have k3:=hst.out.2.2.2.2.1.box.cell_at (i:=3) rfl
  have kl:=hst.out.2.2.2.2.1.box.lt
  rw [HN.out] at k1
  by_cases hlt:i < n+1
  ·have hj2:(i:Int) < (n:Int)+1:=by omega
   obtain ⟨x,hx⟩:∃ x,m.testBit i=x:=⟨_,rfl⟩
   have c1:=hst.out.2.2.1.cell_at (i:=i) (setL_get m (by omega))
   have l1:=hst.out.2.2.1.lt
   rw [hx] at c1
   have HX:=hid hx
   clear hx
   cases x
   ·go_wp2_with fail
    refine ⟨⟨i+1,q,by go_num,by omega,hid ⟨hst.out.1,TokTo.next hst.out.2.1 fun h=>?_,hst.out.2.2.1,hst.out.2.2.2.1,hst.out.2.2.2.2.1.iff fun x=>or_congr Iff.rfl ⟨fun h=>⟨by omega,h.2⟩,fun h=>⟨?_,h.2⟩⟩,hst.out.2.2.2.2.2⟩⟩,by simp [intOf];omega⟩
    ·rw [HX.out] at h;cases h.1
    ·rcases Nat.lt_or_ge n i with h1 | h1
     ·exact h1
     ·have:i=n:=by omega
      subst this
      rw [HX.out] at h;cases h.2.1
   ·by_cases hin:i=n
    ·subst hin
     have hq:((i:Int) == (i:Int))=true:=by simp
     obtain ⟨w4,hrun,hnote,hb4⟩:=run_noteX hst.out.2.2.2.2.1.note (t:Int)
     have H4:Hid (E.At (fun x=>(S x∨(i < i∧m.testBit i=true∧x=(t:Int)))∨x=(t:Int)) w4):=hid (hst.out.2.2.2.2.1.setNote hnote hb4 fun _=>.inl)
     have HB4:=hid hb4
     clear hnote hb4
     go_wp2_with fail
     have hnf:∀ f,b≤f→f≠E.nb:=fun f hf e=>by have:=HLT.out.2.2;have:=HB.out;omega
     refine ⟨⟨i+1,q,by go_num,by omega,hid ⟨hst.out.1,TokTo.next hst.out.2.1 fun h=>?_,HB4.out.owns hst.out.2.2.1 (hnf _ (Nat.le_refl _)),HB4.out.owns hst.out.2.2.2.1 (hnf _ (by omega)),H4.out.iff fun x=>⟨fun h=>?_,fun h=>?_⟩,But.trans hst.out.2.2.2.2.2 HB4.out fun _ _ e=>.inr e⟩⟩,by simp [intOf]⟩
     ·obtain ⟨y,hy,-⟩:=h.2
      have:=(List.getElem?_eq_some_iff.1 hy).1
      have:=HN.out
      omega
     ·rcases h with (h | h) | h
      ·exact .inl h
      ·exact absurd h.1 (by omega)
      ·exact .inr ⟨by omega,HX.out,h⟩
     ·rcases h with h | h
      ·exact .inl (.inl h)
      ·exact .inr h.2.2
    ·have hq:((i:Int) == (n:Int))=false:=beq_eq_false_iff_ne.2 (by omega)
     have hiw:i < E.wl.length:=by have:=HN.out;omega
     obtain ⟨a0,off,hwa,hal,hc⟩:=hst.out.2.2.2.2.1.ints i hiw
     rw [hwa] at k1
     have hal2:a0 < wr.heap.size:=by have:=hst.out.2.2.2.2.1.tab.low;omega
     obtain ⟨y,hy⟩:∃ y,E.wl[i]=y:=⟨_,rfl⟩
     have HY:Hid (E.wl[i]? = some y):=hid (by rw [List.getElem?_eq_getElem hiw,hy])
     rw [hy] at hc
     have hi2:(i:Int) < (n:Int):=by omega
     have hat:∀ w',E.At (fun x=>S x∨(n < i∧m.testBit n=true∧x=(t:Int))) w'→E.At (fun x=>S x∨(n < i+1∧m.testBit n=true∧x=(t:Int))) w':=fun _ h=>h.iff fun x=>or_congr Iff.rfl ⟨fun h=>absurd h.1 (by omega),fun h=>absurd h.1 (by omega)⟩
     have HAT:=hid hat
     clear hy hwa hiw hat hal
     by_cases hm1:y=(t:Int)∨y = -2
     ·have HM1:=hid hm1
      obtain ⟨w4,hw4⟩:∃ w4,wr.setCell ⟨b+1,i+1,none⟩ (.bool true)=w4:=⟨_,rfl⟩
      have hset:=setL_set q (show i+1 < 49 by omega) true
      rw [Bool.or_true,if_pos rfl] at hset
      have o4:Owns w4 (b+1) (setL (q ||| 2 ^ (i+1))) 66:=by
       rw [← hset,← hw4]
       exact hst.out.2.2.2.1.set (i+1) _
      have hb4:But (fun k=>k=b+1) wr w4:=hw4▸set_but hst.out.2.2.2.1
      have d1:=hst.out.2.2.2.1.cell_at (i:=i+1) (setL_get q (by omega))
      have d2:=hst.out.2.2.2.1.free (i+1)
      have d3:=hst.out.2.2.2.1.lt
      have hii:(i:Int)+1 < 49:=by omega
      have O4:=hid o4
      have HB4:=hid hb4
      have H4:=hid (XE.At.fresh HA0.out hst.out.2.2.2.2.1 hb4 (by have:=HB.out;omega))
      have HR4:=hid (XE.R.fresh HA0.out hst.out.2.2.2.2.2 hb4 (by have:=HB.out;omega))
      have HW4:=hid hw4
      clear hset o4 hb4
      generalize q.testBit (i+1)=qb at *
      rcases hm1 with hm1 | hm1
      ·have e1:(y == (t:Int))=true:=by rw [hm1];simp
       go_wp2_with fail
       exact ⟨⟨i+1,q ||| 2 ^ (i+1),by go_num,by omega,hid ⟨Nat.or_lt_two_pow hst.out.1 (Nat.pow_lt_pow_right (by omega) (by omega)),TokTo.put (by omega) hst.out.2.1 HX.out ⟨y,HY.out,HM1.out⟩,HB4.out.owns hst.out.2.2.1 (by omega),O4.out,HAT.out _ H4.out,HR4.out⟩⟩,by simp [intOf];omega⟩
      ·by_cases hyt:y=(t:Int)
       ·exact absurd hyt (by omega)
       ·have e1:(y == (t:Int))=false:=beq_eq_false_iff_ne.2 hyt
        subst hm1
        go_wp2_with fail
        exact ⟨⟨i+1,q ||| 2 ^ (i+1),by go_num,by omega,hid ⟨Nat.or_lt_two_pow hst.out.1 (Nat.pow_lt_pow_right (by omega) (by omega)),TokTo.put (by omega) hst.out.2.1 HX.out ⟨_,HY.out,HM1.out⟩,HB4.out.owns hst.out.2.2.1 (by omega),O4.out,HAT.out _ H4.out,HR4.out⟩⟩,by simp [intOf];omega⟩
     ·have HM1:=hid hm1
      have e1:(y == (t:Int))=false:=beq_eq_false_iff_ne.2 fun e=>hm1 (.inl e)
      have e2:(y == -2)=false:=beq_eq_false_iff_ne.2 fun e=>hm1 (.inr e)
      clear hm1
      go_wp2_with fail
      refine ⟨⟨i+1,q,by go_num,by omega,hid ⟨hst.out.1,TokTo.next hst.out.2.1 fun h=>?_,hst.out.2.2.1,hst.out.2.2.2.1,HAT.out _ hst.out.2.2.2.2.1,hst.out.2.2.2.2.2⟩⟩,by simp [intOf];omega⟩
      obtain ⟨y',hy',h1⟩:=h.2
      rw [HY.out] at hy'
      cases hy'
      exact HM1.out h1
  ·have hin:i=n+1:=by omega
   subst hin
   go_upto_region 11 with fail
   apply wp_region_lit
   refine wpList_load_set hst.out.2.2.2.1 rfl _ rfl rfl ?_
   simp only [Act.put,sia,scz,scs]
   refine wpList_store_set hst.out.2.2.2.1 rfl _ _ rfl rfl rfl ?_
   intro w5 o5 b5
   simp only [Act.put]
   have O5:=hid o5
   have H5:=hid (XE.At.fresh HA0.out hst.out.2.2.2.2.1 b5 (by have:=HB.out;omega))
   have HR5:=hid (XE.R.fresh HA0.out hst.out.2.2.2.2.2 b5 (by have:=HB.out;omega))
   clear o5 b5 k1 k3 kl
   go_wp2_with fail
   refine bodyPost_ret (ret_set rfl _ O5.out rfl) rfl ?_
   rw [← HQ.out]
   refine ⟨q,rfl,hst.out.1,?_,H5.out.iff fun x=>or_congr Iff.rfl ?_,HR5.out⟩
   ·rw [HN.out];exact hst.out.2.1
   ·rw [HN.out]
    exact ⟨fun h=>h.2,fun h=>⟨by omega,h⟩⟩
end Go.Proofs.YtppjmdanckdobaaGreatDoor
