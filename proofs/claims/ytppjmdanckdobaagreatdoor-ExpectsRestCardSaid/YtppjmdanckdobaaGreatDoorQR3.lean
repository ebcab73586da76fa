/- A block of the call's own, known whole; a scope with a label to which it jumps back. -/
import Derived.Lib.Hide
import Derived.ScopeJumps
import Derived.Laws.OwnMore
import Derived.Outline
import Derived.Test.YtppjmdanckdobaaGreatDoorQR2
import Derived.Test.YtppjmdanckdobaaGreatDoorQR1
namespace Go.Proofs.YtppjmdanckdobaaGreatDoor
open Go.RowKit
open Lib (hid)
def Owns (W:World) (b:Nat) (cs:List Value) (T:Nat):Prop:=W.heap[b]? = some (.cells cs.toArray T (0,0))
theorem Owns.lt {W:World} {b:Nat} {cs:List Value} {T:Nat} (h:Owns W b cs T):b < W.heap.size:=(Array.getElem?_eq_some_iff.1 h).1
theorem Owns.cell {W:World} {b:Nat} {cs:List Value} {T:Nat} (h:Owns W b cs T) (i:Nat):W.cell? ⟨b,i,none⟩=cs[i]?:=by
 unfold Owns at h
 simp [World.cell?,h]
theorem Owns.free {W:World} {b:Nat} {cs:List Value} {T:Nat} (h:Owns W b cs T) (i:Nat):W.frozen? ⟨b,i,none⟩=false:=by
 unfold Owns at h
 simp [World.frozen?,h]
theorem Owns.keep {W W':World} {b:Nat} {cs:List Value} {T:Nat} (h:Owns W b cs T) (hg:Grew W W'):Owns W' b cs T:=by
 unfold Owns at *
 rw [hg.block b (Owns.lt h)];exact h
theorem Owns.set {W:World} {b:Nat} {cs:List Value} {T:Nat} (h:Owns W b cs T) (i:Nat) (v:Value):Owns (W.setCell ⟨b,i,none⟩ v) b (cs.set i v) T:=by
 unfold Owns at *
 simp [World.setCell,Array.getElem?_modify,h]
theorem Owns.other {W:World} {b:Nat} {cs:List Value} {T:Nat} (h:Owns W b cs T) {a:Addr} (hne:a.block≠b) (v:Value):Owns (W.setCell a v) b cs T:=by
 unfold Owns at *
 rw [Below.heap_setCell _ _ _ _ (fun e=>hne e.symm)];exact h
theorem Owns.alloc (W:World) (cs:List Value) (T:Nat):Owns (W.alloc (.cells cs.toArray T)) W.heap.size cs T:=by
 unfold Owns
 show (W.heap.push _)[W.heap.size]? = _
 simp
theorem Owns.cell_at {W:World} {b:Nat} {cs:List Value} {T:Nat} (h:Owns W b cs T) {i:Nat} {v:Value} (hi:cs[i]? = some v):W.cell? ⟨b,i,none⟩=some v:=by rw [h.cell,hi]
section
variable {P:Program} {a:Act} {w:World} {Q:Exit→Act→World→Prop}
theorem wp_scope_again {r1 rest:Code} {l:Nat} (J:Act→World→Prop) (μ:Act→World→Nat) (hf:findLabel (.seq r1 (.seq (.label l) rest)) l=some (.seq .skip rest))
  (first:r1.wp P (fun e a w=>e=.normal∧J a w) a w)
  (pass:∀ a w,J a w→rest.wp P (Exit.jump l (fun a' w'=>J a' w'∧μ a' w' < μ a w) Q) a w):(Code.scope (.seq r1 (.seq (.label l) rest))).wp P Q a w:=by
 refine wp_scope_jumps l J μ hf ?_ fun a w hJ=>wp_seq (wp_skip (pass a w hJ))
 refine wp_seq (Code.wp_mono ?_ first)
 rintro e a w ⟨rfl,hJ⟩
 refine wp_seq (wp_label (Code.wp_mono ?_ (pass a w hJ)))
 intro e a w hq
 cases e<;>first | exact hq | exact ⟨hq.1,hq.2.1⟩
end
theorem act_lit (a:Act) (n:Nat) (hd:a.defers=[]) (hs:a.tmps.size=n):∃ u:Nat→Value,(∀ k,a.tmps.getD k undef=u k)∧a=⟨((List.range n).map u).toArray,[]⟩:=by
 refine ⟨fun k=>a.tmps.getD k undef,fun _=>rfl,?_⟩
 obtain ⟨t,d⟩:=a
 simp only at hd hs
 subst hd
 congr 1
 apply Array.ext
 ·simp [hs]
 ·intro i h1 h2
  simp [h1]
theorem made_bools (n:Nat):madeCells #[.bool false] n=(List.replicate n (Value.bool false)).toArray:=by
 apply Array.toList_inj.1
 rw [toList_madeCells_one]
end Go.Proofs.YtppjmdanckdobaaGreatDoor

/- A grammar's rules,and how they lie in memory. -/
namespace Go.Proofs.YtppjmdanckdobaaGreatDoor
open Go.RowKit
open Lib (hid)
structure Rl where
 name:ByteArray
 sort:Int
 body:Nd
 p0:Int
 p1:Int
 p2:Int
structure Gr where
 name:ByteArray
 bound:Int
 states:Int
 rules:List Rl
def InI64 (n:Int):Prop:=-9223372036854775808≤n∧n≤9223372036854775807
def RuleAt (W:World) (lim:Nat) (c0 c1 c2 c3 c4 c5 c6 c7 c8 c9:Option Value) (r:Rl):Prop :=
 c0=some (.string r.name)∧r.name.size≤reachN∧c1=some (.int .u8 r.sort)∧(0≤r.sort∧r.sort≤255)∧NodeAt W lim c2 c3 c4 c5 c6 r.body ∧
 c7=some (.int .i64 r.p0)∧c8=some (.int .i64 r.p1)∧c9=some (.int .i64 r.p2)∧InI64 r.p0∧InI64 r.p1∧InI64 r.p2
def RulesAt (W:World) (lim:Nat) (a:Option Addr) (i:Nat):List Rl→Prop
 | []=>True
 | n::r=>(∃ b off,a=some ⟨b,off,none⟩∧b < lim∧RuleAt W lim (W.cell? ⟨b,off+i * 10,none⟩) (W.cell? ⟨b,off+i * 10+1,none⟩) (W.cell? ⟨b,off+i * 10+2,none⟩) (W.cell? ⟨b,off+i * 10+3,none⟩) (W.cell? ⟨b,off+i * 10+4,none⟩)
   (W.cell? ⟨b,off+i * 10+5,none⟩) (W.cell? ⟨b,off+i * 10+6,none⟩) (W.cell? ⟨b,off+i * 10+7,none⟩) (W.cell? ⟨b,off+i * 10+8,none⟩) (W.cell? ⟨b,off+i * 10+9,none⟩) n)∧RulesAt W lim a (i+1) r
def GrAt (W:World) (lim:Nat) (c0 c1 c2 c3:Option Value) (g:Gr):Prop :=
 c0=some (.string g.name)∧g.name.size≤reachN∧c1=some (.int .i64 g.bound)∧c2=some (.int .i64 g.states)∧InI64 g.bound∧InI64 g.states ∧
 ∃ a cap,c3=some (.slice a g.rules.length cap)∧g.rules.length≤reachN∧RulesAt W lim a 0 g.rules
theorem RulesAt.get {W:World} {lim:Nat} {a:Option Addr}:∀ {l:List Rl} {i k:Nat} (_:RulesAt W lim a i l) (hk:k < l.length),
  ∃ b off,a=some ⟨b,off,none⟩∧b < lim∧RuleAt W lim (W.cell? ⟨b,off+(i+k) * 10,none⟩) (W.cell? ⟨b,off+(i+k) * 10+1,none⟩) (W.cell? ⟨b,off+(i+k) * 10+2,none⟩) (W.cell? ⟨b,off+(i+k) * 10+3,none⟩) (W.cell? ⟨b,off+(i+k) * 10+4,none⟩)
   (W.cell? ⟨b,off+(i+k) * 10+5,none⟩) (W.cell? ⟨b,off+(i+k) * 10+6,none⟩) (W.cell? ⟨b,off+(i+k) * 10+7,none⟩) (W.cell? ⟨b,off+(i+k) * 10+8,none⟩) (W.cell? ⟨b,off+(i+k) * 10+9,none⟩) l[k]
 | [],_,_,_,hk=>absurd hk (by simp)
 | n::r,i,0,h,_=>by simpa using h.1
 | n::r,i,k+1,h,hk=>by
  obtain ⟨b,off,h1,h2,h3⟩:=RulesAt.get (k:=k) h.2 (by simpa using hk)
  refine ⟨b,off,h1,h2,?_⟩
  have e:i+1+k=i+(k+1):=by omega
  rw [e] at h3
  simpa using h3
theorem RuleAt.keep {W W':World} {lim:Nat} (hb:Below lim W W') {c0 c1 c2 c3 c4 c5 c6 c7 c8 c9:Option Value} {r:Rl} (h:RuleAt W lim c0 c1 c2 c3 c4 c5 c6 c7 c8 c9 r):RuleAt W' lim c0 c1 c2 c3 c4 c5 c6 c7 c8 c9 r :=
 ⟨h.1,h.2.1,h.2.2.1,h.2.2.2.1,h.2.2.2.2.1.keep hb,h.2.2.2.2.2⟩
theorem RuleAt.mono {W:World} {lim lim':Nat} (hl:lim≤lim') {c0 c1 c2 c3 c4 c5 c6 c7 c8 c9:Option Value} {r:Rl} (h:RuleAt W lim c0 c1 c2 c3 c4 c5 c6 c7 c8 c9 r):RuleAt W lim' c0 c1 c2 c3 c4 c5 c6 c7 c8 c9 r :=
 ⟨h.1,h.2.1,h.2.2.1,h.2.2.2.1,h.2.2.2.2.1.mono hl,h.2.2.2.2.2⟩
theorem RulesAt.keep {W W':World} {lim:Nat} (hb:Below lim W W') {a:Option Addr}:∀ {l:List Rl} {i:Nat},RulesAt W lim a i l→RulesAt W' lim a i l
 | [],_,_=>trivial
 | n::r,i,h=>by
  obtain ⟨⟨b,off,h1,h2,h3⟩,h5⟩:=h
  refine ⟨⟨b,off,h1,h2,?_⟩,RulesAt.keep hb h5⟩
  have e:∀ o,W'.cell? ⟨b,o,none⟩=W.cell? ⟨b,o,none⟩:=fun o=>hb.cell h2
  simp only [e]
  exact h3.keep hb
theorem RulesAt.mono {W:World} {lim lim':Nat} (hl:lim≤lim') {a:Option Addr}:∀ {l:List Rl} {i:Nat},RulesAt W lim a i l→RulesAt W lim' a i l
 | [],_,_=>trivial
 | n::r,i,h=>by
  obtain ⟨⟨b,off,h1,h2,h3⟩,h5⟩:=h
  exact ⟨⟨b,off,h1,by omega,h3.mono hl⟩,RulesAt.mono hl h5⟩
theorem GrAt.keep {W W':World} {lim:Nat} (hb:Below lim W W') {c0 c1 c2 c3:Option Value} {g:Gr} (h:GrAt W lim c0 c1 c2 c3 g):GrAt W' lim c0 c1 c2 c3 g:=by
 obtain ⟨h1,h2,h3,h4,h5,h6,a,cap,h7,h8,h9⟩:=h
 exact ⟨h1,h2,h3,h4,h5,h6,a,cap,h7,h8,h9.keep hb⟩
theorem GrAt.mono {W:World} {lim lim':Nat} (hl:lim≤lim') {c0 c1 c2 c3:Option Value} {g:Gr} (h:GrAt W lim c0 c1 c2 c3 g):GrAt W lim' c0 c1 c2 c3 g:=by
 obtain ⟨h1,h2,h3,h4,h5,h6,a,cap,h7,h8,h9⟩:=h
 exact ⟨h1,h2,h3,h4,h5,h6,a,cap,h7,h8,h9.mono hl⟩
theorem RuleAt.vals {W:World} {lim:Nat} {c0 c1 c2 c3 c4 c5 c6 c7 c8 c9:Option Value} {r:Rl} (h:RuleAt W lim c0 c1 c2 c3 c4 c5 c6 c7 c8 c9 r) :
  ∃ v2 v3 v4 v5 v6,c0=some (.string r.name)∧c1=some (.int .u8 r.sort)∧c2=some v2∧c3=some v3∧c4=some v4∧c5=some v5∧c6=some v6 ∧
   c7=some (.int .i64 r.p0)∧c8=some (.int .i64 r.p1)∧c9=some (.int .i64 r.p2) ∧
   RuleAt W lim (some (.string r.name)) (some (.int .u8 r.sort)) (some v2) (some v3) (some v4) (some v5) (some v6) (some (.int .i64 r.p0)) (some (.int .i64 r.p1)) (some (.int .i64 r.p2)) r ∧
   NodeAt W lim (some v2) (some v3) (some v4) (some v5) (some v6) r.body:=by
 have h':=h
 obtain ⟨rfl,h2,rfl,h4,h5,rfl,rfl,rfl,h9⟩:=h
 obtain ⟨u0,u1,u2,u3,u4,rfl,rfl,rfl,rfl,rfl,hn⟩:=h5.vals
 exact ⟨_,_,_,_,_,rfl,rfl,rfl,rfl,rfl,rfl,rfl,rfl,rfl,rfl,h',hn⟩
end Go.Proofs.YtppjmdanckdobaaGreatDoor

/- slices.IndexFunc over rules;nulls.Find. -/
namespace Go.Proofs.YtppjmdanckdobaaGreatDoor
open Go.RowKit
open Lib (hid)
def ixOf {α:Type} (l:List α) (q:α→Bool):Int :=
 match l.findIdx? q with
 | some i=>i
 | none=>-1
theorem ixOf_at {α:Type} {l:List α} {q:α→Bool} {j:Nat} (hj:j < l.length) (h:∀ i (hi:i < l.length),i < j→q l[i]=false) (hq:q l[j]=true):ixOf l q=j:=by
 unfold ixOf
 have:l.findIdx? q=some j:=by
  rw [List.findIdx?_eq_some_iff_getElem]
  exact ⟨hj,hq,fun i hi=>by simpa using h i (by omega) hi⟩
 rw [this]
theorem ixOf_none {α:Type} {l:List α} {q:α→Bool} (h:∀ i (hi:i < l.length),q l[i]=false):ixOf l q = -1:=by
 unfold ixOf
 have:l.findIdx? q=none:=by
  rw [List.findIdx?_eq_none_iff]
  intro x hx
  obtain ⟨i,hi,rfl⟩:=List.mem_iff_getElem.1 hx
  simpa using h i hi
 rw [this]
theorem ixOf_cases {α:Type} (l:List α) (q:α→Bool):(ixOf l q = -1∧∀ i (hi:i < l.length),q l[i]=false)∨∃ j,∃ hj:j < l.length,ixOf l q=j∧q l[j]=true∧∀ i (hi:i < l.length),i < j→q l[i]=false:=by
 unfold ixOf
 cases h:l.findIdx? q with
 | none =>
  rw [List.findIdx?_eq_none_iff] at h
  exact .inl ⟨rfl,fun i hi=>by simpa using h _ (List.getElem_mem hi)⟩
 | some j =>
  rw [List.findIdx?_eq_some_iff_getElem] at h
  obtain ⟨hj,hq,hn⟩:=h
  exact .inr ⟨j,hj,rfl,hq,fun i hi hlt=>by simpa using hn i hlt⟩
def NoneTo {α:Type} (l:List α) (q:α→Bool) (j:Nat):Prop:=∀ i (hi:i < l.length),i < j→q l[i]=false
theorem noneTo_next {α:Type} {l:List α} {q:α→Bool} {j:Nat} (h:NoneTo l q j) (hj:j < l.length) (hq:q l[j]=false):NoneTo l q (j+1):=by
 intro i hi hlt
 by_cases e:i=j
 ·subst e;exact hq
 ·exact h i hi (by omega)
def Enters (F:Nat):Prop:=∀ (args:Array Value) (w:World),(callFunc F args).run Tryz.prog w=.ok (.enter F args) w
theorem enters146:Enters 146:=fun _ _=>by kernel_rfl
set_option maxHeartbeats 1000000 in
set_option maxRecDepth 20000 in
theorem indexRules_ok (l:List Rl) (q:Rl→Bool) (F:Nat) (cp:Array Value) (hF:Enters F) (W:World) (a:Option Addr) (cap:Nat) (hl:l.length≤reachN) (hR:RulesAt W W.heap.size a 0 l)
  (HF:Hid (∀ (i:Nat) (hi:i < l.length) (W':World) (v0 v1 v2 v3 v4 v5 v6 v7 v8 v9:Value),Below W.heap.size W W'→RuleAt W' W'.heap.size (some v0) (some v1) (some v2) (some v3) (some v4) (some v5) (some v6) (some v7) (some v8) (some v9) l[i] →
   Calls Tryz.prog F (#[.agg #[v0,v1,v2,v3,v4,v5,v6,v7,v8,v9]]++cp) W' fun e W2=>e=.returned (.bool (q l[i]))∧Below W'.heap.size W' W2)) :
  Calls Tryz.prog 79 #[.slice a l.length cap,.func (.func F) #[] cp] W fun e W'=>e=.returned (.int .i64 (ixOf l q))∧Below W.heap.size W W':=by
 unfold reachN at hl
 go_enter Tryz.func79,Tryz.ntmps79
 go_wp2
 go_loopw [8] (fun i wr=>∃ (j:Nat),i=.int .i64 j∧j≤l.length∧Hid (NoneTo l q j)∧Below W.heap.size W wr) (fun i _=>l.length - (intOf i).toNat)
 case atStart =>
  exact ⟨0,rfl,by omega,fun i hi h=>absurd h (by omega),Below.refl _ _⟩
 case round =>
  obtain ⟨j,rfl,hj,hf,hbw⟩:=hrel
  by_cases hlt:j < l.length
  ·obtain ⟨b,off,rfl,hb,hrule⟩:=(hR.keep hbw).get hlt
   simp only [Nat.zero_add] at hrule
   obtain ⟨u2,u3,u4,u5,u6,e0,e1,e2,e3,e4,e5,e6,e7,e8,e9,hrule,hnode⟩:=hrule.vals
   have HS:=hid (HF.out j hlt wr _ _ _ _ _ _ _ _ _ _ hbw (hrule.mono hbw.size))
   clear hrule hnode hR HF
   have hFx:=hF
   unfold Enters at hFx
   clear hF
   obtain ⟨t,ht⟩:∃ t,t=q l[j]:=⟨_,rfl⟩
   rw [← ht] at HS
   have HQ:=hid ht
   clear ht
   cases t
   ·go_wp2_with (refine HS.out.mono ?_;rintro e w2 ⟨rfl,hb2⟩)
    exact ⟨⟨j+1,by go_num,by omega,noneTo_next hf.out hlt HQ.out.symm,hbw.trans (hb2.mono hbw.size)⟩,by simp [intOf];omega⟩
   ·go_wp2_with (refine HS.out.mono ?_;rintro e w2 ⟨rfl,hb2⟩)
    go_ret
    exact ⟨ret_int (ixOf_at hlt hf.out HQ.out.symm).symm,hbw.trans (hb2.mono hbw.size)⟩
  ·go_wp2_with fail
   go_ret
   exact ⟨ret_int (ixOf_none fun i hi=>hf.out i hi (by omega)).symm,hbw⟩
theorem find1_ok (r:Rl) (W:World) (v0 v1 v2 v3 v4 v5 v6 v7 v8 v9:Value) (b:Nat) (name:ByteArray) (hb:W.cell? ⟨b,0,none⟩=some (.string name))
  (hR:RuleAt W W.heap.size (some v0) (some v1) (some v2) (some v3) (some v4) (some v5) (some v6) (some v7) (some v8) (some v9) r) :
  Calls Tryz.prog 146 (#[.agg #[v0,v1,v2,v3,v4,v5,v6,v7,v8,v9]]++#[.pointer (some ⟨b,0,none⟩)]) W fun e W2=>e=.returned (.bool (sameB r.name name))∧Below W.heap.size W W2:=by
 obtain rfl:=Option.some.inj hR.1
 clear hR
 have hlt:b < W.heap.size:=by
  rcases Nat.lt_or_ge b W.heap.size with h | h
  ·exact h
  ·simp [World.cell?,Array.getElem?_eq_none h] at hb
 simp only [List.append_toArray,List.cons_append,List.nil_append]
 go_enter Tryz.func146,Tryz.ntmps146
 go_wp2
 go_ret
 exact ⟨rfl,(Below.refl _ _).alloc (Nat.le_refl _) _⟩
def Gr.find (g:Gr) (name:ByteArray):Int:=ixOf g.rules fun r=>sameB r.name name
theorem find_ok (g:Gr) (name:ByteArray) (W:World) (v0 v1 v2 v3:Value) (hG:GrAt W W.heap.size (some v0) (some v1) (some v2) (some v3) g) :
  Calls Tryz.prog 120 #[.agg #[v0,v1,v2,v3],.string name] W fun e W'=>e=.returned (.int .i64 (g.find name))∧Below W.heap.size W W':=by
 obtain ⟨h1,hs,h2,h3,h4,h5,ra,rc,h6,h7,h8⟩:=hG
 obtain rfl:=Option.some.inj h1
 obtain rfl:=Option.some.inj h2
 obtain rfl:=Option.some.inj h3
 obtain rfl:=Option.some.inj h6
 clear h1 h2 h3 h4 h5 h6
 have hB:Below W.heap.size W ((W.alloc (.cells #[.string g.name,.int .i64 g.bound,.int .i64 g.states,.slice ra g.rules.length rc] 44)).alloc (.cells #[.string name] 9)):=((Below.refl _ _).alloc (Nat.le_refl _) _).alloc (by simp) _
 have hc:((W.alloc (.cells #[.string g.name,.int .i64 g.bound,.int .i64 g.states,.slice ra g.rules.length rc] 44)).alloc (.cells #[.string name] 9)).cell? ⟨W.heap.size+1,0,none⟩=some (.string name):=by simp [go_sem]
 have hc2:W.heap.size+1 < ((W.alloc (.cells #[.string g.name,.int .i64 g.bound,.int .i64 g.states,.slice ra g.rules.length rc] 44)).alloc (.cells #[.string name] 9)).heap.size:=by simp
 have hS:=hid (indexRules_ok g.rules (fun r=>sameB r.name name) 146 #[.pointer (some ⟨W.heap.size+1,0,none⟩)] enters146 _ ra rc h7 ((h8.keep hB).mono hB.size)
  (fun i hi W' v0 v1 v2 v3 v4 v5 v6 v7 v8 v9 hb hr=>find1_ok _ W' _ _ _ _ _ _ _ _ _ _ _ name (by rw [hb.cell hc2];exact hc) hr))
 have HB:=hid hB
 clear hB hc hc2 h8
 unfold reachN at h7 hs
 go_enter Tryz.func120,Tryz.ntmps120
 go_wp2_with (go_at_call 79;refine hS.out.mono ?_;rintro e w' ⟨rfl,hb2⟩)
 go_ret
 exact ⟨rfl,HB.out.trans (hb2.mono (by simp;omega))⟩
end Go.Proofs.YtppjmdanckdobaaGreatDoor

/- Places as bits: two words;one,with,has. -/
namespace Go.Proofs.YtppjmdanckdobaaGreatDoor
open Go.RowKit
open Lib (hid)
def plV (m:Nat):Value:=.agg #[.int .u64 ((m % 2 ^ 64:Nat):Int),.int .u64 ((m / 2 ^ 64:Nat):Int)]
theorem wrap_u64 {n:Int} (h0:0≤n) (h1:n < 18446744073709551616):IntKind.u64.wrap n=n:=by
 have hm:n % 18446744073709551616=n:=by omega
 unfold IntKind.wrap
 simp [IntKind.bits,IntKind.signed,hm]
theorem bits_or {a b:Nat} (ha:a < 2 ^ 64) (hb:b < 2 ^ 64):bits .or .u64 (a:Int) (b:Int)=((a ||| b:Nat):Int):=by
 have hor:a ||| b < 18446744073709551616:=Nat.or_lt_two_pow ha hb
 have e:(BitVec.ofInt 64 (a:Int) ||| BitVec.ofInt 64 (b:Int)).toNat=a ||| b:=by
  rw [BitVec.toNat_or,BitVec.ofInt_natCast,BitVec.ofInt_natCast,BitVec.toNat_ofNat,BitVec.toNat_ofNat,Nat.mod_eq_of_lt ha,Nat.mod_eq_of_lt hb]
 have h:bits .or .u64 (a:Int) (b:Int)=IntKind.u64.wrap (((BitVec.ofInt 64 (a:Int) ||| BitVec.ofInt 64 (b:Int)).toNat:Nat):Int):=rfl
 rw [h,e,wrap_u64 (by omega) (by omega)]
theorem bits_and1 {a:Nat} (ha:a < 2 ^ 64):bits .and .u64 (a:Int) 1=((a % 2:Nat):Int):=by
 have e:(BitVec.ofInt 64 (a:Int) &&& BitVec.ofInt 64 (1:Int)).toNat=a % 2:=by
  have h1:BitVec.ofInt 64 (1:Int)=1#64:=rfl
  rw [h1,BitVec.toNat_and,BitVec.ofInt_natCast,BitVec.toNat_ofNat,BitVec.toNat_ofNat,Nat.mod_eq_of_lt ha]
  show a &&& 1=a % 2
  exact Nat.and_one_is_mod a
 have h:bits .and .u64 (a:Int) 1=IntKind.u64.wrap (((BitVec.ofInt 64 (a:Int) &&& BitVec.ofInt 64 (1:Int)).toNat:Nat):Int):=rfl
 rw [h,e,wrap_u64 (by omega) (by omega)]
theorem or_mod (a b:Nat):(a ||| b) % 2 ^ 64=a % 2 ^ 64 ||| b % 2 ^ 64:=Nat.or_mod_two_pow
theorem or_div (a b:Nat):(a ||| b) / 2 ^ 64=a / 2 ^ 64 ||| b / 2 ^ 64:=by
 rw [← Nat.shiftRight_eq_div_pow,← Nat.shiftRight_eq_div_pow,← Nat.shiftRight_eq_div_pow,Nat.shiftRight_or_distrib]
theorem bit_at (m i:Nat) (hi:i < 128):m.testBit i=decide (((if i < 64 then m % 2 ^ 64 else m / 2 ^ 64) / 2 ^ (i % 64)) % 2=1):=by
 by_cases h:i < 64
 ·rw [if_pos h,Nat.mod_eq_of_lt h,← Nat.testBit_eq_decide_div_mod_eq,Nat.testBit_mod_two_pow]
  simp [h]
 ·rw [if_neg h,← Nat.testBit_eq_decide_div_mod_eq,Nat.testBit_div_two_pow]
  congr 1
  omega
theorem plV_or (a b:Nat):plV (a ||| b)=.agg #[.int .u64 ((a % 2 ^ 64 ||| b % 2 ^ 64:Nat):Int),.int .u64 ((a / 2 ^ 64 ||| b / 2 ^ 64:Nat):Int)]:=by
 unfold plV
 rw [or_mod,or_div]
theorem heap_new2 (W:World) (o1 o2 o3:Obj):(((W.alloc o1).alloc o2).alloc o3).heap[W.heap.size+1+1]? = some o3:=by
 have h:=heap_alloc_new ((W.alloc o1).alloc o2) o3
 simpa using h
set_option maxRecDepth 20000 in
theorem spwith_ok (a b:Nat) (ha:a < 2 ^ 128) (hb:b < 2 ^ 128) (W:World):Calls Tryz.prog 132 #[plV a,plV b] W fun e W'=>e=.returned (plV (a ||| b))∧Grew W W':=by
 have h0:=bits_or (a:=a % 2 ^ 64) (b:=b % 2 ^ 64) (by omega) (by omega)
 have h1:=bits_or (a:=a / 2 ^ 64) (b:=b / 2 ^ 64) (by omega) (by omega)
 rw [plV_or]
 unfold plV
 generalize a % 2 ^ 64=a0 at *
 generalize a / 2 ^ 64=a1 at *
 generalize b % 2 ^ 64=b0 at *
 generalize b / 2 ^ 64=b1 at *
 clear ha hb
 generalize ((a0 ||| b0:Nat):Int)=q0 at *
 generalize ((a1 ||| b1:Nat):Int)=q1 at *
 go_enter Tryz.func132,Tryz.ntmps132
 go_wp2_with fail
 refine bodyPost_ret (results_cell_row (d:=Tryz.prog.underlying 125 |>.getD default) rfl _ _ (W.heap.size+1+1) 125 _ (0,0) rfl (heap_new2 _ _ _ _) rfl rfl rfl) rfl ?_
 exact ⟨rfl,((grew_alloc _ _).trans (grew_alloc _ _)).trans (grew_alloc _ _)⟩
theorem plV_pow (i:Nat):plV (2 ^ i)=if i < 64 then .agg #[.int .u64 ((2 ^ i:Nat):Int),.int .u64 0] else .agg #[.int .u64 0,.int .u64 ((2 ^ (i - 64):Nat):Int)]:=by
 unfold plV
 by_cases h:i < 64
 ·have h1:2 ^ i < 2 ^ 64:=Nat.pow_lt_pow_right (by omega) h
  rw [if_pos h,Nat.mod_eq_of_lt h1,Nat.div_eq_of_lt h1];rfl
 ·obtain ⟨r,rfl⟩:∃ r,i=64+r:=⟨i - 64,by omega⟩
  rw [if_neg h,Nat.pow_add,Nat.mul_mod_right,Nat.mul_div_cancel_left _ (by omega),Nat.add_sub_cancel_left];rfl
set_option maxRecDepth 20000 in
theorem sone_ok (i:Nat) (hi:i < 128) (W:World):Calls Tryz.prog 94 #[.int .i64 (i:Int)] W fun e W'=>e=.returned (plV (2 ^ i))∧Grew W W':=by
 have hw:∀ r:Nat,r < 64→IntKind.u64.wrap (2 ^ r)=((2 ^ r:Nat):Int):=fun r hr=>by
  have hp:2 ^ r < 18446744073709551616:=Nat.pow_lt_pow_right (a:=2) (n:=64) (by omega) hr
  have e:(2:Int) ^ r=((2 ^ r:Nat):Int):=by norm_cast
  rw [e]
  generalize 2 ^ r=q at *
  exact wrap_u64 (by omega) (by omega)
 rw [plV_pow]
 by_cases h:i < 64
 ·rw [if_pos h]
  have e1:(i:Int) / 64=0:=by omega
  have e2:(i:Int) % 64=(i:Int):=by omega
  have e3:=hw i h
  generalize ((2 ^ i:Nat):Int)=q at *
  clear hw
  go_enter Tryz.func94,Tryz.ntmps94
  go_wp2_with fail
  refine bodyPost_ret (results_cell_row (d:=Tryz.prog.underlying 125 |>.getD default) rfl _ _ W.heap.size 125 _ (0,0) rfl (heap_alloc_new _ _) rfl rfl rfl) rfl ?_
  exact ⟨rfl,grew_alloc _ _⟩
 ·rw [if_neg h]
  have e1:(i:Int) / 64=1:=by omega
  have e2:(i:Int) % 64=((i - 64:Nat):Int):=by omega
  have e3:=hw (i - 64) (by omega)
  have e4:i - 64 < 64:=by omega
  generalize i - 64=r at *
  generalize ((2 ^ r:Nat):Int)=q at *
  clear hw
  go_enter Tryz.func94,Tryz.ntmps94
  go_wp2_with fail
  refine bodyPost_ret (results_cell_row (d:=Tryz.prog.underlying 125 |>.getD default) rfl _ _ W.heap.size 125 _ (0,0) rfl (heap_alloc_new _ _) rfl rfl rfl) rfl ?_
  exact ⟨rfl,grew_alloc _ _⟩
theorem beq_one (q:Nat):((q:Int) == 1)=decide (q=1):=by
 rw [Bool.eq_iff_iff,beq_iff_eq,decide_eq_true_eq]
 omega
set_option maxRecDepth 20000 in
theorem sphas_ok (m i:Nat) (hm:m < 2 ^ 128) (hi:i < 128) (W:World):Calls Tryz.prog 60 #[plV m,.int .i64 (i:Int)] W fun e W'=>e=.returned (.bool (m.testBit i))∧Grew W W':=by
 rw [bit_at m i hi]
 have hlo:m % 2 ^ 64 < 2 ^ 64:=by omega
 have hhi:m / 2 ^ 64 < 2 ^ 64:=by omega
 unfold plV
 generalize m % 2 ^ 64=a0 at *
 generalize m / 2 ^ 64=a1 at *
 clear hm
 have hb:∀ (a r:Nat),a < 2 ^ 64→bits .and .u64 ((a:Int) / 2 ^ r) 1=((a / 2 ^ r % 2:Nat):Int):=fun a r ha=>by
  have e:(a:Int) / 2 ^ r=((a / 2 ^ r:Nat):Int):=by norm_cast
  rw [e,bits_and1 (Nat.lt_of_le_of_lt (Nat.div_le_self _ _) ha)]
 by_cases h:i < 64
 ·rw [if_pos h]
  have e1:(i:Int) / 64=0:=by omega
  have e2:(i:Int) % 64=((i % 64:Nat):Int):=by omega
  have e3:=hb a0 (i % 64) hlo
  have e4:i % 64 < 64:=by omega
  generalize i % 64=r at *
  generalize a0 / 2 ^ r % 2=q at *
  clear hb
  go_enter Tryz.func60,Tryz.ntmps60
  go_wp2_with fail
  go_ret
  exact ⟨ret_bool (beq_one q),grew_alloc _ _⟩
 ·rw [if_neg h]
  have e1:(i:Int) / 64=1:=by omega
  have e2:(i:Int) % 64=((i % 64:Nat):Int):=by omega
  have e3:=hb a1 (i % 64) hhi
  have e4:i % 64 < 64:=by omega
  generalize i % 64=r at *
  generalize a1 / 2 ^ r % 2=q at *
  clear hb
  go_enter Tryz.func60,Tryz.ntmps60
  go_wp2_with fail
  go_ret
  exact ⟨ret_bool (beq_one q),grew_alloc _ _⟩
def W2 (m:Nat) (z0 z1:Int):Prop:=z0=((m % 2 ^ 64:Nat):Int)∧z1=((m / 2 ^ 64:Nat):Int)
theorem W2.pl {m:Nat} {z0 z1:Int} (h:W2 m z0 z1):plV m=.agg #[.int .u64 z0,.int .u64 z1]:=by
 unfold plV
 rw [← h.1,← h.2]
theorem W2.ex (m:Nat):∃ z0 z1,W2 m z0 z1:=⟨_,_,rfl,rfl⟩
theorem W2.zero:W2 0 0 0:=⟨rfl,rfl⟩
theorem W2.inj {a b:Nat} {z0 z1:Int} (h:W2 a z0 z1) (k:W2 b z0 z1):a=b:=by
 have h1:=h.1.symm.trans k.1
 have h2:=h.2.symm.trans k.2
 omega
theorem swith2 {a b:Nat} {x0 x1 y0 y1:Int} (ha:a < 2 ^ 128) (hb:b < 2 ^ 128) (hx:W2 a x0 x1) (hy:W2 b y0 y1) (W:World) :
  Calls Tryz.prog 132 #[.agg #[.int .u64 x0,.int .u64 x1],.agg #[.int .u64 y0,.int .u64 y1]] W fun e W'=>(∃ z0 z1,e=.returned (.agg #[.int .u64 z0,.int .u64 z1])∧W2 (a ||| b) z0 z1)∧Grew W W':=by
 have h:=spwith_ok a b ha hb W
 rw [hx.pl,hy.pl] at h
 refine h.mono ?_
 rintro e W' ⟨rfl,hg⟩
 obtain ⟨z0,z1,hz⟩:=W2.ex (a ||| b)
 exact ⟨⟨z0,z1,by rw [hz.pl],hz⟩,hg⟩
theorem sone2 (i:Nat) (hi:i < 128) (W:World):Calls Tryz.prog 94 #[.int .i64 (i:Int)] W fun e W'=>(∃ z0 z1,e=.returned (.agg #[.int .u64 z0,.int .u64 z1])∧W2 (2 ^ i) z0 z1)∧Grew W W':=by
 refine (sone_ok i hi W).mono ?_
 rintro e W' ⟨rfl,hg⟩
 obtain ⟨z0,z1,hz⟩:=W2.ex (2 ^ i)
 exact ⟨⟨z0,z1,by rw [hz.pl],hz⟩,hg⟩
theorem shas2 {m:Nat} {z0 z1:Int} (i:Nat) (hm:m < 2 ^ 128) (hi:i < 128) (hz:W2 m z0 z1) (W:World):Calls Tryz.prog 60 #[.agg #[.int .u64 z0,.int .u64 z1],.int .i64 (i:Int)] W fun e W'=>e=.returned (.bool (m.testBit i))∧Grew W W':=by
 have h:=sphas_ok m i hm hi W
 rw [hz.pl] at h
 exact h
end Go.Proofs.YtppjmdanckdobaaGreatDoor

/- Ways through a net,in plain Lean: what is reached by whom;the laws of joining and of fewer tokens. No program in sight. -/
namespace Go.Proofs.YtppjmdanckdobaaGreatDoor
open Lib (hid)
structure Edg where
 kind:Int
 what:Int
 to:Int
structure Sta where
 rule:Int
 edges:List Edg
 ends:List Int
structure Net where
 states:List Sta
 starts:List Int
 stops:List Int
 preds:List Int
 decisions:List Int
abbrev Key:=Option (Nat × Nat)
abbrev Pl:=Nat × Nat
namespace Net
def edges (N:Net) (s:Nat):List Edg:=(N.states[s]?.map (·.edges)).getD []
def ends (N:Net) (s:Nat):List Int:=(N.states[s]?.map (·.ends)).getD []
def start (N:Net) (r:Nat):Nat:=(N.starts.getD r 0).toNat
def stop (N:Net) (r:Nat):Nat:=(N.stops.getD r 0).toNat
end Net
section
variable {N:Net} {w:List Int} {p0:Pl} {over:Int}
def Key.at:Key→Nat
 | none=>0
 | some (_,t)=>t
end
end Go.Proofs.YtppjmdanckdobaaGreatDoor
