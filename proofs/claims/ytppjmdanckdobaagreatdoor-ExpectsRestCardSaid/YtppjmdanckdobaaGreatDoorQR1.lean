/- What a grammar's nodes are, as a type of its own, and how one lies in memory. -/
import Derived.Test.YtppjmdanckdobaaGreatDoorRows
import Derived.WalkKit
import Derived.ProofKit
namespace Go.Proofs.YtppjmdanckdobaaGreatDoor
open Go.RowKit
theorem sia {α:Type} {xs:List α} {i:Nat} {a:α}:xs.toArray.setIfInBounds i a=(xs.set i a).toArray:=List.setIfInBounds_toArray ..
theorem scz {α:Type} {x:α} {xs:List α} {a:α}:(x::xs).set 0 a=a::xs:=rfl
theorem scs {α:Type} {x:α} {xs:List α} {i:Nat} {a:α}:(x::xs).set (i+1) a=x::xs.set i a:=rfl
def reachN:Nat:=140737488355328
theorem ret_int {k:IntKind} {a b:Int} (h:a=b):Ending.returned (.int k a)=.returned (.int k b):=by rw [h]
theorem ret_bool {a b:Bool} (h:a=b):Ending.returned (.bool a)=.returned (.bool b):=by rw [h]
def sameB (a b:ByteArray):Bool:=a.toList == b.toList
theorem sameB_refl (a:ByteArray):sameB a a=true:=by simp [sameB]
theorem sameB_iff (a b:ByteArray):sameB a b=true↔a.toList=b.toList:=by simp [sameB]
inductive Nd where
 | mk (kind:Int) (name text:ByteArray) (set:List (Int × Int)) (subs:List Nd)
namespace Nd
def kind:Nd→Int | .mk k _ _ _ _=>k
def name:Nd→ByteArray | .mk _ n _ _ _=>n
def text:Nd→ByteArray | .mk _ _ t _ _=>t
def set:Nd→List (Int × Int) | .mk _ _ _ s _=>s
def subs:Nd→List Nd | .mk _ _ _ _ l=>l
end Nd
def RangesAt (W:World) (lim:Nat) (a:Option Addr) (i:Nat):List (Int × Int)→Prop
 | []=>True
 | x::r=>(∃ b off,a=some ⟨b,off,none⟩∧b < lim∧W.cell? ⟨b,off+i * 2,none⟩=some (.int .i32 x.1)∧W.cell? ⟨b,off+i * 2+1,none⟩=some (.int .i32 x.2))∧RangesAt W lim a (i+1) r
mutual
def NodeAt (W:World) (lim:Nat) (c0 c1 c2 c3 c4:Option Value):Nd→Prop
 | .mk k nm tx set subs=>(0≤k∧k≤255)∧nm.size≤reachN∧tx.size≤reachN∧c0=some (.int .u8 k)∧c1=some (.string nm)∧c2=some (.string tx) ∧
   (∃ a cap,c3=some (.slice a set.length cap)∧set.length≤reachN∧RangesAt W lim a 0 set)∧(∃ a cap,c4=some (.slice a subs.length cap)∧subs.length≤min reachN cap∧NodesAt W lim a 0 subs)
def NodesAt (W:World) (lim:Nat) (a:Option Addr) (i:Nat):List Nd→Prop
 | []=>True
 | n::r=>(∃ b off,a=some ⟨b,off,none⟩∧b < lim∧NodeAt W lim (W.cell? ⟨b,off+i * 5,none⟩) (W.cell? ⟨b,off+i * 5+1,none⟩) (W.cell? ⟨b,off+i * 5+2,none⟩) (W.cell? ⟨b,off+i * 5+3,none⟩) (W.cell? ⟨b,off+i * 5+4,none⟩) n)∧NodesAt W lim a (i+1) r
end
theorem NodesAt.get {W:World} {lim:Nat} {a:Option Addr}:∀ {l:List Nd} {i k:Nat} (_:NodesAt W lim a i l) (hk:k < l.length),
  ∃ b off,a=some ⟨b,off,none⟩∧b < lim∧NodeAt W lim (W.cell? ⟨b,off+(i+k) * 5,none⟩) (W.cell? ⟨b,off+(i+k) * 5+1,none⟩) (W.cell? ⟨b,off+(i+k) * 5+2,none⟩) (W.cell? ⟨b,off+(i+k) * 5+3,none⟩) (W.cell? ⟨b,off+(i+k) * 5+4,none⟩) l[k]
 | [],_,_,_,hk=>absurd hk (by simp)
 | n::r,i,0,h,_=>by rw [NodesAt] at h;simpa using h.1
 | n::r,i,k+1,h,hk=>by
  rw [NodesAt] at h
  obtain ⟨b,off,h1,h2,h3⟩:=NodesAt.get (k:=k) h.2 (by simpa using hk)
  refine ⟨b,off,h1,h2,?_⟩
  have e:i+1+k=i+(k+1):=by omega
  rw [e] at h3
  simpa using h3
theorem RangesAt.keep {W W':World} {lim:Nat} (hb:Below lim W W') {a:Option Addr}:∀ {l:List (Int × Int)} {i:Nat},RangesAt W lim a i l→RangesAt W' lim a i l
 | [],_,_=>trivial
 | x::r,i,h=>by
  obtain ⟨⟨b,off,h1,h2,h3,h4⟩,h5⟩:=h
  exact ⟨⟨b,off,h1,h2,by rw [hb.cell h2];exact h3,by rw [hb.cell h2];exact h4⟩,RangesAt.keep hb h5⟩
mutual
theorem NodeAt.keep {W W':World} {lim:Nat} (hb:Below lim W W') {c0 c1 c2 c3 c4:Option Value}:∀ {n:Nd},NodeAt W lim c0 c1 c2 c3 c4 n→NodeAt W' lim c0 c1 c2 c3 c4 n
 | .mk k nm tx set subs,h=>by
  rw [NodeAt] at h ⊢
  obtain ⟨hk,h1,h2,h3,h4,h5,⟨a,cap,h6,h6',h7⟩,a',cap',h8,h8',h9⟩:=h
  exact ⟨hk,h1,h2,h3,h4,h5,⟨a,cap,h6,h6',h7.keep hb⟩,a',cap',h8,h8',NodesAt.keep hb h9⟩
theorem NodesAt.keep {W W':World} {lim:Nat} (hb:Below lim W W') {a:Option Addr}:∀ {l:List Nd} {i:Nat},NodesAt W lim a i l→NodesAt W' lim a i l
 | [],_,_=>by rw [NodesAt];trivial
 | n::r,i,h=>by
  rw [NodesAt] at h ⊢
  obtain ⟨⟨b,off,h1,h2,h3⟩,h5⟩:=h
  refine ⟨⟨b,off,h1,h2,?_⟩,NodesAt.keep hb h5⟩
  have e:∀ o,W'.cell? ⟨b,o,none⟩=W.cell? ⟨b,o,none⟩:=fun o=>hb.cell h2
  rw [e,e,e,e,e]
  exact NodeAt.keep hb h3
end
theorem RangesAt.mono {W:World} {lim lim':Nat} (hl:lim≤lim') {a:Option Addr}:∀ {l:List (Int × Int)} {i:Nat},RangesAt W lim a i l→RangesAt W lim' a i l
 | [],_,_=>trivial
 | x::r,i,h=>by
  obtain ⟨⟨b,off,h1,h2,h3,h4⟩,h5⟩:=h
  exact ⟨⟨b,off,h1,by omega,h3,h4⟩,RangesAt.mono hl h5⟩
mutual
theorem NodeAt.mono {W:World} {lim lim':Nat} (hl:lim≤lim') {c0 c1 c2 c3 c4:Option Value}:∀ {n:Nd},NodeAt W lim c0 c1 c2 c3 c4 n→NodeAt W lim' c0 c1 c2 c3 c4 n
 | .mk k nm tx set subs,h=>by
  rw [NodeAt] at h ⊢
  obtain ⟨hk,h1,h2,h3,h4,h5,⟨a,cap,h6,h6',h7⟩,a',cap',h8,h8',h9⟩:=h
  exact ⟨hk,h1,h2,h3,h4,h5,⟨a,cap,h6,h6',h7.mono hl⟩,a',cap',h8,h8',NodesAt.mono hl h9⟩
theorem NodesAt.mono {W:World} {lim lim':Nat} (hl:lim≤lim') {a:Option Addr}:∀ {l:List Nd} {i:Nat},NodesAt W lim a i l→NodesAt W lim' a i l
 | [],_,_=>by rw [NodesAt];trivial
 | n::r,i,h=>by
  rw [NodesAt] at h ⊢
  obtain ⟨⟨b,off,h1,h2,h3⟩,h5⟩:=h
  exact ⟨⟨b,off,h1,by omega,NodeAt.mono hl h3⟩,NodesAt.mono hl h5⟩
end
theorem NodeAt.vals {W:World} {lim:Nat} {c0 c1 c2 c3 c4:Option Value} {n:Nd} (h:NodeAt W lim c0 c1 c2 c3 c4 n) :
  ∃ v0 v1 v2 v3 v4,c0=some v0∧c1=some v1∧c2=some v2∧c3=some v3∧c4=some v4∧NodeAt W lim (some v0) (some v1) (some v2) (some v3) (some v4) n:=by
 cases n with
 | mk k nm tx set subs =>
  have h':=h
  rw [NodeAt] at h
  obtain ⟨hk,h1,h2,rfl,rfl,rfl,⟨a,cap,rfl,h6',h7⟩,a',cap',rfl,h8',h9⟩:=h
  exact ⟨_,_,_,_,_,rfl,rfl,rfl,rfl,rfl,h'⟩
theorem NodeAt.forms {W:World} {lim:Nat} {v0 v1 v2 v3 v4:Value} {n:Nd} (h:NodeAt W lim (some v0) (some v1) (some v2) (some v3) (some v4) n) :
  ∃ k nm tx sa sl sc na nl nc,v0=.int .u8 k∧v1=.string nm∧v2=.string tx∧v3=.slice sa sl sc∧v4=.slice na nl nc:=by
 cases n with
 | mk k nm tx set subs =>
  rw [NodeAt] at h
  obtain ⟨hk,h1,h2,h3,h4,h5,⟨a,cap,h6,h6',h7⟩,a',cap',h8,h8',h9⟩:=h
  exact ⟨k,nm,tx,a,_,cap,a',_,cap',Option.some.inj h3,Option.some.inj h4,Option.some.inj h5,Option.some.inj h6,Option.some.inj h8⟩
theorem Nd.ind {P:Nd→Prop} (h:∀ k nm tx set subs,(∀ i (hi:i < subs.length),P subs[i])→P (.mk k nm tx set subs)):∀ n,P n
 | .mk k nm tx set subs=>h k nm tx set subs fun i hi=>Nd.ind h subs[i]
termination_by n=>SizeOf.sizeOf n
decreasing_by
 have:=List.sizeOf_lt_of_mem (List.getElem_mem hi)
 simp only [Nd.mk.sizeOf_spec]
 omega
end Go.Proofs.YtppjmdanckdobaaGreatDoor

/- Samples,plain: what a node derives,from a place of a list to another one;which rules are asked on the way. -/
namespace Go.Proofs.YtppjmdanckdobaaGreatDoor
structure Fst where
 long:Int
 w:List Int
deriving DecidableEq
structure Bk where
 rules:List (ByteArray × Nat)
 tokens:List (ByteArray × Nat)
 kinds:List Int
 bodies:List Nd
 firsts:List Fst
def lookS:List (ByteArray × Nat)→ByteArray→Option Nat
 | [],_=>none
 | x::r,nm=>if nm == x.1 then some x.2 else lookS r nm
def Bk.rule (B:Bk) (nm:ByteArray):Nat:=(lookS B.rules nm).getD 0
def Bk.tok (B:Bk) (nm:ByteArray):Nat:=(lookS B.tokens nm).getD 0
def tokM (w:List Int) (i t:Nat):Prop:=∃ x,w[i]? = some x∧(x=(t:Int)∨x = -2)
mutual
inductive Der (B:Bk) (w:List Int):Nd→Nat→Nat→Prop
 | tok {nm tx:ByteArray} {set:List (Int × Int)} {subs:List Nd} {i:Nat} (h:tokM w i (B.tok nm)):Der B w (.mk 6 nm tx set subs) i (i+1)
 | ref {nm tx:ByteArray} {set:List (Int × Int)} {subs:List Nd} {i j:Nat} {n:Nd} (h:B.bodies[B.rule nm]? = some n) (hd:Der B w n i j):Der B w (.mk 5 nm tx set subs) i j
 | seq {nm tx:ByteArray} {set:List (Int × Int)} {subs:List Nd} {i j:Nat} (h:DerL B w subs i j):Der B w (.mk 1 nm tx set subs) i j
 | alt {nm tx:ByteArray} {set:List (Int × Int)} {subs:List Nd} {i j:Nat} {x:Nd} (hx:x∈subs) (h:Der B w x i j):Der B w (.mk 0 nm tx set subs) i j
 | opt0 {nm tx:ByteArray} {set:List (Int × Int)} {subs:List Nd} {i:Nat}:Der B w (.mk 2 nm tx set subs) i i
 | opt {nm tx:ByteArray} {set:List (Int × Int)} {x:Nd} {r:List Nd} {i j:Nat} (h:Der B w x i j):Der B w (.mk 2 nm tx set (x::r)) i j
 | star0 {nm tx:ByteArray} {set:List (Int × Int)} {subs:List Nd} {i:Nat}:Der B w (.mk 3 nm tx set subs) i i
 | star {nm tx:ByteArray} {set:List (Int × Int)} {x:Nd} {r:List Nd} {i j:Nat} (h:DerP B w x i j):Der B w (.mk 3 nm tx set (x::r)) i j
 | plus {nm tx:ByteArray} {set:List (Int × Int)} {x:Nd} {r:List Nd} {i j:Nat} (h:DerP B w x i j):Der B w (.mk 4 nm tx set (x::r)) i j
 | other {k:Int} {nm tx:ByteArray} {set:List (Int × Int)} {subs:List Nd} {i:Nat} (hk:k < 0∨6 < k):Der B w (.mk k nm tx set subs) i i
inductive DerL (B:Bk) (w:List Int):List Nd→Nat→Nat→Prop
 | nil {i:Nat}:DerL B w [] i i
 | cons {x:Nd} {r:List Nd} {i j k:Nat} (h:Der B w x i j) (hr:DerL B w r j k):DerL B w (x::r) i k
inductive DerP (B:Bk) (w:List Int):Nd→Nat→Nat→Prop
 | one {x:Nd} {i j:Nat} (h:Der B w x i j):DerP B w x i j
 | more {x:Nd} {i j k:Nat} (h:DerP B w x i j) (hr:Der B w x j k):DerP B w x i k
end
mutual
inductive Vis (B:Bk) (w:List Int):Nd→Nat→Nat→Nat→Prop
 | ref {nm tx:ByteArray} {set:List (Int × Int)} {subs:List Nd} {i:Nat}:Vis B w (.mk 5 nm tx set subs) i (B.rule nm) i
 | seq {nm tx:ByteArray} {set:List (Int × Int)} {subs:List Nd} {i r a:Nat} (h:VisL B w subs i r a):Vis B w (.mk 1 nm tx set subs) i r a
 | alt {nm tx:ByteArray} {set:List (Int × Int)} {subs:List Nd} {i r a:Nat} {x:Nd} (hx:x∈subs) (h:Vis B w x i r a):Vis B w (.mk 0 nm tx set subs) i r a
 | loop {k:Int} {nm tx:ByteArray} {set:List (Int × Int)} {x:Nd} {l:List Nd} {i r a:Nat} (hk:k=2∨k=3∨k=4) (h:Vis B w x i r a):Vis B w (.mk k nm tx set (x::l)) i r a
 | again {k:Int} {nm tx:ByteArray} {set:List (Int × Int)} {x:Nd} {l:List Nd} {i j r a:Nat} (hk:k=3∨k=4) (hd:DerP B w x i j) (h:Vis B w x j r a):Vis B w (.mk k nm tx set (x::l)) i r a
inductive VisL (B:Bk) (w:List Int):List Nd→Nat→Nat→Nat→Prop
 | here {x:Nd} {l:List Nd} {i r a:Nat} (h:Vis B w x i r a):VisL B w (x::l) i r a
 | next {x:Nd} {l:List Nd} {i j r a:Nat} (hd:Der B w x i j) (h:VisL B w l j r a):VisL B w (x::l) i r a
end
mutual
theorem Der.le {B:Bk} {w:List Int} {n:Nd} {i j:Nat}:Der B w n i j→i≤j∧(i≤w.length→j≤w.length)
 | .tok ⟨x,h,_⟩=>⟨by omega,fun _=>(List.getElem?_eq_some_iff.1 h).1⟩
 | .ref _ hd=>hd.le
 | .seq h=>h.le
 | .alt _ h=>h.le
 | .opt0=>⟨Nat.le_refl _,id⟩
 | .opt h=>h.le
 | .star0=>⟨Nat.le_refl _,id⟩
 | .star h=>h.le
 | .plus h=>h.le
 | .other _=>⟨Nat.le_refl _,id⟩
theorem DerL.le {B:Bk} {w:List Int} {l:List Nd} {i j:Nat}:DerL B w l i j→i≤j∧(i≤w.length→j≤w.length)
 | .nil=>⟨Nat.le_refl _,id⟩
 | .cons h hr=>⟨Nat.le_trans h.le.1 hr.le.1,fun hi=>hr.le.2 (h.le.2 hi)⟩
theorem DerP.le {B:Bk} {w:List Int} {n:Nd} {i j:Nat}:DerP B w n i j→i≤j∧(i≤w.length→j≤w.length)
 | .one h=>h.le
 | .more h hr=>⟨Nat.le_trans h.le.1 hr.le.1,fun hi=>hr.le.2 (h.le.2 hi)⟩
end
mutual
theorem Vis.le {B:Bk} {w:List Int} {n:Nd} {i r a:Nat}:Vis B w n i r a→i≤a∧(i≤w.length→a≤w.length)
 | .ref=>⟨Nat.le_refl _,id⟩
 | .seq h=>h.le
 | .alt _ h=>h.le
 | .loop _ h=>h.le
 | .again _ hd h=>⟨Nat.le_trans hd.le.1 h.le.1,fun hi=>h.le.2 (hd.le.2 hi)⟩
theorem VisL.le {B:Bk} {w:List Int} {l:List Nd} {i r a:Nat}:VisL B w l i r a→i≤a∧(i≤w.length→a≤w.length)
 | .here h=>h.le
 | .next hd h=>⟨Nat.le_trans hd.le.1 h.le.1,fun hi=>h.le.2 (hd.le.2 hi)⟩
end
def Bits (q:Nat) (P:Nat→Prop):Prop:=q < 2 ^ 65∧∀ j,q.testBit j=true↔P j
theorem Bits.zero:Bits 0 fun _=>False:=⟨by omega,fun j=>by simp⟩
theorem Bits.or {a b:Nat} {P Q:Nat→Prop} (ha:Bits a P) (hb:Bits b Q):Bits (a ||| b) fun j=>P j∨Q j :=
 ⟨Nat.or_lt_two_pow ha.1 hb.1,fun j=>by rw [Nat.testBit_or,Bool.or_eq_true,ha.2,hb.2]⟩
theorem Bits.pow {i:Nat} (hi:i≤64):Bits (2 ^ i) fun j=>j=i :=
 ⟨Nat.pow_lt_pow_right (by omega) (by omega),fun j=>by rw [Nat.testBit_two_pow,decide_eq_true_eq];exact eq_comm⟩
theorem Bits.iff {q:Nat} {P Q:Nat→Prop} (h:Bits q P) (he:∀ j,P j↔Q j):Bits q Q:=⟨h.1,fun j=>(h.2 j).trans (he j)⟩
theorem Bits.eq {a b:Nat} {P:Nat→Prop} (ha:Bits a P) (hb:Bits b P):a=b :=
 Nat.eq_of_testBit_eq fun j=>by rw [Bool.eq_iff_iff,ha.2,hb.2]
theorem Bits.self {q:Nat} (h:q < 2 ^ 65):Bits q fun j=>q.testBit j=true:=⟨h,fun _=>Iff.rfl⟩
theorem Bits.lt128 {q:Nat} {P:Nat→Prop} (h:Bits q P):q < 2 ^ 128:=Nat.lt_of_lt_of_le h.1 (Nat.pow_le_pow_right (by omega) (by omega))
def From (m:Nat) (D:Nat→Nat→Prop) (j:Nat):Prop:=∃ i,m.testBit i=true∧D i j
end Go.Proofs.YtppjmdanckdobaaGreatDoor
