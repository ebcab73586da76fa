/- derives, has, Long, Has. -/
import Derived.Lib.AppendZerosOnto
import Derived.Lib.Walk
import Derived.Lib.SliceRun
import Derived.Test.YtppjmdanckdobaaGreatDoorQR9
import Derived.Test.YtppjmdanckdobaaGreatDoorQR5
import Derived.Test.YtppjmdanckdobaaGreatDoorQR4
namespace Go.Proofs.YtppjmdanckdobaaGreatDoor
open Go.RowKit
open Lib (hid)
theorem FstAt.mono {w:World} {lim lim':Nat} {c0 c1:Option Value} {f:Fst} (h:FstAt w lim c0 c1 f) (hl:lim≤lim'):FstAt w lim' c0 c1 f:=by
 obtain ⟨h1,v,h2,h3,h4⟩:=h
 exact ⟨h1,v,h2,h3,fun g hg=>Nat.lt_of_lt_of_le (h4 g hg) hl⟩
theorem BookAt.mono {w:World} {lim lim' bk:Nat} {V:BV} {B:Bk} (h:BookAt w lim bk V B) (hl:lim≤lim') (hs:lim'≤w.heap.size):BookAt w lim' bk V B :=
 ⟨hs,Nat.lt_of_lt_of_le h.blk hl,h.box,h.rules,h.tokens,⟨Nat.lt_of_lt_of_le h.rlo.1 hl,Nat.lt_of_lt_of_le h.rlo.2 hl⟩,h.kinds.mono hl,h.bodies.mono hl,fun k hk=>by
  obtain ⟨b,off,e,h1,h2⟩:=h.firsts k hk
  exact ⟨b,off,e,Nat.lt_of_lt_of_le h1 hl,h2.mono hl⟩,h.few⟩
structure Bk.Good (B:Bk):Prop where
 lp:∀ n∈B.bodies,n.lp
 rank:∀ w:List Int,w.length≤64→∃ rank,Ranked B w rank
def Bk.D (B:Bk) (r:Nat) (w:List Int):Prop:=∃ n,B.bodies[r]? = some n∧Der B w n 0 w.length
set_option maxHeartbeats 4000000 in
set_option maxRecDepth 20000 in
theorem sderives_ok (B:Bk) (hG:B.Good) (r:Nat) (hr:r < B.bodies.length) (V:BV) (bk lim:Nat) (wl:List Int) (hwl:wl.length≤64) (wv:Value) (W:World) (hB:BookAt W lim bk V B) (hT:IntsV W W.heap.size wv wl) :
  Calls Tryz.prog 36 #[.pointer (some ⟨bk,0,none⟩),.int .i64 (r:Int),wv] W fun e W'=>∃ b,e=.returned (.bool b)∧(b=true↔B.D r wl)∧Grew W W':=by
 have hmk:∀ (t:TypeId) (w:World),(Instr.makeMap t none).run Tryz.prog w=.ok (.map (some w.heap.size)) (w.alloc (.map #[] 0)):=fun _ _=>rfl
 obtain ⟨kb,hkb⟩:∃ kb,W.heap.size=kb:=⟨_,rfl⟩
 obtain ⟨w1,hw1⟩:∃ w1,W.alloc (.map #[] 0)=w1:=⟨_,rfl⟩
 have g1:Grew W w1:=hw1▸grew_alloc W _
 have y1:w1.heap.size=kb+1:=by rw [← hkb,← hw1];exact World.size_alloc _ _
 have hm1:(Instr.makeMap 120 none).run Tryz.prog W=.ok (.map (some kb)) w1:=by rw [hmk,hw1,hkb]
 obtain ⟨w2,hw2⟩:∃ w2,w1.alloc (.cells #[.pointer (some ⟨bk,0,none⟩),wv,.map (some kb)] 122)=w2:=⟨_,rfl⟩
 have g2:Grew w1 w2:=hw2▸grew_alloc w1 _
 have o2:Owns w2 (kb+1) [.pointer (some ⟨bk,0,none⟩),wv,.map (some kb)] 122:=y1▸hw2▸Owns.alloc w1 _ _
 have hl:=hB.low
 have hmap:w2.heap[kb]? = some (mapObj (spotL [])):=by
  rw [g2.block kb (by omega),← hw1,← hkb]
  exact heap_alloc_new W _
 obtain ⟨rank,hrank⟩:=hG.rank wl hwl
 have hA:SE.At ⟨W.heap.size,kb+1,kb,bk,V,wv,B,wl⟩ w2 :=
  ⟨⟨((hB.mono hl (Nat.le_refl _)).keep (g1.trans g2)),o2,hT.keep (g1.trans g2),⟨by show W.heap.size≤kb+1;omega,by show W.heap.size≤kb;omega⟩,hwl⟩,⟨[],hmap,by simp⟩⟩
 have HC:=hid (ask_all _ hG.lp rank hrank r 0 hr (Nat.zero_le _) w2 hA)
 unfold SE.ptr at HC
 dsimp only at HC
 have HG2:=hid (g1.trans g2)
 have HK:=hid hkb
 have HWL:=hid hwl
 have HF:=hid (fun (b:Bool) w' (h1:b=true↔B.D r wl) (h2:Grew W w')=>show (fun e W'=>∃ b,e=Ending.returned (.bool b)∧(b=true↔B.D r wl)∧Grew W W') (.returned (.bool b)) w' from ⟨b,rfl,h1,h2⟩)
 obtain ⟨a,cap,rfl,-⟩:=hT
 obtain ⟨Q,hQ⟩:∃ Q,(fun e W'=>∃ b,e=Ending.returned (.bool b)∧(b=true↔B.D r wl)∧Grew W W')=Q:=⟨_,rfl⟩
 rw [hQ] at HF ⊢
 clear hQ
 obtain ⟨n,hn⟩:∃ n,wl.length=n:=⟨_,rfl⟩
 have HN:=hid hn
 clear hB g1 g2 o2 hl hmap hA hrank hG hmk hwl
 rw [hn] at hw2 HC ⊢
 clear hn
 go_enter Tryz.func36,Tryz.ntmps36
 go_wp2_with fail
 refine HC.out.mono ?_
 rintro e w3 ⟨q,z0,z1,rfl,hz,hb,hr⟩
 have HHAS:=hid (shas2 n hb.lt128 (by have:=HWL.out;have:=HN.out;omega) hz w3)
 have HB:=hid hb
 have HR:=hid hr
 clear hz hb hr HC hw1 hw2 y1 hm1 hkb
 go_wp2_with fail
 refine HHAS.out.mono ?_
 rintro e w4 ⟨rfl,hg⟩
 have HG4:=hid hg
 clear hg
 go_wp2_with fail
 show Q (.returned (.bool (q.testBit n))) w4
 refine HF.out _ _ ((HB.out.2 n).trans ?_) (Grew.trans (Below.trans HG2.out (WR.below HR.out HG2.out.size (Nat.le_of_eq HK.out))) HG4.out)
 rw [← HN.out]
 exact Iff.rfl
def hasR (B:Bk) (r:Int):Bool:=decide (0≤r)&&decide (r < B.bodies.length)
set_option maxHeartbeats 4000000 in
set_option maxRecDepth 20000 in
theorem sbhas_ok (B:Bk) (r:Int) (V:BV) (bk lim:Nat) (W:World) (hB:BookAt W lim bk V B) :
  Calls Tryz.prog 35 #[.pointer (some ⟨bk,0,none⟩),.int .i64 r] W fun e W'=>e=.returned (.bool (hasR B r))∧W'=W:=by
 have c3:=hB.box.cell_at (i:=3) rfl
 have cl:=hB.box.lt
 unfold hasR
 obtain ⟨n,hn⟩:∃ n,B.bodies.length=n:=⟨_,rfl⟩
 rw [hn] at c3 ⊢
 clear hn hB
 go_enter Tryz.func35,Tryz.ntmps35
 by_cases h0:0≤r
 ·by_cases h1:r < (n:Int)
  ·rw [show (decide (0≤r)&&decide (r < (n:Int)))=true by simp [h0,h1]]
   go_wp2_with fail
   go_ret
   exact ⟨rfl,rfl⟩
  ·rw [show (decide (0≤r)&&decide (r < (n:Int)))=false by simp [h0,h1]]
   go_wp2_with fail
   go_ret
   exact ⟨rfl,rfl⟩
 ·rw [show (decide (0≤r)&&decide (r < (n:Int)))=false by simp [h0]]
  go_wp2_with fail
  go_ret
  exact ⟨rfl,rfl⟩
set_option maxHeartbeats 4000000 in
set_option maxRecDepth 20000 in
theorem slong_ok (B:Bk) (r:Int) (V:BV) (bk lim:Nat) (W:World) (hB:BookAt W lim bk V B) :
  Calls Tryz.prog 17 #[.pointer (some ⟨bk,0,none⟩),.int .i64 r] W fun e W'=>e=.returned (.int .i64 (if hasR B r then (B.firsts.getD r.toNat ⟨-1,[]⟩).long else -1))∧W'=W:=by
 have HH:=hid (sbhas_ok B r V bk lim W hB)
 have c4:=hB.box.cell_at (i:=4) rfl
 have cl:=hB.box.lt
 have hf:=hB.firsts
 have hlow:=hB.low
 have hlen:=hB.few.2
 cases hh:hasR B r with
 | false =>
  rw [hh] at HH
  clear hf
  go_enter Tryz.func17,Tryz.ntmps17
  go_wp2_with fail
  refine HH.out.mono ?_
  rintro e w ⟨rfl,rfl⟩
  go_wp2_with fail
  go_ret
  exact ⟨rfl,rfl⟩
 | true =>
  rw [hh] at HH
  unfold hasR at hh
  rw [Bool.and_eq_true,decide_eq_true_eq,decide_eq_true_eq] at hh
  obtain ⟨k,rfl⟩:=Int.eq_ofNat_of_zero_le hh.1
  have hk:k < B.firsts.length:=by omega
  obtain ⟨b,off,e,hl,h1,-⟩:=hf k hk
  rw [e] at c4
  have hl2:b < W.heap.size:=by omega
  have hi:(k:Int) < (B.firsts.length:Int):=by omega
  rw [if_pos rfl,Int.toNat_natCast,List.getD_eq_getElem?_getD,List.getElem?_eq_getElem hk,Option.getD_some]
  obtain ⟨x,hx⟩:∃ x,B.firsts[k].long=x:=⟨_,rfl⟩
  rw [hx] at h1 ⊢
  clear hf hx hB e hlen hh
  clear hk
  generalize B.firsts.length=n at *
  go_enter Tryz.func17,Tryz.ntmps17
  go_wp2_with fail
  refine HH.out.mono ?_
  rintro e w ⟨rfl,rfl⟩
  go_wp2_with fail
  go_ret
  exact ⟨rfl,rfl⟩
end Go.Proofs.YtppjmdanckdobaaGreatDoor

/- slices.Grow of nil,slices.Concat of integers (as PCat,beside FoOf). -/
namespace Go.Proofs.YtppjmdanckdobaaGreatDoor
open Go.RowKit
open Lib (hid)
section
variable {P:Program} (w:World)
theorem wpList_append_run {ops:Array Oper} {rest:List Oper} {o:Oper} {a:Act} {Q:Exit→Act→World→Prop} {w':World} (hgd:o.guard=none) (s x:Operand) (t tn:TypeId)
  (ho:o.op=.call { callee:=.builtin .append,args:=#[s,x],argTypes:=#[t,tn] }) (vs vx v:Value) (hs:a.eval s=vs) (hx:a.eval x=vx)
  (hr:(Builtin.append_ #[t,tn] o.type #[vs,vx]).run P w=.ok v w') (h:wpList P ops Q rest (a.put o.dst v) w'):wpList P ops Q (o::rest) a w :=
 wpList_plain hgd fun _ hK=>by
  unfold Oper.wp execOp
  simp only [ho,resolve,invoke,builtin,Sem.run_bind,Sem.run_pure,Result.andThen_ok,List.map_toArray,List.map_cons,List.map_nil,hs,hx,hr]
  exact hK _ _ h
theorem run_append_nothing (t ty:TypeId) (base:Nat) (e:TypeId) (i:TypeInfo) (size:Nat) (ht:P.underlying t=some (.slice e)) (hi:P.info? e=some i) (hsize:i.size=size)
  (v:Value) (n:Nat) (xs:List Value) (hown:looseRow w base e size v n xs) (ad:Option Addr) (c:Nat) :
  (Builtin.append_ #[t,t] ty #[v,.slice ad 0 c]).run P w=.ok v w:=by
 subst hsize
 have hf:(Builtin.firstCells i.size 0 (.slice ad 0 c)).run P w=.ok #[] w:=by
  cases ad with
  | none=>simp [Builtin.firstCells]
  | some a=>simp [Builtin.firstCells,loadCells,loadCellsFrom]
 rcases hown.2 with ⟨rfl,rfl⟩ | ⟨g,cap,cur,rfl,hbg,hg,hnc,hcm,hcs,htake⟩
 ·simp [Builtin.append_,run_underlying ht,sizeOf,typeInfo,hi,Builtin.lenOf,hf]
 ·simp [Builtin.append_,run_underlying ht,sizeOf,typeInfo,hi,Builtin.lenOf,hf,hnc,storeCells]
end
theorem intVs_len (l:List Int):(intVs l).length=l.length * 1:=by simp [intVs]
set_option maxHeartbeats 1000000 in
set_option maxRecDepth 20000 in
theorem grow_ints (n:Nat) (hn:n≤1000000) (W:World):Calls Tryz.prog 43 #[.slice none 0 0,.int .i64 n] W fun e W'=>∃ v,e=.returned v∧looseRow W' 0 3 1 v 0 []∧Grew W W'∧(∀ g,v.ownBlock=some g→W.heap.size≤g):=by
 obtain ⟨i0,hi,hz0,hz1,hz2⟩:=info_parts info_int
 by_cases h0:n=0
 ·subst h0
  clear hi hz0 hz1 hz2
  have e0:IntKind.i64.wrap 0=0:=by decide
  go_enter Tryz.func43,Tryz.ntmps43
  go_wp2_with fail
  go_ret
  exact ⟨_,rfl,⟨rfl,.inl ⟨rfl,rfl⟩⟩,Grew.refl W,fun g hg=>by cases hg⟩
 ·have hw:IntKind.i64.wrap (n:Int)=n:=by rw [IntKind.wrap_i64];omega
  have e0:IntKind.i64.wrap 0=0:=by decide
  have h1:¬ ((n:Int) < 0):=by omega
  have h2:(n:Int) > 0:=by omega
  have hap:∀ ty,(Builtin.append_ #[22,3] ty #[.slice none 0 0,.int .i64 n]).run Tryz.prog W=.ok (.slice (some ⟨W.heap.size,0,none⟩) n (grownCap W n 0 3)) (W.drew.alloc (.cells (Builtin.zeroCells (Value.int .i64 0).cells n++Builtin.zeroCells (Value.int .i64 0).cells (grownCap W n 0 3 - n)) 3)):=by
   intro ty
   have:=Lib.run_append_grow_zeros W 22 3 ty 3 i0 (.int .i64 0) .i64 .i64 Tryz.underlying22 Tryz.underlying3 hi hz0 none 0 0 [] (by rw [hz1];exact run_firstCells_none W.drew 1 0 0 0) n (by omega) (by omega) (by omega) (by omega) (by rw [hz2];omega) (by rw [hz2];exact growslice_fits (by omega) (by omega))
   simpa using this
  have hge:=grownCap_ge W n 0 3
  have hle:=grownCap_le_maxLen W n 0 3 (by unfold maxLen;omega)
  generalize grownCap W n 0 3=c at *
  have hsz:(Builtin.zeroCells (Value.int .i64 0).cells n++Builtin.zeroCells (Value.int .i64 0).cells (c - n)).size=c:=by
   rw [Array.size_append,size_zeroCells,size_zeroCells]
   simp [Value.cells]
   omega
  generalize Builtin.zeroCells (Value.int .i64 0).cells n++Builtin.zeroCells (Value.int .i64 0).cells (c - n)=cs at *
  have HSZ:=hid hsz
  clear hi hz0 hz1 hz2 hsz
  go_enter Tryz.func43,Tryz.ntmps43
  go_wp2_with (at_builtin;refine wpList_append_run _ rfl _ _ 22 3 rfl _ _ _ rfl rfl (hap _) ?_)
  go_ret
  refine ⟨_,rfl,⟨rfl,.inr ⟨W.heap.size,c,cs,rfl,Nat.zero_le _,?_,by omega,hle,by have:=HSZ.out;omega,by simp⟩⟩,?_,fun g hg=>?_⟩
  ·show (W.heap.push _)[W.heap.size]? = _
   simp
  ·exact (grew_alloc W (.cells cs 3)).drew
  ·simp [Value.ownBlock] at hg
   omega
theorem run_append_nothing0 (v:Value) (n:Nat) (xs:List Value) (w:World) (h:looseRow w 0 3 1 v n xs) (ad:Option Addr) (c:Nat):∀ ty,(Builtin.append_ #[22,22] ty #[v,.slice ad 0 c]).run Tryz.prog w=.ok v w:=by
 obtain ⟨i0,hi,hz0,hz1,hz2⟩:=info_parts info_int
 exact fun ty=>run_append_nothing w 22 ty 0 3 i0 1 Tryz.underlying22 hi hz1 v n xs h ad c
def lens:List (List Int)→Nat
 | []=>0
 | l::r=>l.length+lens r
theorem lens_take_succ (L:List (List Int)) (j:Nat) (h:j < L.length):lens (L.take (j+1))=lens (L.take j)+L[j].length:=by
 induction L generalizing j with
 | nil=>exact absurd h (by simp)
 | cons l r ih =>
  cases j with
  | zero=>simp [lens]
  | succ j =>
   simp only [List.take_succ_cons,lens,List.getElem_cons_succ]
   rw [ih j (by simpa using h)]
   omega
theorem lens_take_le (L:List (List Int)):∀ j,lens (L.take j)≤lens L:=by
 induction L with
 | nil=>intro j;simp [lens]
 | cons l r ih =>
  intro j
  cases j with
  | zero=>simp [lens]
  | succ j=>simp only [List.take_succ_cons,lens];have:=ih j;omega
theorem intVs_flat_succ (L:List (List Int)) (j:Nat) (h:j < L.length):intVs (L.take (j+1)).flatten=intVs (L.take j).flatten++intVs L[j]:=by
 unfold intVs
 rw [List.take_succ_eq_append_getElem h,List.flatten_append,List.map_append]
 simp
theorem flat_len (L:List (List Int)):L.flatten.length=lens L:=by
 induction L with
 | nil=>rfl
 | cons l r ih=>simp [lens,ih]
structure Upto (W:World) (L:List (List Int)) (j:Nat) (v:Value) (w:World):Prop where
 row:looseRow w 0 3 1 v (lens (L.take j)) (intVs (L.take j).flatten)
 low:Grew W w
 own:∀ g,v.ownBlock=some g→W.heap.size≤g
set_option maxHeartbeats 1000000 in
set_option maxRecDepth 20000 in
theorem concatInts_ok (L:List (List Int)) (vs:List Value) (hlen:vs.length=L.length) (hsum:lens L≤1000000) (hL:L.length≤1000) (W:World) (rb rc:Nat) (hrb:rb < W.heap.size) (hcell:∀ k (h:k < vs.length),W.cell? ⟨rb,k,none⟩=some vs[k])
  (hv:∀ k (h:k < vs.length) (h2:k < L.length),IntsV W W.heap.size vs[k] L[k]) :
  Calls Tryz.prog 22 #[.slice (some ⟨rb,0,none⟩) L.length rc] W fun e W'=>∃ v,e=.returned v∧looseRow W' W.heap.size 3 1 v L.flatten.length (intVs L.flatten)∧Grew W W':=by
 go_enter Tryz.func22,Tryz.ntmps22
 go_wp2_with fail
 go_loopw [3,11] (fun s c wr=>∃ (j:Nat),c=.int .i64 j∧s=.int .i64 (lens (L.take j):Nat)∧j≤L.length∧wr=W) (fun _ c _=>L.length - (intOf c).toNat)
 case atStart=>exact ⟨0,rfl,by simp [lens],by omega,rfl⟩
 case round =>
  obtain ⟨j,rfl,rfl,hj,rfl⟩:=hrel
  by_cases hlt:j < L.length
  ·have hlt2:j < vs.length:=by omega
   have hc:=hcell j hlt2
   obtain ⟨a,cap,hvv,hA⟩:=hv j hlt2 hlt
   rw [hvv] at hc
   have hs:=lens_take_succ L j hlt
   have hs2:=lens_take_le L (j+1)
   have hwr:IntKind.i64.wrap (((lens (L.take j):Nat):Int)+((L[j].length:Nat):Int))=((lens (L.take (j+1)):Nat):Int):=by rw [IntKind.wrap_i64];omega
   have hnn:¬ (((lens (L.take (j+1)):Nat):Int) < 0):=by omega
   have HS:=hid hs
   clear hs hs2 hA hvv hcell hv
   go_wp2_with fail
   exact ⟨⟨j+1,by go_num,rfl,by omega,trivial⟩,by simp [intOf];omega⟩
  ·have hjl:j=L.length:=by omega
   subst hjl
   rw [List.take_length]
   have HG:=hid (grow_ints (lens L) hsum wr)
   go_wp2_with (refine HG.out.mono ?_;rintro e w2 ⟨v0,rfl,hr0,hg0,ho0⟩;have HR0:=hid hr0;have HG0:=hid hg0;have HO0:=hid ho0;clear hr0 hg0 ho0)
   clear hlt hj
   obtain ⟨i0,hi,hz0,hz1,hz2⟩:=info_parts info_int
   have HI:=hid hi
   have HZ0:=hid hz0
   have HZ1:=hid hz1
   have HZ2:=hid hz2
   have HV:=hid hv
   have HC:=hid hcell
   have HLL:=hid hlen
   have HSU:=hid hsum
   obtain ⟨wo,rfl⟩:∃ wo:World,wo=wr:=⟨_,rfl⟩
   clear hi hz0 hz1 hz2 hv hcell hsum hlen
   go_loopw [6,27] (fun v c w=>∃ (j:Nat),c=.int .i64 j∧j≤L.length∧Hid (Upto wo L j v w)) (fun _ c _=>L.length - (intOf c).toNat)
   case atStart=>exact ⟨0,rfl,by omega,HR0.out,HG0.out,HO0.out⟩
   case round =>
    obtain ⟨j,rfl,hj,hup⟩:=hrel
    by_cases hlt:j < L.length
    ·have hlt2:j < vs.length:=by have:=HLL.out;omega
     have hc:=(hup.out.low.cells _ _ hrb).trans (HC.out j hlt2)
     obtain ⟨a,cap,hvv,hA⟩:=HV.out j hlt2 hlt
     rw [hvv] at hc
     have hrl:rb < wr.heap.size:=by have:=hup.out.low.size;omega
     have hs:=lens_take_succ L j hlt
     have hfs:=intVs_flat_succ L j hlt
     have hle:=lens_take_le L (j+1)
     have hsu:=HSU.out
     by_cases hz:L[j]=[]
     ·have hl0:L[j].length=0:=by rw [hz];rfl
      rw [hl0] at hc hs
      have hnext:Upto wo L (j+1) u6 wr:=by
       refine ⟨?_,hup.out.low,hup.out.own⟩
       rw [hs,hfs,hz,Nat.add_zero]
       simpa [intVs] using hup.out.row
      have HN:=hid hnext
      have hap:=run_append_nothing0 u6 _ _ wr hup.out.row a cap
      have HAP:=hid hap
      clear hap hs hfs hle hsu hz hl0 hA hvv hnext hup
      go_wp2_with (at_builtin;refine wpList_append_run _ rfl _ _ 22 22 rfl _ _ _ rfl rfl (HAP.out _) ?_)
      exact ⟨⟨j+1,by go_num,by omega,HN.out⟩,by simp [intOf];omega⟩
     ·have hpos:0 < L[j].length:=by cases h:L[j] with | nil=>exact absurd h hz | cons _ _=>simp
      obtain ⟨b,off,rfl,hb,hcz⟩:=hA 0 hpos
      clear hcz
      have hnews:∀ k u,(intVs L[j])[k]? = some u→wr.cell? ((⟨b,off,none⟩:Addr).add k)=some u:=by
       intro k u hk
       unfold intVs at hk
       rw [List.getElem?_map] at hk
       obtain ⟨x,hx,rfl⟩:=Option.map_eq_some_iff.1 hk
       obtain ⟨hkl,hkx⟩:=List.getElem?_eq_some_iff.1 hx
       obtain ⟨b',o',he,hb',hcell⟩:=hA k hkl
       simp at he
       obtain ⟨rfl,rfl⟩:=he
       rw [padd_off,hup.out.low.cells _ _ hb',hcell,hkx]
      have hone:∀ u∈intVs L[j],u.oneCell'=true:=by
       intro u hu
       obtain ⟨x,_,rfl⟩:=List.mem_map.1 hu
       rfl
      have HNW:=hid hnews
      have HON:=hid hone
      have HLE:=hid (intVs_len L[j])
      have h63:lens (L.take j)+L[j].length≤maxLen:=by unfold maxLen;omega
      have h64:(lens (L.take j)+L[j].length) * 8≤140737488355328:=by omega
      have H63:=hid h63
      have H64:=hid h64
      have HP:=hid hpos
      have HS:=hid (And.intro hs hfs)
      clear hnews hone h63 h64 hpos hz hA hvv hb hs hfs hle hsu
      go_wp2_with (at_builtin;refine wpList_append_loose _ rfl _ _ 22 rfl 0 3 i0 _ 1 8 Tryz.underlying22 HI.out HZ0.out HZ1.out HZ2.out rfl (by decide) u6 (lens (L.take j)) (intVs (L.take j).flatten) rfl hup.out.row ⟨b,off,none⟩ L[j].length cap (intVs L[j]) rfl HLE.out HNW.out HON.out HP.out H63.out H64.out (Nat.zero_le _) _ rfl ?_;intro g cap' w7 hown hgrow hat hlt7;have HOWN:=hid hown;have HGROW:=hid hgrow;have HAT:=hid hat;clear hown hgrow hat hlt7)
      have hnext:Upto wo L (j+1) (.slice (some ⟨g,0,none⟩) (lens (L.take j)+L[j].length) cap') w7:=by
       refine ⟨?_,?_,?_⟩
       ·rw [HS.out.1,HS.out.2];exact HOWN.out
       ·exact ⟨HGROW.out.os.trans hup.out.low.os,HGROW.out.tape.trans hup.out.low.tape,HGROW.out.output.trans hup.out.low.output,Nat.le_trans hup.out.low.size HGROW.out.size,fun k hk=>by
         rw [HGROW.out.block k (Nat.lt_of_lt_of_le hk hup.out.low.size) (fun e=>by have:=hup.out.own k e.symm;omega),hup.out.low.block k hk]⟩
       ·intro g' hg'
        simp [Value.ownBlock] at hg'
        subst hg'
        rcases HAT.out with h1 | h1
        ·exact hup.out.own _ h1
        ·have:=hup.out.low.size;omega
      have HN:=hid hnext
      clear hnext
      exact ⟨⟨j+1,by go_num,by omega,HN.out⟩,by simp [intOf];omega⟩
    ·have hjl:j=L.length:=by omega
     subst hjl
     go_wp2_with fail
     go_ret
     refine ⟨u6,rfl,?_,hup.out.low⟩
     have hrow:=hup.out.row
     rw [List.take_length,← flat_len] at hrow
     refine ⟨hrow.1,hrow.2.imp id ?_⟩
     rintro ⟨g,cap,cur,h1,-,h3⟩
     exact ⟨g,cap,cur,h1,hup.out.own g (by rw [h1];rfl),h3⟩
end Go.Proofs.YtppjmdanckdobaaGreatDoor

/- The library's functions on integers: Index,Contains,Clone. -/
namespace Go.Proofs.YtppjmdanckdobaaGreatDoor
open Go.RowKit
open Lib (hid)
set_option maxHeartbeats 1000000 in
set_option maxRecDepth 20000 in
theorem indexInt_ok (l:List Int) (x:Int) (W:World) (v:Value) (hl:l.length≤reachN) (hR:IntsV W W.heap.size v l) :
  Calls Tryz.prog 38 #[v,.int .i64 x] W fun e W'=>e=.returned (.int .i64 (ixOf l fun y=>x == y))∧Grew W W':=by
 obtain ⟨a,cap,rfl,hR⟩:=hR
 unfold reachN at hl
 go_enter Tryz.func38,Tryz.ntmps38
 go_wp2
 go_loopw [8] (fun i wr=>∃ (j:Nat),i=.int .i64 j∧j≤l.length∧Hid (NoneTo l (fun y=>x == y) j)∧Hid (Grew W wr)) (fun i _=>l.length - (intOf i).toNat)
 case atStart =>
  exact ⟨0,rfl,by omega,fun i hi h=>absurd h (by omega),Grew.refl W⟩
 case round =>
  obtain ⟨j,rfl,hj,hf,hbw⟩:=hrel
  by_cases hlt:j < l.length
  ·obtain ⟨b,off,rfl,hb,hc⟩:=hR j hlt
   have hc':wr.cell? ⟨b,off+j,none⟩=some (.int .i64 l[j]):=by rw [hbw.out.cells _ _ hb];exact hc
   clear hR hc hb
   obtain ⟨t,ht⟩:∃ t,(x == l[j])=t:=⟨_,rfl⟩
   cases t
   ·have HQ:=hid ht
    go_wp2_with fail
    exact ⟨⟨j+1,by go_num,by omega,noneTo_next hf.out hlt HQ.out,hbw.out⟩,by simp [intOf];omega⟩
   ·have HQ:=hid ht
    go_wp2_with fail
    go_ret
    exact ⟨ret_int (ixOf_at hlt hf.out HQ.out).symm,hbw.out⟩
  ·go_wp2_with fail
   go_ret
   exact ⟨ret_int (ixOf_none fun i hi=>hf.out i hi (by omega)).symm,hbw.out⟩
theorem containsInt_ok (l:List Int) (x:Int) (W:World) (v:Value) (hl:l.length≤reachN) (hR:IntsV W W.heap.size v l) :
  Calls Tryz.prog 18 #[v,.int .i64 x] W fun e W'=>e=.returned (.bool (l.any fun y=>x == y))∧Grew W W':=by
 have HC:=hid (indexInt_ok l x W v hl hR)
 have HA:=hid (ixOf_anyS l fun y=>x == y)
 obtain ⟨a,cap,rfl,-⟩:=hR
 go_enter Tryz.func18,Tryz.ntmps18
 go_wp2_with (refine HC.out.mono ?_;rintro e w ⟨rfl,hb⟩;have HB:=hid hb;clear hb)
 go_ret
 exact ⟨ret_bool HA.out,HB.out⟩
def CellsIn (W:World) (lim:Nat) (a:Addr) (cs:List Value):Prop:=∀ j u,cs[j]? = some u→a.block < lim∧W.cell? (a.add j)=some u
def Cloned (W:World) (e:TypeId) (size n:Nat) (cs:List Value) (r:Ending) (W':World):Prop:=∃ v',r=.returned v'∧looseRow W' W.heap.size e size v' n cs∧Grew W W'
theorem cellsIn_int {W:World} {lim:Nat} {l:List Int} {ad:Addr} (h:IntsAt W lim (some ad) l):CellsIn W lim ad (intVs l):=by
 intro j u hj
 unfold intVs at hj
 rw [List.getElem?_map,Option.map_eq_some_iff] at hj
 obtain ⟨x,hx,rfl⟩:=hj
 obtain ⟨hk,rfl⟩:=List.getElem?_eq_some_iff.1 hx
 obtain ⟨b,o,e,hb,hc⟩:=h j hk
 cases Option.some.inj e
 exact ⟨hb,by rw [padd_off];exact hc⟩
theorem intVs_one (l:List Int):∀ u∈intVs l,u.oneCell'=true:=by
 intro u hu
 obtain ⟨x,_,rfl⟩:=List.mem_map.1 hu
 rfl
set_option maxHeartbeats 2000000 in
set_option maxRecDepth 20000 in
theorem cloneInt_cells (n c:Nat) (cs:List Value) (hl:cs.length=n * 1) (h1:∀ u∈cs,u.oneCell'=true) (hn:n≤1048576) (W:World) (a:Addr) (hc:CellsIn W W.heap.size a cs) :
  Calls Tryz.prog 26 #[.slice (some a) n c] W (Cloned W 3 1 n cs):=by
 obtain ⟨i0,hi,hz0,hz1,hz2⟩:=info_parts info_int
 have q:∀ (w:World) (a:Option Addr) (n c n' c':Nat),(binOp .eql 22 (.slice a n c) (.slice none n' c')).run Tryz.prog w=.ok (.bool a.isNone) w:=fun w a n c n' c'=>Lib.run_eql_slice_nil w _ _ a n c n' c' Tryz.underlying22
 have HCS:=hid hc
 have HL:=hid hl
 have H1:=hid h1
 clear hc hl h1
 go_enter Tryz.func26,Tryz.ntmps26
 go_wp2_with (at_builtin;refine wpList_append_own _ rfl _ _ 22 rfl W.heap.size 3 i0 (.int .i64 0) 1 8 Tryz.underlying22 hi hz0 hz1 hz2 rfl (by decide) _ _ _ rfl (World.ownsRow_made W #[] 0 (Nat.le_refl _) (Nat.zero_le _) rfl) a n c cs rfl ?qc1 ?qc2 ?qc3 ?qc4 ?qc5 ?qc6 ?_)
 case qc1=>exact HL.out
 case qc2 =>
  intro j u hj
  exact Lib.cell?_alloc_some _ (HCS.out j u hj).2
 case qc3=>exact H1.out
 case qc4=>unfold maxLen;omega
 case qc5=>omega
 case qc6=>simp
 intro v' w1 hown hgrow hnil
 go_wp2_with fail
 go_ret
 refine ⟨v',rfl,looseRow_of (by simpa using hown),?_⟩
 exact ((Below.refl _ W).alloc (Nat.le_refl _) _).grown hgrow (by simp) (by intro k hk;simp [Value.ownBlock] at hk;omega)
theorem cloneInt_nil (n c:Nat) (W:World):Calls Tryz.prog 26 #[.slice none n c] W fun e W'=>e=.returned (.slice none 0 0)∧W'=W:=by
 have q:∀ (w:World) (a:Option Addr) (n c n' c':Nat),(binOp .eql 22 (.slice a n c) (.slice none n' c')).run Tryz.prog w=.ok (.bool a.isNone) w:=fun w a n c n' c'=>Lib.run_eql_slice_nil w _ _ a n c n' c' Tryz.underlying22
 go_enter Tryz.func26,Tryz.ntmps26
 go_wp2
 go_ret
 exact ⟨rfl,rfl⟩
theorem cloneInt_ok (l:List Int) (W:World) (v:Value) (hl:l.length≤1000000) (hR:IntsV W W.heap.size v l):Calls Tryz.prog 26 #[v] W (Cloned W 3 1 l.length (intVs l)):=by
 obtain ⟨a,cap,rfl,hA⟩:=hR
 cases a with
 | none =>
  have hz:l=[]:=by
   cases l with
   | nil=>rfl
   | cons x r=>obtain ⟨b,o,e,-⟩:=hA 0 (by simp);cases e
  subst hz
  refine (cloneInt_nil _ _ W).mono ?_
  rintro e W' ⟨rfl,rfl⟩
  exact ⟨_,rfl,⟨rfl,.inl ⟨rfl,rfl⟩⟩,Grew.refl _⟩
 | some ad=>exact cloneInt_cells _ _ _ (intVs_len l) (intVs_one l) (by omega) W ad (cellsIn_int hA)
end Go.Proofs.YtppjmdanckdobaaGreatDoor

/- Has,Least. -/
namespace Go.Proofs.YtppjmdanckdobaaGreatDoor
open Go.RowKit
open Lib (hid)
def HasIs (B:Bk) (r:Int) (wl:List Int) (W:World) (e:Ending) (W':World):Prop:=∃ b,e=.returned (.bool b)∧(b=true↔hasR B r=true∧wl.length≤64∧-2∉wl∧B.D r.toNat wl)∧Grew W W'
set_option maxHeartbeats 4000000 in
set_option maxRecDepth 20000 in
theorem sHas_ok (B:Bk) (hG:B.Good) (r:Int) (V:BV) (bk lim:Nat) (wl:List Int) (hwl:wl.length≤reachN) (wv:Value) (W:World) (hB:BookAt W lim bk V B) (hT:IntsV W W.heap.size wv wl) :
  Calls Tryz.prog 13 #[.pointer (some ⟨bk,0,none⟩),.int .i64 r,wv] W (HasIs B r wl W):=by
 have HH:=hid (sbhas_ok B r V bk lim W hB)
 have HC:=hid (containsInt_ok wl (-2) W wv hwl hT)
 have HB:=hid hB
 have HT:=hid hT
 obtain ⟨Q,hQ⟩:∃ Q,HasIs B r wl W=Q:=⟨_,rfl⟩
 have HF:Hid (∀ (b:Bool) w',(b=true↔hasR B r=true∧wl.length≤64∧-2∉wl∧B.D r.toNat wl)→Grew W w'→Q (.returned (.bool b)) w'):=hid fun b w' h1 h2=>by rw [← hQ];exact ⟨b,rfl,h1,h2⟩
 rw [hQ]
 clear hQ
 have HG:=hid hG
 obtain ⟨a,cap,rfl,-⟩:=hT
 obtain ⟨n,hn⟩:∃ n,wl.length=n:=⟨_,rfl⟩
 have HN:=hid hn
 unfold reachN at hwl
 rw [hn] at hwl HC ⊢
 obtain ⟨cb,hcb⟩:∃ cb,(wl.any fun y=>-2 == y)=cb:=⟨_,rfl⟩
 have HCB:=hid hcb
 rw [hcb] at HC
 clear hB hn hcb hG
 cases hh:hasR B r with
 | false =>
  rw [hh] at HH
  have HHH:=hid hh
  clear hh
  go_enter Tryz.func13,Tryz.ntmps13
  go_wp2_with fail
  refine HH.out.mono ?_
  rintro e w ⟨rfl,rfl⟩
  go_wp2_with fail
  show Q (.returned (.bool false)) w
  exact HF.out _ _ ⟨fun h=>(by cases h),fun h=>by rw [HHH.out] at h;exact absurd h.1 (by decide)⟩ (Grew.refl _)
 | true =>
  rw [hh] at HH
  have HHH:=hid hh
  have hrr:∃ k:Nat,r=k∧k < B.bodies.length:=by
   unfold hasR at hh
   rw [Bool.and_eq_true,decide_eq_true_eq,decide_eq_true_eq] at hh
   obtain ⟨k,rfl⟩:=Int.eq_ofNat_of_zero_le hh.1
   exact ⟨k,rfl,by omega⟩
  clear hh
  by_cases h64:n≤64
  ·have h64i:(n:Int)≤64:=by omega
   cases cb with
   | true =>
    go_enter Tryz.func13,Tryz.ntmps13
    go_wp2_with fail
    refine HH.out.mono ?_
    rintro e w ⟨rfl,rfl⟩
    go_wp2_with fail
    refine HC.out.mono ?_
    rintro e w2 ⟨rfl,hg⟩
    have HG2:=hid hg
    clear hg
    go_wp2_with fail
    show Q (.returned (.bool false)) w2
    refine HF.out _ _ ⟨fun h=>(by cases h),fun h=>?_⟩ HG2.out
    obtain ⟨x,hx,he⟩:=List.any_eq_true.1 HCB.out
    rw [beq_iff_eq] at he
    subst he
    exact absurd hx h.2.2.1
   | false =>
    obtain ⟨k,rfl,hk⟩:=hrr
    have HK:=hid hk
    clear hk
    go_enter Tryz.func13,Tryz.ntmps13
    go_wp2_with fail
    refine HH.out.mono ?_
    rintro e w ⟨rfl,rfl⟩
    go_wp2_with fail
    refine HC.out.mono ?_
    rintro e w2 ⟨rfl,hg⟩
    have HG2:=hid hg
    have HD:=hid (sderives_ok B HG.out k HK.out V bk lim wl (by rw [HN.out];exact h64) _ w2 (HB.out.keep (hg.mono HB.out.low)) ((HT.out.keep hg).mono hg.size))
    rw [HN.out] at HD
    clear hg
    go_wp2_with fail
    refine HD.out.mono ?_
    rintro e w3 ⟨b,rfl,hb,hg⟩
    have HG3:=hid (HG2.out.trans hg)
    have HBB:=hid hb
    clear hg hb
    go_wp2_with fail
    show Q (.returned (.bool b)) w3
    refine HF.out _ _ (HBB.out.trans ⟨fun h=>⟨HHH.out,by rw [HN.out];exact h64,fun hm=>?_,h⟩,fun h=>h.2.2.2⟩) HG3.out
    have:=List.any_eq_false.1 HCB.out (-2) hm
    simp at this
  ·have h64i:¬ (n:Int)≤64:=by omega
   go_enter Tryz.func13,Tryz.ntmps13
   go_wp2_with fail
   refine HH.out.mono ?_
   rintro e w ⟨rfl,rfl⟩
   go_wp2_with fail
   show Q (.returned (.bool false)) w
   exact HF.out _ _ ⟨fun h=>(by cases h),fun h=>absurd (by rw [← HN.out];exact h.2.1) h64⟩ (Grew.refl _)
def Bk.leastL (B:Bk) (r:Int):Option (List Int) :=
 if hasR B r then (match B.firsts[r.toNat]? with
  | some f=>if f.long = -1∨256 < f.long then none else some f.w
  | none=>none) else none
def LeastSIs (o:Option (List Int)) (W:World) (e:Ending) (W':World):Prop :=
 (match o with
  | none=>e=.returned (.tuple #[.slice none 0 0,.bool false])
  | some l=>∃ u,e=.returned (.tuple #[u,.bool true])∧looseRow W' W.heap.size 3 1 u l.length (intVs l))∧Grew W W'
set_option maxHeartbeats 4000000 in
set_option maxRecDepth 20000 in
theorem sLeast_ok (B:Bk) (r:Int) (V:BV) (bk lim:Nat) (W:World) (hB:BookAt W lim bk V B) (hw:∀ f∈B.firsts,f.w.length≤1000) :
  Calls Tryz.prog 15 #[.pointer (some ⟨bk,0,none⟩),.int .i64 r] W (LeastSIs (B.leastL r) W):=by
 have HH:=hid (sbhas_ok B r V bk lim W hB)
 have c4:=hB.box.cell_at (i:=4) rfl
 have cl:=hB.box.lt
 have hf:=hB.firsts
 have hlow:=hB.low
 have hlen:=hB.few.2
 unfold Bk.leastL
 cases hh:hasR B r with
 | false =>
  rw [hh] at HH
  clear hf hw
  go_enter Tryz.func15,Tryz.ntmps15
  go_wp2_with fail
  refine HH.out.mono ?_
  rintro e w ⟨rfl,rfl⟩
  go_wp2_with fail
  go_ret2
  exact ⟨rfl,Grew.refl _⟩
 | true =>
  rw [hh] at HH
  unfold hasR at hh
  rw [Bool.and_eq_true,decide_eq_true_eq,decide_eq_true_eq] at hh
  obtain ⟨k,rfl⟩:=Int.eq_ofNat_of_zero_le hh.1
  have hk:k < B.firsts.length:=by omega
  obtain ⟨b,off,e,hl,h1,v,h2,hrw,-⟩:=hf k hk
  have h3:=loose_ints hrw
  clear hrw
  rw [e] at c4
  have hl2:b < W.heap.size:=by omega
  have hi:(k:Int) < (B.firsts.length:Int):=by omega
  have hwk:=hw _ (List.getElem_mem hk)
  have HCL:=hid (cloneInt_ok _ W v (by omega) h3)
  rw [if_pos rfl,Int.toNat_natCast,List.getElem?_eq_getElem hk]
  dsimp only
  obtain ⟨fx,hfx⟩:∃ fx,B.firsts[k]=fx:=⟨_,rfl⟩
  rw [hfx] at h1 h3 HCL hwk ⊢
  obtain ⟨x,l⟩:=fx
  dsimp only at h1 h3 HCL hwk ⊢
  obtain ⟨va,vc,rfl,-⟩:=h3
  clear hf hfx hB e hlen hh hw hk
  generalize B.firsts.length=n at *
  by_cases hx1:x = -1
  ·subst hx1
   rw [if_pos (.inl rfl)]
   go_enter Tryz.func15,Tryz.ntmps15
   go_wp2_with fail
   refine HH.out.mono ?_
   rintro e w ⟨rfl,rfl⟩
   go_wp2_with fail
   go_ret2
   exact ⟨rfl,Grew.refl _⟩
  ·have q1:(x == -1)=false:=beq_eq_false_iff_ne.2 hx1
   by_cases hx2:256 < x
   ·rw [if_pos (.inr hx2)]
    go_enter Tryz.func15,Tryz.ntmps15
    go_wp2_with fail
    refine HH.out.mono ?_
    rintro e w ⟨rfl,rfl⟩
    go_wp2_with fail
    go_ret2
    exact ⟨rfl,Grew.refl _⟩
   ·rw [if_neg (fun h=>h.elim hx1 hx2)]
    go_enter Tryz.func15,Tryz.ntmps15
    go_wp2_with fail
    refine HH.out.mono ?_
    rintro e w ⟨rfl,rfl⟩
    go_wp2_with fail
    refine HCL.out.mono ?_
    rintro e w2 ⟨u,rfl,hr,hg⟩
    have HG2:=hid hg
    have HCP:=hid (clipInt_ok w2 _ u l hr)
    clear hg hr
    go_wp2_with fail
    refine HCP.out.mono ?_
    rintro e w3 ⟨⟨u2,rfl,hr⟩,rfl⟩
    have HR:=hid hr
    clear hr
    go_wp2_with fail
    go_ret2
    exact ⟨⟨u2,rfl,HR.out⟩,HG2.out⟩
end Go.Proofs.YtppjmdanckdobaaGreatDoor
