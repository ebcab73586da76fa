/- The rules of some sorts, by their numbers (as for nets). -/
import Derived.StillTailTactics
import Derived.Lib.Hide
import Derived.Test.YtppjmdanckdobaaGreatDoorQR4
import Derived.Test.YtppjmdanckdobaaGreatDoorQR3
import Derived.Test.YtppjmdanckdobaaGreatDoorQR2
import Derived.Test.YtppjmdanckdobaaGreatDoorQR1
namespace Go.Proofs.YtppjmdanckdobaaGreatDoor
open Go.RowKit
open Lib (hid)
theorem info_int:(Tryz.prog.info? 3).map (fun i=>(i.zero,i.size,i.bytes))=some (some (.int .i64 0),1,8):=by kernel_rfl
def intVs (l:List Int):List Value:=l.map fun i=>.int .i64 i
theorem loose_form {w:World} {base e size n:Nat} {v:Value} {xs:List Value} (h:looseRow w base e size v n xs):∃ a c,v=.slice a n c:=by
 rcases h.2 with ⟨h1,h0⟩ | ⟨b,cap,cur,h1,h2,h3,h4⟩
 ·exact ⟨none,0,by rw [h1,h0]⟩
 ·exact ⟨_,cap,h1⟩
theorem loose_ints {w:World} {base:Nat} {v:Value} {l:List Int} (h:looseRow w base 3 1 v l.length (intVs l)):IntsV w w.heap.size v l:=by
 rcases h.2 with ⟨h1,h0⟩ | ⟨b,cap,cur,h1,h2,h3,h4⟩
 ·have hn:l=[]:=List.eq_nil_of_length_eq_zero h0
  subst hn
  exact ⟨none,0,h1,fun k hk=>absurd hk (by simp)⟩
 ·refine ⟨some ⟨b,0,none⟩,cap,h1,fun k hk=>⟨b,0,rfl,(Array.getElem?_eq_some_iff.1 h3).1,?_⟩⟩
  rw [Nat.zero_add]
  exact looseRow_cells h (g:=b) (by rw [h1];rfl) k _ (by simp [intVs,hk])
def SortsAt (W:World) (b:Nat) (l:List Int):Prop:=b < W.heap.size∧∀ k (h:k < l.length),W.cell? ⟨b,k,none⟩=some (.int .u8 l[k])
theorem SortsAt.keep {W W':World} {b:Nat} {l:List Int} (h:SortsAt W b l) (hg:Grew W W'):SortsAt W' b l:=⟨Nat.lt_of_lt_of_le h.1 hg.size,fun k hk=>(hg.cells _ _ h.1).trans (h.2 k hk)⟩
set_option maxHeartbeats 1000000 in
set_option maxRecDepth 20000 in
theorem indexSort_ok (l:List Int) (x:Int) (W:World) (b cap:Nat) (hl:l.length≤reachN) (hR:SortsAt W b l) :
  Calls Tryz.prog 58 #[.slice (some ⟨b,0,none⟩) l.length cap,.int .u8 x] W fun e W'=>e=.returned (.int .i64 (ixOf l fun y=>x == y))∧Grew W W':=by
 obtain ⟨hb,hR⟩:=hR
 unfold reachN at hl
 go_enter Tryz.func58,Tryz.ntmps58
 go_wp2
 go_loopw [8] (fun i wr=>∃ (j:Nat),i=.int .i64 j∧j≤l.length∧Hid (NoneTo l (fun y=>x == y) j)∧Hid (Grew W wr)) (fun i _=>l.length - (intOf i).toNat)
 case atStart =>
  exact ⟨0,rfl,by omega,fun i hi h=>absurd h (by omega),Grew.refl W⟩
 case round =>
  obtain ⟨j,rfl,hj,hf,hbw⟩:=hrel
  by_cases hlt:j < l.length
  ·have hc':wr.cell? ⟨b,j,none⟩=some (.int .u8 l[j]):=by rw [hbw.out.cells _ _ hb];exact hR j hlt
   have hb':b < wr.heap.size:=Nat.lt_of_lt_of_le hb hbw.out.size
   clear hR
   obtain ⟨t,ht⟩:∃ t,(x == l[j])=t:=⟨_,rfl⟩
   cases t
   ·have HQ:=hid ht
    go_wp2_with fail
    exact ⟨⟨j+1,by go_num,by omega,noneTo_next hf.out hlt HQ.out,hbw.out⟩,by simp [intOf];omega⟩
   ·have HQ:=hid ht
    go_wp2_with fail
    go_ret
    exact ⟨ret_int (ixOf_at hlt hf.out HQ.out).symm,hbw.out⟩
  ·go_wp2_with fail
   go_ret
   exact ⟨ret_int (ixOf_none fun i hi=>hf.out i hi (by omega)).symm,hbw.out⟩
theorem ixOf_anyS {α:Type} (l:List α) (q:α→Bool):decide (0≤ixOf l q)=l.any q:=by
 rcases ixOf_cases l q with ⟨h,hn⟩ | ⟨j,hj,h,hq,_⟩
 ·rw [h]
  symm
  have:l.any q=false:=by
   rw [List.any_eq_false]
   intro x hx
   obtain ⟨i,hi,rfl⟩:=List.mem_iff_getElem.1 hx
   simp [hn i hi]
  rw [this];rfl
 ·rw [h]
  have:l.any q=true:=List.any_eq_true.2 ⟨l[j],List.getElem_mem hj,hq⟩
  rw [this]
  simp
theorem contSort_ok (l:List Int) (x:Int) (W:World) (b cap:Nat) (hl:l.length≤reachN) (hR:SortsAt W b l) :
  Calls Tryz.prog 34 #[.slice (some ⟨b,0,none⟩) l.length cap,.int .u8 x] W fun e W'=>e=.returned (.bool (l.any fun y=>x == y))∧Grew W W':=by
 have HC:=hid (indexSort_ok l x W b cap hl hR)
 have HA:=hid (ixOf_anyS l fun y=>x == y)
 clear hR
 go_enter Tryz.func34,Tryz.ntmps34
 go_wp2_with (refine HC.out.mono ?_;rintro e w ⟨rfl,hb⟩;have HB:=hid hb;clear hb)
 go_ret
 exact ⟨ret_bool HA.out,HB.out⟩
theorem clipInt_ok (W:World) (base:Nat) (v:Value) (l:List Int) (h:looseRow W base 3 1 v l.length (intVs l)) :
  Calls Tryz.prog 21 #[v] W fun e W'=>(∃ u,e=.returned u∧looseRow W base 3 1 u l.length (intVs l))∧W=W':=by
 rcases h.2 with ⟨rfl,h0⟩ | ⟨b,cap,cur,rfl,h1,h2,h3,h4,h5,h6⟩
 ·have hn:l=[]:=List.eq_nil_of_length_eq_zero h0
  subst hn
  go_enter Tryz.func21,Tryz.ntmps21
  go_wp2
  go_ret
  exact ⟨⟨_,rfl,rfl,.inl ⟨rfl,rfl⟩⟩,rfl⟩
 ·have HL:Hid (looseRow W base 3 1 (.slice (some ⟨b,0,none⟩) l.length l.length) l.length (intVs l)):=⟨h.1,.inr ⟨b,_,cur,rfl,h1,h2,Nat.le_refl _,Nat.le_trans h3 h4,by omega,h6⟩⟩
  unfold maxLen at h4
  obtain ⟨n,hn⟩:∃ n,l.length=n:=⟨_,rfl⟩
  rw [hn] at h3 HL ⊢
  clear h h2 h5 h6 hn
  go_enter Tryz.func21,Tryz.ntmps21
  go_wp2
  go_ret
  exact ⟨⟨_,rfl,HL.out⟩,rfl⟩
def Gr.isAt (g:Gr) (S:List Int) (j:Nat):Bool:=match g.rules[j]? with
 | some r=>S.any fun y=>r.sort == y
 | none=>false
def Gr.ofTo (g:Gr) (S:List Int):Nat→List Int
 | 0=>[]
 | j+1=>if g.isAt S j=true then Gr.ofTo g S j++[(j:Int)] else Gr.ofTo g S j
theorem Gr.isAt_get {g:Gr} {S:List Int} {j:Nat} (h:j < g.rules.length):g.isAt S j=S.any fun y=>g.rules[j].sort == y:=by unfold Gr.isAt;rw [List.getElem?_eq_getElem h]
def Gr.of (g:Gr) (S:List Int):List Int:=g.ofTo S g.rules.length
theorem Gr.ofTo_len (g:Gr) (S:List Int):∀ j,(g.ofTo S j).length≤j
 | 0=>Nat.le_refl _
 | j+1=>by have:=Gr.ofTo_len g S j;rw [Gr.ofTo];split<;>simp<;>omega
theorem Gr.ofTo_mem (g:Gr) (S:List Int):∀ j x,x∈g.ofTo S j→∃ i,∃ h:i < g.rules.length,i < j∧x=i∧(S.any fun y=>g.rules[i].sort == y)=true
 | 0,x,h=>by simp [Gr.ofTo] at h
 | j+1,x,h=>by
  rw [Gr.ofTo] at h
  have old:x∈g.ofTo S j→∃ i,∃ h:i < g.rules.length,i < j+1∧x=i∧(S.any fun y=>g.rules[i].sort == y)=true:=fun hx=>by
   obtain ⟨i,h1,h2,h3⟩:=Gr.ofTo_mem g S j x hx
   exact ⟨i,h1,by omega,h3⟩
  split at h
  ·rename_i hc
   rcases List.mem_append.1 h with h | h
   ·exact old h
   ·have hx:x=(j:Int):=by simpa using h
    rcases Nat.lt_or_ge j g.rules.length with hj | hj
    ·rw [Gr.isAt_get hj] at hc
     exact ⟨j,hj,by omega,hx,hc⟩
    ·unfold Gr.isAt at hc
     rw [List.getElem?_eq_none hj] at hc
     cases hc
  ·exact old h
theorem intVs_snoc (l:List Int) (x:Int):intVs (l++[x])=intVs l++[.int .i64 x]:=by unfold intVs;rw [List.map_append];rfl
theorem grew_loose {W w w':World} {e size n:Nat} {v:Value} {xs:List Value} (h:looseRow w W.heap.size e size v n xs) (hg:Grew W w) (hgr:w.grownBy w' v.ownBlock):Grew W w' :=
 ⟨hgr.os.trans hg.os,hgr.tape.trans hg.tape,hgr.output.trans hg.output,Nat.le_trans hg.size hgr.size,fun k hk=>by
  rw [hgr.block k (Nat.lt_of_lt_of_le hk hg.size) (fun e=>by have:=(row_own h e.symm).1;omega),hg.block k hk]⟩
set_option maxHeartbeats 2000000 in
set_option maxRecDepth 20000 in
theorem mof_ok (g:Gr) (S:List Int) (hS:S.length≤100) (W:World) (v0 v1 v2 v3:Value) (hG:GrAt W W.heap.size (some v0) (some v1) (some v2) (some v3) g) (hn:g.rules.length≤1000000) (sb sc:Nat) (hs:SortsAt W sb S) :
  Calls Tryz.prog 12 #[.agg #[v0,v1,v2,v3],.slice (some ⟨sb,0,none⟩) S.length sc] W fun e W'=>∃ v,e=.returned v∧looseRow W' W.heap.size 3 1 v (g.of S).length (intVs (g.of S))∧Grew W W':=by
 obtain ⟨q1,-,q2,q3,q4,q5,ra,rc,q6,-,hrules⟩:=hG
 obtain rfl:=Option.some.inj q1
 obtain rfl:=Option.some.inj q2
 obtain rfl:=Option.some.inj q3
 obtain rfl:=Option.some.inj q6
 obtain ⟨w1,hw1⟩:∃ w1,W.alloc (.cells #[.string g.name,.int .i64 g.bound,.int .i64 g.states,.slice ra g.rules.length rc] 44)=w1:=⟨_,rfl⟩
 have g1:Grew W w1:=hw1▸grew_alloc W _
 have o1:Owns w1 W.heap.size [.string g.name,.int .i64 g.bound,.int .i64 g.states,.slice ra g.rules.length rc] 44:=hw1▸Owns.alloc W _ _
 have c3:=o1.cell_at (i:=3) rfl
 have cl:=o1.lt
 have G1:=hid g1
 have HR:=hid hrules
 have HSS:=hid hs
 obtain ⟨i0,hi,hz0,hz1,hz2⟩:=info_parts info_int
 have HI:=hid hi
 have HZ0:=hid hz0
 have HZ1:=hid hz1
 have HZ2:=hid hz2
 clear hi hz0 hz1 hz2 g1 o1 hrules hs q1 q2 q3 q4 q5 q6
 go_enter Tryz.func12,Tryz.ntmps12
 go_wp2_with fail
 go_loopw [4,10] (fun v c w=>∃ (j:Nat),c=.int .i64 j∧j≤g.rules.length∧Hid (looseRow w W.heap.size 3 1 v (g.ofTo S j).length (intVs (g.ofTo S j)))∧Hid (Grew W w)) (fun _ c _=>g.rules.length - (intOf c).toNat)
 case atStart=>exact ⟨0,rfl,by omega,⟨rfl,.inl ⟨rfl,rfl⟩⟩,G1.out⟩
 case round =>
  obtain ⟨j,rfl,hj,hrow,hgw⟩:=hrel
  clear c3 cl
  by_cases hlt:j < g.rules.length
  ·obtain ⟨b,off,rfl,hb,hrule⟩:=(HR.out.keep hgw.out).get hlt
   simp only [Nat.zero_add] at hrule
   obtain ⟨u2,u3,u4,u5,u6,e0,e1,e2,e3,e4,e5,e6,e7,e8,e9,hrule,hnode⟩:=hrule.vals
   obtain ⟨ck,cnm,ctx,csa,csl,csc,cna,cnl,cnc,rfl,rfl,rfl,rfl,rfl⟩:=hnode.forms
   have hbl:b < wr.heap.size:=Nat.lt_of_lt_of_le hb hgw.out.size
   obtain ⟨w2,hw2⟩:∃ w2,wr.alloc (.cells #[.string g.rules[j].name,.int .u8 g.rules[j].sort,.int .u8 ck,.string cnm,.string ctx,.slice csa csl csc,.slice cna cnl cnc,.int .i64 g.rules[j].p0,.int .i64 g.rules[j].p1,.int .i64 g.rules[j].p2] 84)=w2:=⟨_,rfl⟩
   have g2:Grew wr w2:=hw2▸grew_alloc wr _
   have o2:Owns w2 wr.heap.size [.string g.rules[j].name,.int .u8 g.rules[j].sort,.int .u8 ck,.string cnm,.string ctx,.slice csa csl csc,.slice cna cnl cnc,.int .i64 g.rules[j].p0,.int .i64 g.rules[j].p1,.int .i64 g.rules[j].p2] 84:=hw2▸Owns.alloc wr _ _
   have f1:=o2.cell_at (i:=1) rfl
   have fl:=o2.lt
   have HG2:=hid (hgw.out.trans g2)
   have HC:=hid (contSort_ok S g.rules[j].sort w2 sb sc (by unfold reachN;omega) (HSS.out.keep (hgw.out.trans g2)))
   have HRW:=hid (row_but hrow.out (But.of_grew (F:=fun _=>False) g2) fun _ _=>id)
   have hnx:g.ofTo S (j+1)=if (S.any fun y=>g.rules[j].sort == y)=true then g.ofTo S j++[(j:Int)] else g.ofTo S j:=by rw [Gr.ofTo,Gr.isAt_get hlt]
   have hnl:=Gr.ofTo_len g S j
   clear g2 o2 hrule hnode hrow hgw
   obtain ⟨t,ht⟩:∃ t,(S.any fun y=>g.rules[j].sort == y)=t:=⟨_,rfl⟩
   rw [ht] at HC hnx
   clear ht
   cases t
   ·simp only [Bool.false_eq_true,if_false] at hnx
    rw [← hnx] at HRW
    clear hnx hnl
    go_wp2_with (refine HC.out.mono ?_;rintro e w3 ⟨rfl,hb3⟩;have HB3:=hid hb3;clear hb3)
    exact ⟨⟨j+1,by go_num,by omega,row_but HRW.out (But.of_grew (F:=fun _=>False) HB3.out) (fun _ _=>id),HG2.out.trans HB3.out⟩,by simp [intOf];omega⟩
   ·simp only [if_true] at hnx
    have HNX:=hid hnx
    clear hnx
    obtain ⟨n,hn9⟩:∃ n,(g.ofTo S j).length=n:=⟨_,rfl⟩
    rw [hn9] at HRW hnl
    have HN9:=hid hn9
    clear hn9
    go_wp2_with fail
    refine HC.out.mono ?_
    rintro e w3 ⟨rfl,hb3⟩
    obtain ⟨w4,hw4⟩:∃ w4,w3.alloc (.cells #[.int .i64 j] 3)=w4:=⟨_,rfl⟩
    have g4:Grew w3 w4:=hw4▸grew_alloc w3 _
    have o4:Owns w4 w3.heap.size [.int .i64 j] 3:=hw4▸Owns.alloc w3 _ _
    have HR4:=hid (row_but HRW.out (But.of_grew (F:=fun _=>False) (hb3.trans g4)) fun _ _=>id)
    have HG4:=hid (HG2.out.trans (hb3.trans g4))
    have HNS:=hid (owns_newsO o4)
    have H63:=hid (show n+1≤maxLen by unfold maxLen;omega)
    have H64:=hid (show (n+1) * 8≤140737488355328 by omega)
    have HLIM:=hid HG4.out.size
    clear hb3 g4 o4
    go_wp2_with (at_builtin;refine wpList_append_loose w4 rfl _ _ 22 rfl W.heap.size 3 i0 _ 1 8 Tryz.underlying22 HI.out HZ0.out HZ1.out HZ2.out rfl (by decide) _ n (intVs (g.ofTo S j)) rfl HR4.out ⟨w3.heap.size,0,none⟩ 1 1 [.int .i64 j] rfl rfl HNS.out (fun u hu=>by rw [List.mem_singleton.1 hu];rfl) (by decide) H63.out H64.out HLIM.out _ rfl ?_;intro gb cap w5 hown hgrow hat hlt5;have HOWN:=hid hown;have HGROW:=hid hgrow;clear hown hgrow hat hlt5)
    refine ⟨⟨j+1,by go_num,by omega,?_,grew_loose HR4.out HG4.out HGROW.out⟩,by simp [intOf];omega⟩
    have hlen:(g.ofTo S j++[(j:Int)]).length=n+1:=by simp [HN9.out]
    unfold Hid
    rw [HNX.out,hlen,intVs_snoc]
    exact HOWN.out
  ·obtain rfl:j=g.rules.length:=by omega
   have HC:=hid (clipInt_ok wr W.heap.size _ (g.of S) hrow.out)
   go_wp2_with (refine HC.out.mono ?_;rintro e w3 ⟨⟨u,rfl,hu⟩,rfl⟩;have HU:=hid hu;clear hu)
   go_ret
   exact ⟨u,rfl,HU.out,hgw.out⟩
end Go.Proofs.YtppjmdanckdobaaGreatDoor

/- One closed fact of the program. -/
namespace Go.Proofs.YtppjmdanckdobaaGreatDoor
open Lib (hid)
theorem follows:Tryz.prog.follows .mixedOrders=true:=by kernel_rfl
end Go.Proofs.YtppjmdanckdobaaGreatDoor

/- A book and a walk over tokens in memory. -/
namespace Go.Proofs.YtppjmdanckdobaaGreatDoor
open Go.RowKit
open Lib (hid)
def nmapL (l:List (ByteArray × Nat)):List (Value × Value):=l.map fun x=>(.string x.1,.int .i64 x.2)
def FstAt (w:World) (lim:Nat) (c0 c1:Option Value) (f:Fst):Prop:=c0=some (.int .i64 f.long)∧∃ v,c1=some v∧looseRow w 0 3 1 v f.w.length (intVs f.w)∧∀ g,v.ownBlock=some g→g < lim
structure BV where
 rm:Nat
 tm:Nat
 kv:Value
 ba:Option Addr
 bc:Nat
 fa:Option Addr
 fc:Nat
def FirstsAt (w:World) (lim:Nat) (a:Option Addr) (l:List Fst):Prop:=∀ k (h:k < l.length),∃ b off,a=some ⟨b,off,none⟩∧b < lim∧FstAt w lim (w.cell? ⟨b,off+k * 2,none⟩) (w.cell? ⟨b,off+k * 2+1,none⟩) l[k]
structure BookAt (w:World) (lim bk:Nat) (V:BV) (B:Bk):Prop where
 low:lim≤w.heap.size
 blk:bk < lim
 box:Owns w bk [.map (some V.rm),.map (some V.tm),V.kv,.slice V.ba B.bodies.length V.bc,.slice V.fa B.firsts.length V.fc] 89
 rules:w.heap[V.rm]? = some (mapObj (nmapL B.rules))
 tokens:w.heap[V.tm]? = some (mapObj (nmapL B.tokens))
 rlo:V.rm < lim∧V.tm < lim
 kinds:IntsV w lim V.kv B.kinds
 bodies:NodesAt w lim V.ba 0 B.bodies
 firsts:FirstsAt w lim V.fa B.firsts
 few:B.bodies.length≤60∧B.firsts.length=B.bodies.length
theorem row_below {w w':World} {lim base e size n:Nat} {v:Value} {xs:List Value} (h:looseRow w base e size v n xs) (hl:∀ g,v.ownBlock=some g→g < lim) (hb:Below lim w w'):looseRow w' base e size v n xs:=by
 refine ⟨h.1,h.2.imp id ?_⟩
 rintro ⟨g,cap,cur,rfl,h2,h3,h4⟩
 exact ⟨g,cap,cur,rfl,h2,by rw [hb.block g (hl g rfl)];exact h3,h4⟩
theorem FstAt.keep {w w':World} {lim:Nat} {c0 c1:Option Value} {f:Fst} (h:FstAt w lim c0 c1 f) (hb:Below lim w w'):FstAt w' lim c0 c1 f:=by
 obtain ⟨h1,v,h2,h3,h4⟩:=h
 exact ⟨h1,v,h2,row_below h3 h4 hb,h4⟩
theorem below_owns {lim:Nat} {w w':World} {b T:Nat} {cs:List Value} (hb:Below lim w w') (h:Owns w b cs T) (hl:b < lim):Owns w' b cs T:=by
 unfold Owns at *
 rw [hb.block b hl]
 exact h
theorem BookAt.keep {w w':World} {lim bk:Nat} {V:BV} {B:Bk} (h:BookAt w lim bk V B) (hb:Below lim w w'):BookAt w' lim bk V B :=
 ⟨Nat.le_trans h.low hb.size,h.blk,below_owns hb h.box h.blk,by rw [hb.block _ h.rlo.1];exact h.rules,by rw [hb.block _ h.rlo.2];exact h.tokens,h.rlo,IntsV.keep hb h.kinds,h.bodies.keep hb,fun k hk=>by
  obtain ⟨b,off,e,hl,hf⟩:=h.firsts k hk
  refine ⟨b,off,e,hl,?_⟩
  rw [hb.cell hl,hb.cell hl]
  exact hf.keep hb,h.few⟩
abbrev Spot:=Nat × Nat
def spotV (s:Spot):Value:=.agg #[.int .i64 s.1,.int .i64 s.2]
def spotL (L:List (Spot × Nat)):List (Value × Value):=L.map fun e=>(spotV e.1,plV e.2)
def Right (B:Bk) (wl:List Int) (s:Spot) (m:Nat):Prop:=Bits m fun j=>∃ n,B.bodies[s.1]? = some n∧Der B wl n s.2 j
def KnownAt (B:Bk) (wl:List Int) (kb:Nat) (w:World):Prop:=∃ L:List (Spot × Nat),w.heap[kb]? = some (mapObj (spotL L))∧∀ e∈L,Right B wl e.1 e.2
structure WalkAt (w:World) (lim kw kb bk:Nat) (V:BV) (wv:Value) (B:Bk) (wl:List Int):Prop where
 book:BookAt w lim bk V B
 box:Owns w kw [.pointer (some ⟨bk,0,none⟩),wv,.map (some kb)] 122
 toks:IntsV w lim wv wl
 lo:lim≤kw∧lim≤kb
 few:wl.length≤64
def WR (B:Bk) (wl:List Int) (kb:Nat) (w w':World):Prop:=But (fun q=>q=kb) w w'∧(KnownAt B wl kb w→KnownAt B wl kb w')
theorem wrRel (B:Bk) (wl:List Int) (kb:Nat):Rel (WR B wl kb) :=
 ⟨fun _=>⟨But.refl _ _,id⟩,fun h k=>⟨But.trans h.1 k.1 (fun _ _ e=>e),fun hk=>k.2 (h.2 hk)⟩,fun w=>⟨(But.refl _ w).drew,id⟩⟩
theorem WR.of_grew {B:Bk} {wl:List Int} {kb:Nat} {w w':World} (h:Grew w w'):WR B wl kb w w' :=
 ⟨But.of_grew h,fun ⟨L,h1,h2⟩=>⟨L,by rw [h.block kb (Array.getElem?_eq_some_iff.1 h1).1];exact h1,h2⟩⟩
theorem WR.trans {B:Bk} {wl:List Int} {kb:Nat} {a b c:World} (h:WR B wl kb a b) (k:WR B wl kb b c):WR B wl kb a c:=(wrRel B wl kb).trans h k
theorem WR.below {B:Bk} {wl:List Int} {kb lim:Nat} {a b:World} (h:WR B wl kb a b) (hl:lim≤a.heap.size) (hk:lim≤kb):Below lim a b:=h.1.below hl fun q e=>by subst e;exact hk
theorem WalkAt.known_ne {w:World} {lim kw kb bk:Nat} {V:BV} {wv:Value} {B:Bk} {wl:List Int} (h:WalkAt w lim kw kb bk V wv B wl) (hk:KnownAt B wl kb w):kw≠kb:=by
 obtain ⟨L,h1,-⟩:=hk
 rintro rfl
 have:=h.box
 unfold Owns at this
 rw [h1] at this
 unfold mapObj at this
 simp at this
theorem WalkAt.keep {w w':World} {lim kw kb bk:Nat} {V:BV} {wv:Value} {B:Bk} {wl:List Int} (h:WalkAt w lim kw kb bk V wv B wl) (hk:KnownAt B wl kb w) (hr:WR B wl kb w w'):WalkAt w' lim kw kb bk V wv B wl:=by
 have hb:=hr.below h.book.low h.lo.2
 exact ⟨h.book.keep hb,hr.1.owns h.box (h.known_ne hk),IntsV.keep hb h.toks,h.lo,h.few⟩
noncomputable def isV (v x:Value):Bool:=@decide (x=v) (Classical.propDecidable _)
theorem isV_true {v x:Value}:isV v x=true↔x=v:=by simp [isV]
theorem spotV_inj {p q:Spot} (h:spotV p=spotV q):p=q:=by
 obtain ⟨a,b⟩:=p
 obtain ⟨c,d⟩:=q
 simp [spotV] at h
 rw [Prod.mk.injEq]
 omega
theorem spot_check (p:Spot) (w:World) (e:Bool):(Instr.checkKey e 10000 168 (spotV p)).run Tryz.prog w=.ok () w:=by
 kernel_rfl
theorem spot_eqIn (n:Nat) (a b c d:Int) (w:World):(Op.equalIn (n+2) 168 (.agg #[.int .i64 a,.int .i64 b]) (.agg #[.int .i64 c,.int .i64 d])).run Tryz.prog w=.ok (a == c&&b == d) w:=by
 rw [run_equalIn_struct w (n+1) 168 _ _ (by kernel_rfl) (by kernel_rfl)]
 go_simp
 by_cases h1:a=c<;>by_cases h2:b=d<;>simp [h1,h2]
theorem spot_eq (p q:Spot) (w:World):(Op.equal 168 (spotV p) (spotV q)).run Tryz.prog w=.ok (isV (spotV p) (spotV q)) w:=by
 have h:=spot_eqIn 9998 p.1 p.2 q.1 q.2 w
 have e:(((p.1:Int) == (q.1:Int))&&((p.2:Int) == (q.2:Int)))=isV (spotV p) (spotV q):=by
  rw [Bool.eq_iff_iff,isV_true]
  simp only [Bool.and_eq_true,beq_iff_eq]
  constructor
  ·rintro ⟨h1,h2⟩;unfold spotV;rw [h1,h2]
  ·intro h;rw [spotV_inj h];exact ⟨rfl,rfl⟩
 rw [e] at h
 exact h
theorem key_spot (w:World) (p:Spot) (L:List (Spot × Nat)):KeyRun Tryz.prog w 168 (spotV p) (isV (spotV p)) (spotL L) :=
 KeyRun.struct (fs:=Tryz.prog.fieldsOf 168) (by kernel_rfl) (spot_check p w) fun x hx=>by
  obtain ⟨q,_,rfl⟩:=List.mem_map.1 hx
  exact spot_eq p q.1 w
theorem zero_places (w:World):(zeroValue 125).run Tryz.prog w=.ok (plV 0) w:=by kernel_rfl
theorem run_known {w:World} {kb:Nat} {L:List (Spot × Nat)} (hb:w.heap[kb]? = some (mapObj (spotL L))) (s:Spot) :
  (∃ m,(s,m)∈L∧(Instr.lookup 120 (.map (some kb)) (spotV s) true).run Tryz.prog w=.ok (.tuple #[plV m,.bool true]) w) ∨
  ((∀ e∈L,e.1≠s)∧(Instr.lookup 120 (.map (some kb)) (spotV s) true).run Tryz.prog w=.ok (.tuple #[plV 0,.bool false]) w):=by
 have hK:=key_spot w s L
 have hg:=run_map_of (P:=Tryz.prog) hb
 unfold mapObj at hg
 have hf:=hK.find
 have hz:=zero_places w
 simp only [Instr.lookup,Sem.run_bind,run_underlying Tryz.underlying120,Result.andThen_ok,hg,Sem.run_pure,hK.check,hf]
 by_cases h:∃ x∈spotL L,isV (spotV s) x.1=true
 ·obtain ⟨j,x,h1,h2,h3⟩:=fnd_some (i:=0) h
  obtain ⟨e,he,rfl⟩:=List.mem_map.1 h2
  have hs:e.1=s:=spotV_inj (isV_true.1 h3)
  left
  refine ⟨e.2,?_,?_⟩
  ·rw [← hs];exact he
  ·rw [h1];simp
 ·have h1:∀ x∈spotL L,isV (spotV s) x.1=false:=fun x hx=>by
   cases hfx:isV (spotV s) x.1
   ·rfl
   ·exact absurd ⟨x,hx,hfx⟩ h
  right
  refine ⟨fun e he hs=>?_,?_⟩
  ·have:=h1 (spotV e.1,plV e.2) (List.mem_map.2 ⟨e,he,rfl⟩)
   rw [hs,isV_true.2 rfl] at this
   cases this
  ·rw [fnd_none h1];simp [hz]
theorem run_learn {w:World} {kb:Nat} {L:List (Spot × Nat)} (hb:w.heap[kb]? = some (mapObj (spotL L))) (s:Spot) (m:Nat) (hn:∀ e∈L,e.1≠s) :
  (Instr.mapUpdate 120 (.map (some kb)) (spotV s) (plV m)).run Tryz.prog w=.ok () (putObj w kb (mapObj (spotL (L++[(s,m)])))):=by
 have h:=run_update_new (x:=plV m) Tryz.underlying120 hb (key_spot w s L) (fun x hx=>by
  obtain ⟨e,he,rfl⟩:=List.mem_map.1 hx
  cases hv:isV (spotV s) (spotV e.1)
  ·rfl
  ·exact absurd (spotV_inj (isV_true.1 hv)) (hn e he))
 rw [h]
 simp [spotL]
theorem WR.learn {B:Bk} {wl:List Int} {w:World} {kb:Nat} {L:List (Spot × Nat)} (hb:w.heap[kb]? = some (mapObj (spotL L))) (hr:∀ e∈L,Right B wl e.1 e.2) (s:Spot) (m:Nat) (hm:Right B wl s m) :
  WR B wl kb w (putObj w kb (mapObj (spotL (L++[(s,m)])))) :=
 ⟨But.put rfl,fun _=>⟨L++[(s,m)],putObj_same (Array.getElem?_eq_some_iff.1 hb).1 _,fun e he=>by
  rcases List.mem_append.1 he with he | he
  ·exact hr e he
  ·rw [List.mem_singleton.1 he];exact hm⟩⟩
theorem fnd_index {f:Value→Bool}:∀ {L:List (Value × Value)} {i j:Nat} {v:Value},fnd f L i=some (j,v)→i≤j∧∃ h:j - i < L.length,L[j - i].2=v∧f L[j - i].1=true
 | [],_,_,_,h=>by cases h
 | x::r,i,j,v,h=>by
  rw [fnd] at h
  by_cases hf:f x.1=true
  ·rw [if_pos hf] at h
   obtain ⟨rfl,rfl⟩:=Prod.mk.inj (Option.some.inj h)
   exact ⟨Nat.le_refl _,by simp,by simp,by simpa using hf⟩
  ·rw [if_neg hf] at h
   obtain ⟨h1,h2,h3,h4⟩:=fnd_index h
   refine ⟨by omega,by simp;omega,?_⟩
   have e:j - i=(j - (i+1))+1:=by omega
   simp only [e,List.getElem_cons_succ]
   exact ⟨h3,h4⟩
theorem same_spot (n:Nat) (s:Spot):Instr.sameBits (n+2) (spotV s) (spotV s)=true:=by
 simp [spotV,Instr.sameBits]
theorem run_learn_any {B:Bk} {wl:List Int} {w:World} {kb:Nat} {L:List (Spot × Nat)} (hb:w.heap[kb]? = some (mapObj (spotL L))) (hr:∀ e∈L,Right B wl e.1 e.2) (s:Spot) (m:Nat) (hm:Right B wl s m) :
  ∃ w',(Instr.mapUpdate 120 (.map (some kb)) (spotV s) (plV m)).run Tryz.prog w=.ok () w'∧WR B wl kb w w'∧But (fun q=>q=kb) w w':=by
 by_cases hn:∀ e∈L,e.1≠s
 ·exact ⟨_,run_learn hb s m hn,WR.learn hb hr s m hm,But.put rfl⟩
 ·have hK:=key_spot w s L
  have hex:∃ x∈spotL L,isV (spotV s) x.1=true:=by
   refine Classical.byContradiction fun hc=>hn fun e he hs=>hc ⟨(spotV e.1,plV e.2),List.mem_map.2 ⟨e,he,rfl⟩,?_⟩
   rw [isV_true,hs]
  obtain ⟨j,x,h1,-,-⟩:=fnd_some (i:=0) hex
  obtain ⟨-,hj,h2,h3⟩:=fnd_index h1
  simp only [Nat.sub_zero] at hj h2 h3
  have hjL:j < L.length:=by simpa [spotL] using hj
  have hkey:(spotL L)[j]=(spotV L[j].1,plV L[j].2):=by simp [spotL]
  have hs:L[j].1=s:=spotV_inj (isV_true.1 (by rw [hkey] at h3;exact h3))
  have hv:L[j].2=m:=by
   have:=hr L[j] (List.getElem_mem hjL)
   rw [hs] at this
   exact this.eq hm
  have hent:(entsAt 0 (spotL L)).toArray[j]? = some ⟨spotV s,plV m,j⟩:=by
   rw [List.getElem?_toArray,List.getElem?_eq_getElem (by rw [entsAt_length];exact hj),entsAt_get _ _ _ hj,hkey,hs,hv,Nat.zero_add]
  have hmod:((entsAt 0 (spotL L)).toArray.modify j fun e=>{ e with key:=spotV s,val:=plV m })=(entsAt 0 (spotL L)).toArray:=by
   apply Array.ext
   ·simp
   ·intro k h4 h5
    rw [Array.getElem_modify]
    split
    ·rename_i e
     subst e
     have:=(Array.getElem?_eq_some_iff.1 hent).2
     rw [this]
    ·rfl
  have hg:=run_map_of (P:=Tryz.prog) hb
  have hb':=hb
  unfold mapObj at hg hb'
  have hf:=hK.find
  rw [h1] at hf
  refine ⟨w,?_,(wrRel B wl kb).refl w,But.refl _ _⟩
  simp only [Instr.mapUpdate,Sem.run_bind,run_underlying Tryz.underlying120,Result.andThen_ok,hg,hK.check,hf,Instr.keyThatStays,hent,Option.map_some,Option.getD_some,same_spot 9998 s,if_true,Sem.run_pure]
  rw [hmod]
  simp only [setObj,Sem.run,hb']
  have hset:w.heap.setIfInBounds kb (.map (entsAt 0 (spotL L)).toArray (spotL L).length)=w.heap:=by
   apply Array.ext
   ·simp
   ·intro k h4 h5
    rw [Array.getElem_setIfInBounds]
    split
    ·rename_i e
     subst e
     have:=(Array.getElem?_eq_some_iff.1 hb').2
     exact this.symm
    ·rfl
  rw [hset]
section
variable {P:Program} {w:World}
theorem findNow_string {a:ByteArray} {f:Value→Bool}:∀ (L:List (Value × Value)) (n i:Nat),(∀ x∈L,∃ b,x.1=.string b∧f (.string b)=(a == b))→Instr.findNow .string (.string a) (entsAt n L) i=some (fnd f L i)
 | [],_,_,_=>rfl
 | x::r,n,i,h=>by
  obtain ⟨b,hb,hf⟩:=h x (by simp)
  have ih:=findNow_string (a:=a) r (n+1) (i+1) fun y hy=>h y (by simp [hy])
  rw [entsAt,Instr.findNow,fnd,hb,hf]
  cases hab:(a == b)
  ·simp only [Instr.sameNow,hab,Bool.false_eq_true,if_false]
   exact ih
  ·simp only [Instr.sameNow,if_true,hab]
theorem KeyRun.string {kt:TypeId} {a:ByteArray} {f:Value→Bool} {L:List (Value × Value)} (ht:P.underlying kt=some .string) (hL:∀ x∈L,∃ b,x.1=.string b∧f (.string b)=(a == b)) :
  KeyRun P w kt (.string a) f L:=by
 refine ⟨fun e=>?_,?_⟩
 ·rw [show (10000:Nat)=9999+1 from rfl]
  unfold Instr.checkKey
  simp only [Sem.run_bind,run_underlying ht,Result.andThen]
  rfl
 ·unfold Instr.findKey
  rw [Sem.run_bind,run_underlying ht,Result.andThen_ok]
  simp only [findNow_string L 0 0 hL]
  rfl
end
theorem zero_int (w:World):(zeroValue 3).run Tryz.prog w=.ok (.int .i64 0) w:=by kernel_rfl
theorem run_name {w:World} {b:Nat} {l:List (ByteArray × Nat)} (hb:w.heap[b]? = some (mapObj (nmapL l))) (nm:ByteArray) :
  (Instr.lookup 26 (.map (some b)) (.string nm) false).run Tryz.prog w=.ok (.int .i64 ((lookS l nm).getD 0:Nat)) w:=by
 have hK:KeyRun Tryz.prog w 9 (.string nm) (fun v=>match v with | .string b=>nm == b | _=>false) (nmapL l):=KeyRun.string Tryz.underlying9 fun x hx=>by
  obtain ⟨y,-,rfl⟩:=List.mem_map.1 hx
  exact ⟨y.1,rfl,rfl⟩
 have hg:=run_map_of (P:=Tryz.prog) hb
 unfold mapObj at hg
 have hf:=hK.find
 have hz:=zero_int w
 simp only [Instr.lookup,Sem.run_bind,run_underlying Tryz.underlying26,Result.andThen_ok,hg,Sem.run_pure,hK.check,hf]
 have key:∀ (l:List (ByteArray × Nat)) (i:Nat),(match fnd (fun v=>match v with | .string b=>nm == b | _=>false) (nmapL l) i with | some (_,v)=>v | none=>.int .i64 0)=Value.int .i64 ((lookS l nm).getD 0:Nat):=by
  intro l
  induction l with
  | nil=>intro i;rfl
  | cons x r ih =>
   intro i
   simp only [nmapL,List.map_cons,fnd,lookS]
   cases hx:(nm == x.1)
   ·simp only [Bool.false_eq_true,if_false]
    exact ih (i+1)
   ·simp
 have hkey:=key l 0
 cases hfn:fnd (fun v=>match v with | .string b=>nm == b | _=>false) (nmapL l) 0 with
 | none =>
  rw [hfn] at hkey
  have h0:Value.int .i64 0=Value.int .i64 ((lookS l nm).getD 0:Nat):=hkey
  rw [← h0]
  simp [hz]
 | some p =>
  rw [hfn] at hkey
  have h0:p.2=Value.int .i64 ((lookS l nm).getD 0:Nat):=hkey
  rw [← h0]
  simp
structure SE where
 lim:Nat
 kw:Nat
 kb:Nat
 bk:Nat
 V:BV
 wv:Value
 B:Bk
 wl:List Int
def SE.At (E:SE) (w:World):Prop:=WalkAt w E.lim E.kw E.kb E.bk E.V E.wv E.B E.wl∧KnownAt E.B E.wl E.kb w
def SE.R (E:SE) (w w':World):Prop:=WR E.B E.wl E.kb w w'
def SE.ptr (E:SE):Value:=.pointer (some ⟨E.kw,0,none⟩)
theorem SE.rel (E:SE):Rel E.R:=wrRel E.B E.wl E.kb
theorem SE.At.keep {E:SE} {w w':World} (h:E.At w) (r:E.R w w'):E.At w':=⟨h.1.keep h.2 r,r.2 h.2⟩
theorem SE.R.trans {E:SE} {a b c:World} (h:E.R a b) (k:E.R b c):E.R a c:=WR.trans h k
theorem SE.R.grew {E:SE} {a b:World} (h:Grew a b):E.R a b:=WR.of_grew h
theorem SE.At.kb_lt {E:SE} {w:World} (h:E.At w):E.kb < w.heap.size:=by
 obtain ⟨L,h1,-⟩:=h.2
 exact (Array.getElem?_eq_some_iff.1 h1).1
theorem SE.R.fresh {E:SE} {a b c:World} {f:Nat} (hA:E.At a) (h:E.R a b) (hb:But (fun q=>q=f) b c) (hf:a.heap.size≤f):E.R a c:=by
 refine ⟨But.trans h.1 hb (fun i hi e=>by omega),fun hk=>?_⟩
 obtain ⟨L,h1,h2⟩:=h.2 hk
 have:=hA.kb_lt
 exact ⟨L,by rw [hb.block E.kb (Array.getElem?_eq_some_iff.1 h1).1 (fun e=>by omega)];exact h1,h2⟩
theorem SE.R.owns {E:SE} {a b:World} (h:E.R a b) {g T:Nat} {cs:List Value} (ho:Owns a g cs T) (hn:g≠E.kb):Owns b g cs T:=h.1.owns ho hn
def NodeRes (E:SE) (P:Nat→Prop) (W:World) (e:Ending) (W':World):Prop:=∃ q z0 z1,e=.returned (.agg #[.int .u64 z0,.int .u64 z1])∧W2 q z0 z1∧Bits q P∧E.R W W'
theorem NodeRes.iff {E:SE} {P Q:Nat→Prop} {W W':World} {e:Ending} (h:NodeRes E P W e W') (hpq:∀ j,P j↔Q j):NodeRes E Q W e W':=by
 obtain ⟨q,z0,z1,h1,h2,h3,h4⟩:=h
 exact ⟨q,z0,z1,h1,h2,h3.iff hpq,h4⟩
theorem pl_eqIn (a b c d:Int) (w:World):(Op.equalIn 10000 125 (.agg #[.int .u64 a,.int .u64 b]) (.agg #[.int .u64 c,.int .u64 d])).run Tryz.prog w=.ok (a == c&&b == d) w:=by
 have u3:=Tryz.underlying123
 have a3:=Tryz.isAgg123
 have z3:=Tryz.sizeOf123
 rw [show (10000:Nat)=9999+1 from rfl,Op.equalIn]
 simp only [Sem.run_bind,run_underlying Tryz.underlying125,Result.andThen_ok]
 simp only [Std.Legacy.Range.forIn_eq_forIn_range',Std.Legacy.Range.size,Nat.sub_zero,Nat.add_sub_cancel,Nat.div_one,List.range'_succ,List.range'_zero,List.forIn_cons,List.forIn_nil]
 go_simp
 by_cases h1:a=c<;>by_cases h2:b=d<;>simp [h1,h2]
theorem set_but {w:World} {b T i:Nat} {cs:List Value} {v:Value} (h:Owns w b cs T):But (fun q=>q=b) w (w.setCell ⟨b,i,none⟩ v):=by
 rw [setCell_put h]
 exact But.put (F:=fun q=>q=b) rfl
theorem set_two {w:World} {b T:Nat} {x0 x1:Value} (h:Owns w b [x0,x1] T) (y0 y1:Value) :
  But (fun q=>q=b) w ((w.setCell ⟨b,0,none⟩ y0).setCell ⟨b,1,none⟩ y1)∧Owns ((w.setCell ⟨b,0,none⟩ y0).setCell ⟨b,1,none⟩ y1) b [y0,y1] T:=by
 have h1:=h.set 0 y0
 exact ⟨(set_but h).trans (set_but h1) fun _ _ e=>e,h1.set 1 y1⟩
end Go.Proofs.YtppjmdanckdobaaGreatDoor
