/- Whether a grammar is more than is gone through: the further functions. -/
import Derived.BigQuiet
import Derived.Test.YtppjmdanckdobaaGreatDoorQR24
import Derived.Test.YtppjmdanckdobaaGreatDoorQR17
namespace Go.Proofs.YtppjmdanckdobaaGreatDoor
open Go.RowKit
open Lib (hid)
structure Gr.Fair4 (g:Gr):Prop where
 len:g.rules.length≤80
 name:g.name.size≤200
 rule:∀ i (h:i < g.rules.length),g.rules[i].body.total≤3000∧g.rules[i].name.size≤200
def Fair4To (g:Gr) (j:Nat):Prop:=∀ i (h:i < g.rules.length),i < j→g.rules[i].body.total≤3000∧g.rules[i].name.size≤200
theorem fair4_next {g:Gr} {j:Nat} (h:Fair4To g j) (hj:j < g.rules.length) (h1:g.rules[j].body.total≤3000) (h2:g.rules[j].name.size≤200):Fair4To g (j+1):=by
 intro i hi hlt
 by_cases e:i=j
 ·subst e;exact ⟨h1,h2⟩
 ·exact h i hi (by omega)
set_option maxHeartbeats 1000000 in
theorem great4_ok (g:Gr) (W:World) (v0 v1 v2 v3:Value) (hG:GrAt W W.heap.size (some v0) (some v1) (some v2) (some v3) g) :
  Calls Tryz.prog 45 #[.agg #[v0,v1,v2,v3]] W fun e W'=>BoolTells g.Fair4 e∧Below W.heap.size W W':=by
 obtain ⟨h1,hs,h2,h3,h4,h5,ra,rc,h6,h7,h8⟩:=hG
 obtain rfl:=Option.some.inj h1
 obtain rfl:=Option.some.inj h2
 obtain rfl:=Option.some.inj h3
 obtain rfl:=Option.some.inj h6
 clear h1 h2 h3 h4 h5 h6
 unfold reachN at hs h7
 by_cases hlen:g.rules.length≤80
 ·go_enter Tryz.func45,Tryz.ntmps45
  go_wp2
  go_loopw [3] (fun i wr=>∃ (j:Nat),i=.int .i64 j∧j≤g.rules.length∧Hid (Fair4To g j)∧Below W.heap.size W wr∧W.heap.size < wr.heap.size∧wr.cell? ⟨W.heap.size,0,none⟩=some (.string g.name)∧wr.cell? ⟨W.heap.size,3,none⟩=some (.slice ra g.rules.length rc)) (fun i _=>g.rules.length - (intOf i).toNat)
  case atStart =>
   refine ⟨0,rfl,by omega,fun i hi h=>absurd h (by omega),?_,by simp,?_,?_⟩
   ·exact (Below.refl _ _).alloc (Nat.le_refl _) _
   ·simp [go_sem]
   ·simp [go_sem]
  case round =>
   obtain ⟨j,rfl,hj,hf,hbw,hsz,hbox0,hbox⟩:=hrel
   by_cases hlt:j < g.rules.length
   ·obtain ⟨b,off,rfl,hb,hrule⟩:=(h8.keep hbw).get hlt
    simp only [Nat.zero_add] at hrule
    obtain ⟨u2,u3,u4,u5,u6,e0,e1,e2,e3,e4,e5,e6,e7,e8,e9,hrule,hnode⟩:=hrule.vals
    have hrs:=hrule.2.1
    unfold reachN at hrs
    have HS:=hid (great3_ok _ wr _ _ _ _ _ (hnode.mono hbw.size))
    clear hrule hnode h8
    by_cases h200:g.rules[j].name.size≤200
    ·go_wp2_with (go_at_call 78;refine HS.out.mono ?_;rintro e w' ⟨(rfl | ⟨rfl,ht⟩),hb2⟩<;>(have ec:∀ o,w'.cell? ⟨b,o,none⟩=wr.cell? ⟨b,o,none⟩:=(fun o=>hb2.cell (p:=⟨b,o,none⟩) (by show b < _;omega));have eb:w'.cell? ⟨W.heap.size,3,none⟩=wr.cell? ⟨W.heap.size,3,none⟩:=hb2.cell hsz))
     all_goals first
      | (go_ret;exact ⟨.inl rfl,hbw.trans (hb2.mono (by omega))⟩)
      | exact ⟨⟨j+1,by go_num,by omega,fair4_next hf hlt ht h200,hbw.trans (hb2.mono (by omega)),by have:=hb2.size;omega,by rw [hb2.cell hsz];exact hbox0,by rw [hb2.cell hsz];exact hbox⟩,by simp [intOf];omega⟩
    ·go_wp2_with (go_at_call 78;refine HS.out.mono ?_;rintro e w' ⟨(rfl | ⟨rfl,ht⟩),hb2⟩<;>(have ec:∀ o,w'.cell? ⟨b,o,none⟩=wr.cell? ⟨b,o,none⟩:=(fun o=>hb2.cell (p:=⟨b,o,none⟩) (by show b < _;omega));have eb:w'.cell? ⟨W.heap.size,3,none⟩=wr.cell? ⟨W.heap.size,3,none⟩:=hb2.cell hsz))
     all_goals (go_ret;exact ⟨.inl rfl,hbw.trans (hb2.mono (by omega))⟩)
   ·clear h8
    go_wp2_with fail
    go_ret
    refine ⟨boolTells_mk _ fun h=>⟨hlen,by simp at h;omega,fun i hi=>hf.out i hi (by omega)⟩,hbw⟩
 ·go_enter Tryz.func45,Tryz.ntmps45
  go_wp2
  go_ret
  exact ⟨.inl rfl,(Below.refl _ _).alloc (Nat.le_refl _) _⟩
def Gr.cnts (g:Gr) (j:Nat):Nat:=Nd.cnts ((g.rules.take j).map (·.body))
theorem Gr.cnts_next (g:Gr) (j:Nat) (h:j < g.rules.length):g.cnts (j+1)=g.cnts j+g.rules[j].body.cnt:=by
 unfold Gr.cnts
 rw [List.take_succ_eq_append_getElem h,List.map_append,List.map_cons,List.map_nil,Nd.cnts_snoc]
structure Gr.Fair (g:Gr):Prop where
 len:g.rules.length≤20
 name:g.name.size≤200
 rule:∀ i (h:i < g.rules.length),g.rules[i].body.total≤3000∧g.rules[i].name.size≤200
 cnt:g.cnts g.rules.length≤500
set_option maxHeartbeats 1000000 in
theorem great5_ok (g:Gr) (W:World) (v0 v1 v2 v3:Value) (hG:GrAt W W.heap.size (some v0) (some v1) (some v2) (some v3) g) :
  Calls Tryz.prog 29 #[.agg #[v0,v1,v2,v3]] W fun e W'=>BoolTells g.Fair e∧Below W.heap.size W W':=by
 have hB:Below W.heap.size W (W.alloc (.cells #[v0,v1,v2,v3] 44)):=(Below.refl _ _).alloc (Nat.le_refl _) _
 have hS:=hid (great4_ok g (W.alloc (.cells #[v0,v1,v2,v3] 44)) v0 v1 v2 v3 ((hG.keep hB).mono hB.size))
 have HB:=hid hB
 clear hB
 obtain ⟨h1,hs,h2,h3,h4,h5,ra,rc,h6,h7,h8⟩:=hG
 obtain rfl:=Option.some.inj h1
 obtain rfl:=Option.some.inj h2
 obtain rfl:=Option.some.inj h3
 obtain rfl:=Option.some.inj h6
 clear h1 h2 h3 h4 h5 h6
 unfold reachN at hs h7
 by_cases hlen:g.rules.length≤20
 ·go_enter Tryz.func29,Tryz.ntmps29
  go_wp2_with (go_at_call 45;refine hS.out.mono ?_;rintro e w' ⟨(rfl | ⟨rfl,ht⟩),hb2⟩<;>(have eb:∀ o,w'.cell? ⟨W.heap.size,o,none⟩=(W.alloc (.cells #[.string g.name,.int .i64 g.bound,.int .i64 g.states,.slice ra g.rules.length rc] 44)).cell? ⟨W.heap.size,o,none⟩:=(fun o=>hb2.cell (p:=⟨W.heap.size,o,none⟩) (by show W.heap.size < _;simp));have HB2:=hid hb2;clear hb2))
  ·go_ret
   exact ⟨.inl rfl,HB.out.trans (HB2.out.mono (by simp))⟩
  ·have hf:=hid ht
   have hbw:Below W.heap.size W w':=HB.out.trans (HB2.out.mono (by simp))
   have hsz:W.heap.size < w'.heap.size:=by have:=HB2.out.size;simp at this;omega
   go_loopw [3,4] (fun v i wr=>∃ (q j:Nat),v=.int .i64 q∧i=.int .i64 j∧j≤g.rules.length∧Hid (q=g.cnts j)∧q≤j * 3000∧Below W.heap.size W wr∧W.heap.size < wr.heap.size∧wr.cell? ⟨W.heap.size,3,none⟩=some (.slice ra g.rules.length rc)) (fun _ i _=>g.rules.length - (intOf i).toNat)
   case atStart =>
    refine ⟨0,0,rfl,rfl,by omega,rfl,by omega,hbw,hsz,?_⟩
    rw [eb]
    simp [go_sem]
   case round =>
    clear eb
    obtain ⟨q,j,rfl,rfl,hj,hq,hq1,hbw2,hsz2,hbox⟩:=hrel
    by_cases hlt:j < g.rules.length
    ·obtain ⟨b,off,rfl,hb,hrule⟩:=(h8.keep hbw2).get hlt
     simp only [Nat.zero_add] at hrule
     obtain ⟨u2,u3,u4,u5,u6,e0,e1,e2,e3,e4,e5,e6,e7,e8,e9,hrule,hnode⟩:=hrule.vals
     have hc:g.rules[j].body.cnt≤3000:=Nat.le_trans (Nd.cnt_le_total _) (hf.out.rule j hlt).1
     have HS:=hid (many_ok _ wr _ _ _ _ _ (by omega) (hnode.mono hbw2.size))
     clear hrule hnode h8
     go_wp2_with (go_at_call 46;refine HS.out.mono ?_;rintro e w2 ⟨rfl,hb2⟩)
     exact ⟨⟨q+g.rules[j].body.cnt,j+1,by go_num,by go_num,by omega,by have:=hq.out;unfold Hid;rw [g.cnts_next j hlt,this],by omega,hbw2.trans (hb2.mono (by omega)),by have:=hb2.size;omega,by rw [hb2.cell hsz2];exact hbox⟩,by simp [intOf];omega⟩
    ·clear h8
     go_wp2_with fail
     go_ret
     refine ⟨boolTells_mk _ fun h=>?_,hbw2⟩
     have e1:=hq.out
     have e2:j=g.rules.length:=by omega
     simp at h
     exact ⟨hlen,hf.out.name,hf.out.rule,by rw [← e2,← e1];omega⟩
 ·go_enter Tryz.func29,Tryz.ntmps29
  go_wp2_with (go_at_call 45;refine hS.out.mono ?_;rintro e w' ⟨(rfl | ⟨rfl,ht⟩),hb2⟩<;>(have eb:∀ o,w'.cell? ⟨W.heap.size,o,none⟩=(W.alloc (.cells #[.string g.name,.int .i64 g.bound,.int .i64 g.states,.slice ra g.rules.length rc] 44)).cell? ⟨W.heap.size,o,none⟩:=(fun o=>hb2.cell (p:=⟨W.heap.size,o,none⟩) (by show W.heap.size < _;simp));have HB2:=hid hb2;clear hb2))
  all_goals (go_ret;exact ⟨.inl rfl,HB.out.trans (HB2.out.mono (by simp))⟩)
end Go.Proofs.YtppjmdanckdobaaGreatDoor

/- grams.kept,word,named,and what Sound asks of a rule: just so. -/
namespace Go.Proofs.YtppjmdanckdobaaGreatDoor
open Go.RowKit Go.Shelf
open Lib (hid)
def JustIf (P:Prop) (W:World) (e:Ending) (W':World):Prop:=(∃ b,e=.returned (.bool b)∧(b=true↔P))∧Grew W W'
def litN (k:Int) (s:ByteArray):Nd:=.mk k s ⟨#[]⟩ [] []
def GoodN (token:Bool) (n:Nd):Prop:=Good token (n.alld 1)
def keptL:List ByteArray:=[⟨#[103,114,97,109,109,97,114]⟩,⟨#[111,112,116,105,111,110,115]⟩,⟨#[102,114,97,103,109,101,110,116]⟩,⟨#[115,107,105,112]⟩]
def keptP (s:ByteArray):Prop:=Lib.containsS (keptL.take 4) s=true
def wordP (s:ByteArray):Prop:=GoodN false (litN 5 s)∨GoodN false (litN 6 s)
def namedP (s:ByteArray) (sort:Int):Prop:=GoodN false (litN (if sort=0 then 5 else 6) s)∧¬ keptP s
def ruleP (r:Rl):Prop:=r.sort≤3∧namedP r.name r.sort∧GoodN (r.sort != 0) r.body
theorem lit_node (W:World) (k:Int) (hk:0≤k∧k≤255) (s:ByteArray) (hs:s.size≤reachN):NodeAt W W.heap.size (some (.int .u8 k)) (some (.string s)) (some (.string ⟨#[]⟩)) (some (.slice none 0 0)) (some (.slice none 0 0)) (litN k s):=by
 unfold litN
 rw [NodeAt]
 refine ⟨hk,hs,by show (0:Nat)≤_;omega,rfl,rfl,rfl,⟨none,0,rfl,by simp [reachN],?_⟩,none,0,rfl,by simp [reachN],?_⟩
 ·rw [RangesAt];trivial
 ·rw [NodesAt];trivial
set_option maxRecDepth 20000 in
theorem kept_ok (s:ByteArray) (W:World):Calls Tryz.prog 80 #[.string s] W (JustIf (keptP s) W):=by
 have hg:=grew_alloc W (.cells #[.string ⟨#[103,114,97,109,109,97,114]⟩,.string ⟨#[111,112,116,105,111,110,115]⟩,.string ⟨#[102,114,97,103,109,101,110,116]⟩,.string ⟨#[115,107,105,112]⟩] 9)
 have ho:=Owns.alloc W [.string ⟨#[103,114,97,109,109,97,114]⟩,.string ⟨#[111,112,116,105,111,110,115]⟩,.string ⟨#[102,114,97,103,109,101,110,116]⟩,.string ⟨#[115,107,105,112]⟩] 9
 have hS:=Tryz.slices_Contains_string W.heap.size 0 4 4 keptL s _ (by simp [keptL]) (by omega) (fun j hj=>by
  rw [Nat.zero_add]
  match j,hj with
  | 0,_=>exact ho.cell_at rfl
  | 1,_=>exact ho.cell_at rfl
  | 2,_=>exact ho.cell_at rfl
  | 3,_=>exact ho.cell_at rfl)
 obtain ⟨x,hx⟩:∃ x,Lib.containsS (keptL.take 4) s=x:=⟨_,rfl⟩
 rw [hx] at hS
 have HX:=hid hx
 have HS:=hid hS
 have HG:=hid hg
 clear ho hx hS hg
 go_enter Tryz.func80,Tryz.ntmps80
 go_wp2_with fail
 refine HS.out.mono ?_
 rintro e w' ⟨rfl,rfl⟩
 go_wp2_with fail
 go_ret
 exact ⟨⟨_,rfl,by unfold keptP;rw [HX.out]⟩,HG.out⟩
theorem lit_plain (k:Int) (hk:0≤k∧k≤255) (s:ByteArray) (hs:s.size≤reachN) (W:World) (hT:Lib.Utf8Tabs 1 2 W):Calls Tryz.prog 54 #[.agg #[.int .u8 k,.string s,.string ⟨#[]⟩,.slice none 0 0,.slice none 0 0],.bool false] W (JustIf (GoodN false (litN k s)) W) :=
 nPlain_ok false (litN k s) W hT _ _ _ _ _ (lit_node W k hk s hs)
set_option maxRecDepth 20000 in
theorem word_ok (s:ByteArray) (hs:s.size≤reachN) (W:World) (hT:Lib.Utf8Tabs 1 2 W):Calls Tryz.prog 50 #[.string s] W (JustIf (wordP s) W):=by
 have h1:=hid (lit_plain 5 (by omega) s hs W hT)
 have h2:=hid (fun w (hg:Grew W w)=>lit_plain 6 (by omega) s hs w (tabs_grew hT hg))
 clear hT
 unfold wordP
 go_enter Tryz.func50,Tryz.ntmps50
 go_wp2_with fail
 refine h1.out.mono ?_
 rintro e w ⟨⟨b,rfl,hb⟩,hg⟩
 have HG:=hid hg
 have HB:=hid hb
 clear hg hb
 cases b with
 | true =>
  go_wp2_with fail
  go_ret
  exact ⟨⟨_,rfl,fun _=>.inl (HB.out.1 (by first | rfl | trivial)),fun _=>rfl⟩,HG.out⟩
 | false =>
  go_wp2_with fail
  refine (h2.out w HG.out).mono ?_
  rintro e w2 ⟨⟨b,rfl,hb2⟩,hg⟩
  have HG2:=hid (HG.out.trans hg)
  have HB2:=hid hb2
  clear hg hb2
  go_wp2_with fail
  go_ret
  exact ⟨⟨_,rfl,fun h=>.inr (HB2.out.1 h),fun h=>h.elim (fun h=>absurd (HB.out.2 h) (by simp)) HB2.out.2⟩,HG2.out⟩
set_option maxRecDepth 20000 in
theorem gnamed_ok (s:ByteArray) (hs:s.size≤reachN) (sort:Int) (W:World) (hT:Lib.Utf8Tabs 1 2 W):Calls Tryz.prog 53 #[.string s,.int .u8 sort] W (JustIf (namedP s sort) W):=by
 have h1:=hid (lit_plain 5 (by omega) s hs W hT)
 have h2:=hid (lit_plain 6 (by omega) s hs W hT)
 have h3:=hid (fun w=>kept_ok s w)
 clear hT
 unfold namedP
 by_cases h0:sort=0
 ·subst h0
  simp only [if_true]
  go_enter Tryz.func53,Tryz.ntmps53
  go_wp2_with fail
  refine h1.out.mono ?_
  rintro e w ⟨⟨b,rfl,hb⟩,hg⟩
  have HG:=hid hg
  have HB:=hid hb
  clear hg hb
  cases b with
  | false =>
   go_wp2_with fail
   go_ret
   exact ⟨⟨_,rfl,fun h=>(by cases h),fun h=>absurd (HB.out.2 h.1) (by simp)⟩,HG.out⟩
  | true =>
   go_wp2_with fail
   refine (h3.out w).mono ?_
   rintro e w2 ⟨⟨b,rfl,hb2⟩,hg⟩
   have HG2:=hid (HG.out.trans hg)
   have HB2:=hid hb2
   clear hg hb2
   go_wp2_with fail
   go_ret
   refine ⟨⟨_,rfl,?_⟩,HG2.out⟩
   cases b
   ·exact ⟨fun _=>⟨HB.out.1 (by first | rfl | trivial),fun h=>absurd (HB2.out.2 h) (by simp)⟩,fun _=>rfl⟩
   ·exact ⟨fun h=>(by cases h),fun h=>absurd (HB2.out.1 (by first | rfl | trivial)) h.2⟩
 ·have h0b:(sort == 0)=false:=beq_eq_false_iff_ne.2 h0
  simp only [if_neg h0]
  go_enter Tryz.func53,Tryz.ntmps53
  go_wp2_with fail
  refine h2.out.mono ?_
  rintro e w ⟨⟨b,rfl,hb⟩,hg⟩
  have HG:=hid hg
  have HB:=hid hb
  clear hg hb
  cases b with
  | false =>
   go_wp2_with fail
   go_ret
   exact ⟨⟨_,rfl,fun h=>(by cases h),fun h=>absurd (HB.out.2 h.1) (by simp)⟩,HG.out⟩
  | true =>
   go_wp2_with fail
   refine (h3.out w).mono ?_
   rintro e w2 ⟨⟨b,rfl,hb2⟩,hg⟩
   have HG2:=hid (HG.out.trans hg)
   have HB2:=hid hb2
   clear hg hb2
   go_wp2_with fail
   go_ret
   refine ⟨⟨_,rfl,?_⟩,HG2.out⟩
   cases b
   ·exact ⟨fun _=>⟨HB.out.1 (by first | rfl | trivial),fun h=>absurd (HB2.out.2 h) (by simp)⟩,fun _=>rfl⟩
   ·exact ⟨fun h=>(by cases h),fun h=>absurd (HB2.out.1 (by first | rfl | trivial)) h.2⟩
set_option maxRecDepth 20000 in
theorem sound1_ok (r:Rl) (W:World) (hT:Lib.Utf8Tabs 1 2 W) (v0 v1 v2 v3 v4 v5 v6 v7 v8 v9:Value) (hR:RuleAt W W.heap.size (some v0) (some v1) (some v2) (some v3) (some v4) (some v5) (some v6) (some v7) (some v8) (some v9) r) :
  Calls Tryz.prog 52 #[.agg #[v0,v1,v2,v3,v4,v5,v6,v7,v8,v9]] W (JustIf (¬ ruleP r) W):=by
 obtain ⟨h1,hs,h2,hso,hn,h7,h8,h9,i7,i8,i9⟩:=hR
 obtain rfl:=Option.some.inj h1
 obtain rfl:=Option.some.inj h2
 obtain rfl:=Option.some.inj h7
 obtain rfl:=Option.some.inj h8
 obtain rfl:=Option.some.inj h9
 obtain ⟨k0,k1,k2,k3,k4,k5,k6,k7,k8,rfl,rfl,rfl,rfl,rfl⟩:=hn.forms
 have hg:=grew_alloc W (.cells #[.string r.name,.int .u8 r.sort,.int .u8 k0,.string k1,.string k2,.slice k3 k4 k5,.slice k6 k7 k8,.int .i64 r.p0,.int .i64 r.p1,.int .i64 r.p2] 84)
 have ho:=Owns.alloc W [.string r.name,.int .u8 r.sort,.int .u8 k0,.string k1,.string k2,.slice k3 k4 k5,.slice k6 k7 k8,.int .i64 r.p0,.int .i64 r.p1,.int .i64 r.p2] 84
 have HNM:=hid (gnamed_ok r.name hs r.sort _ (tabs_grew hT hg))
 have HPL:=hid (fun w (hg:Grew W w)=>nPlain_ok (r.sort != 0) r.body w (tabs_grew hT hg) _ _ _ _ _ ((hn.keep hg).mono hg.size))
 have HO:=hid ho
 have HG:=hid hg
 clear hT hn h1 h2 h7 h8 h9 i7 i8 i9 hg ho hs
 have HRP:=hid (show ruleP r↔r.sort≤3∧namedP r.name r.sort∧GoodN (r.sort != 0) r.body from Iff.rfl)
 obtain ⟨P,hP⟩:∃ P,ruleP r=P:=⟨_,rfl⟩
 rw [hP] at HRP ⊢
 clear hP
 by_cases h3:(3:Int) < r.sort
 ·have HX:=hid (show ¬ P from fun h=>by have:=(HRP.out.1 h).1;omega)
  go_enter Tryz.func52,Tryz.ntmps52
  go_wp2_with fail
  go_ret
  exact ⟨⟨_,rfl,fun _=>HX.out,fun _=>rfl⟩,HG.out⟩
 ·have HLE:=hid (show r.sort≤3 by omega)
  go_enter Tryz.func52,Tryz.ntmps52
  go_wp2_with fail
  refine HNM.out.mono ?_
  rintro e w ⟨⟨b,rfl,hbn⟩,hb⟩
  have o2:=HO.out.keep hb
  have c2:=o2.cell_at (i:=2) rfl
  have c1:=o2.cell_at (i:=1) rfl
  have c3:=o2.cell_at (i:=3) rfl
  have c4:=o2.cell_at (i:=4) rfl
  have c5:=o2.cell_at (i:=5) rfl
  have c6:=o2.cell_at (i:=6) rfl
  have cl:=o2.lt
  have HG2:=hid (HG.out.trans hb)
  have HBN:=hid hbn
  clear hb o2 hbn
  cases b with
  | false =>
   have HX:=hid (show ¬ P from fun h=>absurd (HBN.out.2 (HRP.out.1 h).2.1) (by simp))
   go_wp2_with fail
   go_ret
   exact ⟨⟨_,rfl,fun _=>HX.out,fun _=>rfl⟩,HG2.out⟩
  | true =>
   have HP:=hid (HPL.out w HG2.out)
   clear HPL
   go_wp2_with fail
   refine HP.out.mono ?_
   rintro e w2 ⟨⟨b,rfl,hb⟩,hg⟩
   have HG3:=hid (HG2.out.trans hg)
   have HB:=hid hb
   clear hg hb
   go_wp2_with fail
   go_ret
   refine ⟨⟨_,rfl,?_⟩,HG3.out⟩
   cases b
   ·exact ⟨fun _ h=>absurd (HB.out.2 (HRP.out.1 h).2.2) (by simp),fun _=>rfl⟩
   ·exact ⟨fun h=>(by cases h),fun h=>absurd (HRP.out.2 ⟨HLE.out,HBN.out.1 (by first | rfl | trivial),HB.out.1 (by first | rfl | trivial)⟩) h⟩
end Go.Proofs.YtppjmdanckdobaaGreatDoor

/- grams.Sound: yes just if the grammar is sound. -/
namespace Go.Proofs.YtppjmdanckdobaaGreatDoor
open Go.RowKit
open Lib (hid)
def IdxP (l:List Rl) (W:World) (e:Ending) (W':World):Prop:=(∃ k:Int,e=.returned (.int .i64 k)∧-1≤k∧k < 1000000000000∧(k < 0↔∀ i (h:i < l.length),ruleP l[i]))∧Grew W W'
def RulesTo (l:List Rl) (j:Nat):Prop:=∀ i (h:i < l.length),i < j→ruleP l[i]
theorem RulesTo.next {l:List Rl} {j:Nat} (h:RulesTo l j) (hj:j < l.length) (hp:ruleP l[j]):RulesTo l (j+1):=fun i hi hij=>by
 rcases Nat.lt_or_ge i j with h1 | h1
 ·exact h i hi h1
 ·have:i=j:=by omega
  subst this
  exact hp
set_option maxHeartbeats 1000000 in
set_option maxRecDepth 20000 in
theorem indexSound_ok (l:List Rl) (W:World) (hT:Lib.Utf8Tabs 1 2 W) (a:Option Addr) (cap:Nat) (hl:l.length≤1000) (hR:RulesAt W W.heap.size a 0 l) :
  Calls Tryz.prog 79 #[.slice a l.length cap,.func (.func 52) #[] #[]] W (IdxP l W):=by
 have HT:=hid hT
 clear hT
 go_enter Tryz.func79,Tryz.ntmps79
 go_wp2
 go_loopw [8] (fun i wr=>∃ (j:Nat),i=.int .i64 j∧j≤l.length∧Hid (RulesTo l j)∧Below W.heap.size W wr) (fun i _=>l.length - (intOf i).toNat)
 case atStart =>
  exact ⟨0,rfl,by omega,fun i hi h=>absurd h (by omega),Below.refl _ _⟩
 case round =>
  obtain ⟨j,rfl,hj,hf,hbw⟩:=hrel
  by_cases hlt:j < l.length
  ·obtain ⟨b,off,rfl,hb,hrule⟩:=(hR.keep hbw).get hlt
   simp only [Nat.zero_add] at hrule
   obtain ⟨u2,u3,u4,u5,u6,e0,e1,e2,e3,e4,e5,e6,e7,e8,e9,hrule,hnode⟩:=hrule.vals
   have HS:=hid (sound1_ok l[j] wr (tabs_grew HT.out hbw) _ _ _ _ _ _ _ _ _ _ (hrule.mono hbw.size))
   have HB:=hid hbw
   clear hrule hnode hR
   go_wp2_with fail
   refine HS.out.mono ?_
   rintro e w2 ⟨⟨x,rfl,hx⟩,hb2⟩
   have HX:=hid hx
   have HG:=hid (HB.out.trans (hb2.mono HB.out.size))
   clear hx hb2 hbw
   cases x
   ·go_wp2_with fail
    exact ⟨⟨j+1,by go_num,by omega,hf.out.next hlt (Classical.byContradiction fun h=>absurd (HX.out.2 h) (by simp)),HG.out⟩,by simp [intOf];omega⟩
   ·go_wp2_with fail
    go_ret
    exact ⟨⟨j,rfl,by omega,by omega,fun h=>by omega,fun h=>absurd (h j hlt) (HX.out.1 (by first | rfl | trivial))⟩,HG.out⟩
  ·have HB:=hid hbw
   clear hbw hR
   go_wp2_with fail
   go_ret
   exact ⟨⟨-1,rfl,by omega,by omega,fun _ i hi=>hf.out i hi (by omega),fun _=>by omega⟩,HB.out⟩
set_option maxRecDepth 20000 in
theorem contSound_ok (l:List Rl) (W:World) (hT:Lib.Utf8Tabs 1 2 W) (a:Option Addr) (cap:Nat) (hl:l.length≤1000) (hR:RulesAt W W.heap.size a 0 l) :
  Calls Tryz.prog 51 #[.slice a l.length cap,.func (.func 52) #[] #[]] W (JustIf (¬ ∀ i (h:i < l.length),ruleP l[i]) W):=by
 have hS:=hid (indexSound_ok l W hT a cap hl hR)
 clear hT hR
 go_enter Tryz.func51,Tryz.ntmps51
 go_wp2_with fail
 refine hS.out.mono ?_
 rintro e w ⟨⟨k,rfl,h1,h2,hk⟩,hg⟩
 have HK:=hid hk
 have HG:=hid hg
 clear hk hg
 by_cases h0:k < 0
 ·have hb:decide (0≤k)=false:=decide_eq_false (by omega)
  go_wp2_with fail
  go_ret
  exact ⟨⟨_,rfl,fun h=>by simp at h,fun h=>absurd (HK.out.1 h0) h⟩,HG.out⟩
 ·have hb:decide (0≤k)=true:=decide_eq_true (by omega)
  go_wp2_with fail
  go_ret
  exact ⟨⟨_,rfl,fun _ h=>absurd (HK.out.2 h) (by omega),fun _=>by simp⟩,HG.out⟩
def soundP (g:Gr):Prop:=wordP g.name∧(1≤g.bound∧g.bound≤8)∧(1≤g.states∧g.states≤4096)∧∀ i (h:i < g.rules.length),ruleP g.rules[i]
set_option maxHeartbeats 2000000 in
set_option maxRecDepth 20000 in
theorem sound_ok (g:Gr) (hfair:g.rules.length≤64) (W:World) (hT:Lib.Utf8Tabs 1 2 W) (v0 v1 v2 v3:Value) (hG:GrAt W W.heap.size (some v0) (some v1) (some v2) (some v3) g) :
  Calls Tryz.prog 31 #[.agg #[v0,v1,v2,v3]] W (JustIf (soundP g) W):=by
 obtain ⟨h1,hs,h2,h3,h4,h5,ra,rc,h6,h7,h8⟩:=hG
 obtain rfl:=Option.some.inj h1
 obtain rfl:=Option.some.inj h2
 obtain rfl:=Option.some.inj h3
 obtain rfl:=Option.some.inj h6
 have hl:g.rules.length≤1000:=by omega
 clear h1 h2 h3 h4 h5 h6
 have hg1:=grew_alloc W (.cells #[.string g.name,.int .i64 g.bound,.int .i64 g.states,.slice ra g.rules.length rc] 44)
 have hg2:=grew_alloc (W.alloc (.cells #[.string g.name,.int .i64 g.bound,.int .i64 g.states,.slice ra g.rules.length rc] 44)) (.cells #[.int .i64 g.bound,.int .i64 g.states] 41)
 have o1:=(Owns.alloc W [.string g.name,.int .i64 g.bound,.int .i64 g.states,.slice ra g.rules.length rc] 44).keep hg2
 have o2:=Owns.alloc (W.alloc (.cells #[.string g.name,.int .i64 g.bound,.int .i64 g.states,.slice ra g.rules.length rc] 44)) [.int .i64 g.bound,.int .i64 g.states] 41
 have hg:=hg1.trans hg2
 clear hg1 hg2
 have H8:=hid h8
 have HT:=hid hT
 clear h8 hT
 have hsz:(W.alloc (.cells #[.string g.name,.int .i64 g.bound,.int .i64 g.states,.slice ra g.rules.length rc] 44)).heap.size=W.heap.size+1:=by simp
 rw [hsz] at o2
 clear hsz
 have HSP:=hid (show soundP g↔wordP g.name∧(1≤g.bound∧g.bound≤8)∧(1≤g.states∧g.states≤4096)∧∀ i (h:i < g.rules.length),ruleP g.rules[i] from Iff.rfl)
 obtain ⟨P,hP⟩:∃ P,soundP g=P:=⟨_,rfl⟩
 rw [hP] at HSP ⊢
 clear hP
 go_enter Tryz.func31,Tryz.ntmps31
 go_wp2_with fail
 generalize (W.alloc (.cells #[.string g.name,.int .i64 g.bound,.int .i64 g.states,.slice ra g.rules.length rc] 44)).alloc (.cells #[.int .i64 g.bound,.int .i64 g.states] 41)=w1 at *
 refine (word_ok g.name hs w1 (tabs_grew HT.out hg)).mono ?_
 rintro e w ⟨⟨b,rfl,hbw⟩,hb⟩
 have p1:=o1.keep hb
 have p2:=o2.keep hb
 have c0:=p2.cell_at (i:=0) rfl
 have c1:=p2.cell_at (i:=1) rfl
 have c2:=p1.cell_at (i:=3) rfl
 have cl:=p2.lt
 have HG:=hid (hg.trans hb)
 have HBW:=hid hbw
 have hS:=hid (contSound_ok g.rules w (tabs_grew HT.out HG.out) ra rc hl ((H8.out.keep HG.out).mono HG.out.size))
 clear o1 o2 p1 p2 hg hb H8 hbw
 have HNO:=hid (fun (h:¬ P)=>show ((∃ b,Ending.returned (.bool false)=.returned (.bool b)∧(b=true↔P))∧Grew W w) from ⟨⟨false,rfl,fun h=>(by cases h),fun hp=>absurd hp h⟩,HG.out⟩)
 cases b with
 | false =>
  have HX:=hid (HNO.out fun h=>absurd (HBW.out.2 (HSP.out.1 h).1) (by simp))
  go_wp2_with fail
  go_ret
  exact HX.out
 | true =>
  by_cases b1:g.bound < 1
  ·have HX:=hid (HNO.out fun h=>by have:=(HSP.out.1 h).2.1;omega)
   go_wp2_with fail
   go_ret
   exact HX.out
  by_cases b2:8 < g.bound
  ·have HX:=hid (HNO.out fun h=>by have:=(HSP.out.1 h).2.1;omega)
   go_wp2_with fail
   go_ret
   exact HX.out
  by_cases b3:g.states < 1
  ·have HX:=hid (HNO.out fun h=>by have:=(HSP.out.1 h).2.2.1;omega)
   go_wp2_with fail
   go_ret
   exact HX.out
  by_cases b4:4096 < g.states
  ·have HX:=hid (HNO.out fun h=>by have:=(HSP.out.1 h).2.2.1;omega)
   go_wp2_with fail
   go_ret
   exact HX.out
  have HB1:=hid (show (1≤g.bound∧g.bound≤8)∧(1≤g.states∧g.states≤4096) by omega)
  by_cases b5:(64:Int) < (g.rules.length:Int)
  ·omega
  go_wp2_with fail
  refine hS.out.mono ?_
  rintro e w2 ⟨⟨x,rfl,hx⟩,hg2⟩
  have HX:=hid hx
  have HG2:=hid (HG.out.trans hg2)
  clear hx hg2
  go_wp2_with fail
  go_ret
  refine ⟨⟨_,rfl,?_⟩,HG2.out⟩
  cases x
  ·exact ⟨fun _=>HSP.out.2 ⟨HBW.out.1 (by first | rfl | trivial),HB1.out.1,HB1.out.2,Classical.byContradiction fun h=>absurd (HX.out.2 h) (by simp)⟩,fun _=>rfl⟩
  ·exact ⟨fun h=>(by cases h),fun h=>absurd (HSP.out.1 h).2.2.2 (HX.out.1 (by first | rfl | trivial))⟩
end Go.Proofs.YtppjmdanckdobaaGreatDoor

/- Plain law for ChecksFine: where nothing is told,each name has one rule,of the sort that may be named there,and each loop's body takes something. -/
namespace Go.Proofs.YtppjmdanckdobaaGreatDoor
open Lib (hid)
def Gr.nodeFine (g:Gr) (es:List Bool) (r:Rl) (n:Nd):Bool :=
 !(n.isName&&(decide (g.find n.name < 0) || ((n.kind == 5) != (g.sortAt (g.find n.name) == 0)) || g.sortAt (g.find n.name) == 3 || (r.sort == 0&&g.sortAt (g.find n.name) == 2)))&&!(g.loopBad es r n)
mutual
def Gr.soundN (g:Gr) (es:List Bool) (r:Rl):Nd→Bool
 | .mk k nm tx set subs=>g.nodeFine es r (.mk k nm tx set subs)&&Gr.soundL g es r subs
def Gr.soundL (g:Gr) (es:List Bool) (r:Rl):List Nd→Bool
 | []=>true
 | n::l=>Gr.soundN g es r n&&Gr.soundL g es r l
end
mutual
theorem soundN_all (g:Gr) (es:List Bool) (r:Rl):∀ n:Nd,(∀ m∈n.all,g.nodeFine es r m=true)→g.soundN es r n=true
 | .mk k nm tx set subs,h=>by
  rw [Nd.all] at h
  rw [Gr.soundN,h _ (List.mem_cons_self ..),soundL_all g es r subs fun m hm=>h m (List.mem_cons_of_mem _ hm)]
  rfl
theorem soundL_all (g:Gr) (es:List Bool) (r:Rl):∀ l:List Nd,(∀ m∈Nd.allL l,g.nodeFine es r m=true)→g.soundL es r l=true
 | [],_=>by rw [Gr.soundL]
 | n::l,h=>by
  rw [Nd.allL] at h
  rw [Gr.soundL,soundN_all g es r n fun m hm=>h m (List.mem_append_left _ hm),soundL_all g es r l fun m hm=>h m (List.mem_append_right _ hm)]
  rfl
end
theorem fine_find {g:Gr} {es:List Bool} {rch rnd:Nat→Nat→Bool} {i:Nat} (hi:i < g.rules.length) (q:Quiet g es rch rnd i g.rules[i]):g.find g.rules[i].name=(i:Int):=by
 have h:=q.twice
 unfold Gr.find at h ⊢
 rcases ixOf_cases g.rules (fun r=>sameB r.name g.rules[i].name) with ⟨h1,h2⟩ | ⟨j,hj,h1,h2,h3⟩
 ·rw [h1] at h
  omega
 ·rw [h1] at h ⊢
  by_cases hji:j=i
  ·rw [hji]
  ·have hlt:i < j:=by omega
   have:=h3 i hi hlt
   rw [sameB_refl] at this
   cases this
end Go.Proofs.YtppjmdanckdobaaGreatDoor
