/- Plain law for ChecksFine: what is told of a grammar, and what is so where nothing is told. -/
import Derived.RangeFuncNested
import Derived.RangeFuncBound
import Derived.RangeFuncCalls
import Derived.RangeFuncLeaves
import Derived.Shelf.Abstract
import Derived.OwnWalkIn
import Derived.TacticsInMore
import Derived.LoopNIn
import Derived.LoopIn
import Derived.Test.YtppjmdanckdobaaGreatDoorQR16
import Derived.Test.YtppjmdanckdobaaGreatDoorQR14
import Derived.Test.YtppjmdanckdobaaGreatDoorQR3
namespace Go.Proofs.YtppjmdanckdobaaGreatDoor
open Lib (hid)
mutual
def Nd.all:Nd→List Nd
 | .mk k nm tx set subs=>.mk k nm tx set subs::Nd.allL subs
def Nd.allL:List Nd→List Nd
 | []=>[]
 | n::r=>n.all++Nd.allL r
end
theorem all_self (n:Nd):n∈n.all:=by
 obtain ⟨k,nm,tx,set,subs⟩:=n
 rw [Nd.all]
 exact List.mem_cons_self ..
def Nd.isName (n:Nd):Bool:=n.kind == 5 || n.kind == 6
theorem named_is {g:Gr} {t:Bool} {m:Nd} {k:Nat} (h:g.named t m=(k:Int)):g.find m.name=(k:Int)∧((g.sortAt (k:Int) == 0)=(m.kind == 5))∧(m.kind=6→t=true):=by
 unfold Gr.named at h
 simp only at h
 split at h
 ·omega
 ·split at h
  ·omega
  ·next h1 h2 =>
   split at h
   ·omega
   ·next h3 =>
    rw [h] at h2 h1
    refine ⟨h,by simpa using h2,fun h6=>?_⟩
    rw [h6] at h3
    simpa using h3
theorem getD_setB (l:List Bool) (i k:Nat) (h:(l.set i true).getD k false=true):l.getD k false=true∨k=i:=by
 rw [getD_set] at h
 split at h
 ·next hh=>exact .inr hh.1
 ·exact .inl h
mutual
theorem marks_from (g:Gr) (es:List Bool) (t:Bool) (k:Nat):∀ (n:Nd) (l:List Bool),(g.marks es t n l).getD k false=true→l.getD k false=true∨∃ m∈n.all,m.isName=true∧g.named t m=(k:Int)
 | .mk kd nm tx set subs,l,h=>by
  rw [Gr.marks] at h
  rw [Nd.all]
  split at h
  ·rcases marksSeq_from g es t k subs l h with h | ⟨m,hm,hh⟩
   ·exact .inl h
   ·exact .inr ⟨m,List.mem_cons_of_mem _ hm,hh⟩
  ·split at h
   ·rcases marksAll_from g es t k subs l h with h | ⟨m,hm,hh⟩
    ·exact .inl h
    ·exact .inr ⟨m,List.mem_cons_of_mem _ hm,hh⟩
   ·split at h
    ·next hk =>
     split at h
     ·next hpos =>
      rcases getD_setB _ _ _ h with h | h
      ·exact .inl h
      ·refine .inr ⟨_,List.mem_cons_self ..,hk,?_⟩
       omega
     ·exact .inl h
    ·exact .inl h
theorem marksSeq_from (g:Gr) (es:List Bool) (t:Bool) (k:Nat):∀ (ns:List Nd) (l:List Bool),(g.marksSeq es t ns l).getD k false=true→l.getD k false=true∨∃ m∈Nd.allL ns,m.isName=true∧g.named t m=(k:Int)
 | [],l,h=>by
  rw [Gr.marksSeq] at h
  exact .inl h
 | n::r,l,h=>by
  rw [Gr.marksSeq] at h
  rw [Nd.allL]
  split at h
  ·rcases marksSeq_from g es t k r _ h with h | ⟨m,hm,hh⟩
   ·rcases marks_from g es t k n l h with h | ⟨m,hm,hh⟩
    ·exact .inl h
    ·exact .inr ⟨m,List.mem_append_left _ hm,hh⟩
   ·exact .inr ⟨m,List.mem_append_right _ hm,hh⟩
  ·rcases marks_from g es t k n l h with h | ⟨m,hm,hh⟩
   ·exact .inl h
   ·exact .inr ⟨m,List.mem_append_left _ hm,hh⟩
theorem marksAll_from (g:Gr) (es:List Bool) (t:Bool) (k:Nat):∀ (ns:List Nd) (l:List Bool),(g.marksAll es t ns l).getD k false=true→l.getD k false=true∨∃ m∈Nd.allL ns,m.isName=true∧g.named t m=(k:Int)
 | [],l,h=>by
  rw [Gr.marksAll] at h
  exact .inl h
 | n::r,l,h=>by
  rw [Gr.marksAll] at h
  rw [Nd.allL]
  rcases marksAll_from g es t k r _ h with h | ⟨m,hm,hh⟩
  ·rcases marks_from g es t k n l h with h | ⟨m,hm,hh⟩
   ·exact .inl h
   ·exact .inr ⟨m,List.mem_append_left _ hm,hh⟩
  ·exact .inr ⟨m,List.mem_append_right _ hm,hh⟩
end
theorem once_names {g:Gr} {es:List Bool} {i k:Nat} (h:g.Once es i k):∃ hi:i < g.rules.length,∃ m∈g.rules[i].body.all,m.isName=true∧g.named g.rules[i].token m=(k:Int):=by
 unfold Gr.Once at h
 obtain ⟨hi,_⟩:=at2_lt (onceM_square g es) h
 refine ⟨hi,?_⟩
 unfold at2 Gr.onceM at h
 have hrow:((List.range g.rules.length).map (g.onceRow es)).getD i []=g.onceRow es i:=by
  rw [List.getD_eq_getElem?_getD,List.getElem?_map,List.getElem?_range hi]
  rfl
 rw [hrow] at h
 unfold Gr.onceRow at h
 rw [List.getElem?_eq_getElem hi] at h
 simp only at h
 rcases marks_from g es _ k _ _ h with h0 | hm
 ·rw [List.getD_eq_getElem?_getD,List.getElem?_replicate] at h0
  split at h0<;>simp at h0
 ·exact hm
def Rl.parser (r:Rl):Bool:=r.sort == 0
def sortedB (r:Rl) (n:Nd) (of:Int):Bool:=if n.kind == 5 then r.parser&&of == 0 else if r.parser then of == 1 else of == 2
def Gr.rd0 (g:Gr) (i k:Nat):Prop:=∃ (hi:i < g.rules.length) (hk:k < g.rules.length),g.rules[i].parser=false∧g.rules[k].parser=false∧∃ m∈g.rules[i].body.all,m.isName=true∧g.find m.name=(k:Int)
structure Prob where
 code:Int
 rule:Int
 name:ByteArray
def Gr.loopBad (g:Gr) (es:List Bool) (r:Rl) (n:Nd):Bool:=(n.kind == 3 || n.kind == 4)&&(match n.subs with | []=>false | s::_=>g.may es r.token s)
def Gr.noneBad (g:Gr) (n:Nd):Bool:=n.isName&&decide (g.find n.name < 0)
def Gr.sortBad (g:Gr) (r:Rl) (n:Nd):Bool:=n.isName&&(decide (0≤g.find n.name)&&!sortedB r n (g.sortAt (g.find n.name)))
def nodesTold (i:Nat) (r:Rl) (code:Int) (wrong:Nd→Bool):List Prob:=(r.body.all.filter wrong).map fun n=>⟨code,i,if code=6 then r.name else n.name⟩
def Gr.ruleTold (g:Gr) (es:List Bool) (rch rnd:Nat→Nat→Bool) (i:Nat) (r:Rl):List Prob :=
 (if g.find r.name < (i:Int) then [⟨1,i,r.name⟩] else [])++nodesTold i r 2 g.noneBad++nodesTold i r 3 (g.sortBad r) ++
 (if r.parser&&rch i i then [⟨4,i,r.name⟩] else [])++(if rnd i i then [⟨5,i,r.name⟩] else [])++nodesTold i r 6 (g.loopBad es r) ++
 (if es.getD i false&&(r.sort == 1 || r.sort == 3) then [⟨7,i,r.name⟩] else [])
def Gr.rulesTold (g:Gr) (es:List Bool) (rch rnd:Nat→Nat→Bool):Nat→List Rl→List Prob
 | _,[]=>[]
 | i,r::l=>g.ruleTold es rch rnd i r++g.rulesTold es rch rnd (i+1) l
def Gr.start (g:Gr):Int:=ixOf g.rules fun r=>r.parser
def Gr.told (g:Gr) (es:List Bool) (rch rnd:Nat→Nat→Bool):List Prob :=
 g.rulesTold es rch rnd 0 g.rules++(if g.start < 0 then [⟨8,-1,{ data:=#[] }⟩] else [])
theorem rulesTold_at {g:Gr} {es:List Bool} {rch rnd:Nat→Nat→Bool}:∀ (l:List Rl) (i:Nat),g.rulesTold es rch rnd i l=[]→∀ j (h:j < l.length),g.ruleTold es rch rnd (i+j) l[j]=[]
 | [],_,_,j,h=>absurd h (by simp)
 | r::l,i,hh,j,h=>by
  rw [Gr.rulesTold,List.append_eq_nil_iff] at hh
  cases j with
  | zero=>exact hh.1
  | succ j =>
   have:=rulesTold_at l (i+1) hh.2 j (by simpa using h)
   rw [show i+(j+1)=i+1+j by omega]
   exact this
structure Quiet (g:Gr) (es:List Bool) (rch rnd:Nat→Nat→Bool) (i:Nat) (r:Rl):Prop where
 twice:¬ g.find r.name < (i:Int)
 none_:∀ n∈r.body.all,g.noneBad n=false
 sorts:∀ n∈r.body.all,g.sortBad r n=false
 left:r.parser=true→rch i i=false
 ring:rnd i i=false
 loop_:∀ n∈r.body.all,g.loopBad es r n=false
 some_:es.getD i false=true→r.sort≠1∧r.sort≠3
theorem nodesTold_nil {i:Nat} {r:Rl} {code:Int} {wrong:Nd→Bool} (h:nodesTold i r code wrong=[]):∀ n∈r.body.all,wrong n=false:=by
 intro n hn
 cases hw:wrong n
 ·rfl
 ·have:n∈r.body.all.filter wrong:=List.mem_filter.2 ⟨hn,hw⟩
  unfold nodesTold at h
  rw [List.map_eq_nil_iff] at h
  rw [h] at this
  cases this
theorem quiet_of {g:Gr} {es:List Bool} {rch rnd:Nat→Nat→Bool} {i:Nat} {r:Rl} (h:g.ruleTold es rch rnd i r=[]):Quiet g es rch rnd i r:=by
 unfold Gr.ruleTold at h
 simp only [List.append_eq_nil_iff] at h
 obtain ⟨⟨⟨⟨⟨⟨h1,h2⟩,h3⟩,h4⟩,h5⟩,h6⟩,h7⟩:=h
 refine ⟨?_,nodesTold_nil h2,nodesTold_nil h3,fun hp=>?_,?_,nodesTold_nil h6,fun he=>?_⟩
 ·intro hc
  rw [if_pos hc] at h1
  cases h1
 ·cases hr:rch i i
  ·rfl
  ·rw [if_pos (by rw [hp,hr];rfl)] at h4
   cases h4
 ·cases hr:rnd i i
  ·rfl
  ·rw [if_pos hr] at h5
   cases h5
 ·by_cases hs:r.sort=1∨r.sort=3
  ·rw [if_pos (by rw [he];rcases hs with h | h<;>rw [h]<;>rfl)] at h7
   cases h7
  ·exact ⟨fun h=>hs (.inl h),fun h=>hs (.inr h)⟩
theorem no_ring {g:Gr} {es:List Bool} {rch rnd:Nat→Nat→Bool} (hq:∀ i (h:i < g.rules.length),Quiet g es rch rnd i g.rules[i])
  (hr:∀ i k,rch i k=true→Tc (g.Once es) i k) (hd:∀ i k,Tc g.rd0 i k→rnd i k=true) (i:Nat) (hi:i < g.rules.length):rch i i=false:=by
 cases hrc:rch i i
 ·rfl
 ·cases hp:g.rules[i].parser
  ·have hone:∀ a b,(∃ ha:a < g.rules.length,g.rules[a].parser=false)→g.Once es a b→g.rd0 a b:=by
    rintro a b ⟨ha,hpa⟩ ho
    obtain ⟨_,m,hm,hn,hnm⟩:=once_names ho
    obtain ⟨hf,_,_⟩:=named_is hnm
    have hsb:=(hq a ha).sorts m hm
    have hb:b < g.rules.length:=by
     rcases ixOf_cases g.rules (fun r=>sameB r.name m.name) with ⟨h1,_⟩ | ⟨j,hj,h1,_⟩
     ·unfold Gr.find at hf
      omega
     ·unfold Gr.find at hf
      omega
    refine ⟨ha,hb,hpa,?_,m,hm,hn,hf⟩
    unfold Gr.sortBad at hsb
    rw [hn,hf,sortAt_nat g b hb] at hsb
    unfold sortedB at hsb
    rw [hpa] at hsb
    cases h5:m.kind == 5
    ·rw [h5] at hsb
     have:g.rules[b].sort=2:=by simpa using hsb
     unfold Rl.parser
     rw [this]
     rfl
    ·rw [h5] at hsb
     simp at hsb
   have htc:∀ a b,Tc (g.Once es) a b→(∃ ha:a < g.rules.length,g.rules[a].parser=false)→Tc g.rd0 a b:=by
    intro a b h
    induction h with
    | one h=>exact fun hp=>.one (hone _ _ hp h)
    | more h _ ih =>
     intro hp
     have h1:=hone _ _ hp h
     obtain ⟨_,hk,_,hpk,_⟩:=h1
     exact .more (hone _ _ hp h) (ih ⟨hk,hpk⟩)
   have:=hd i i (htc i i (hr i i hrc) ⟨hi,hp⟩)
   rw [(hq i hi).ring] at this
   cases this
  ·have:=(hq i hi).left hp
   rw [hrc] at this
   cases this
end Go.Proofs.YtppjmdanckdobaaGreatDoor

/- checks.all: a node and all that lie below it,one by one: the contract of the iterator. -/
namespace Go.Proofs.YtppjmdanckdobaaGreatDoor
open Go.RowKit Go.Shelf
open Lib (hid)
attribute [local go_sem] Oper.semAt_some
structure NV (W0:World) (lim:Nat) where
 n:Nd
 v0:Value
 v1:Value
 v2:Value
 v3:Value
 v4:Value
 lies:NodeAt W0 lim (some v0) (some v1) (some v2) (some v3) (some v4) n
def NV.enc {W0:World} {lim:Nat} (x:NV W0 lim):Array Value:=#[.agg #[x.v0,x.v1,x.v2,x.v3,x.v4]]
structure KpN (lim:Nat) (W W':World):Prop where
 low:Below lim W W'
 box:∀ (b:Nat) (cs:Array Value) (T:Nat) (f:Nat × Nat),W.heap[b]? = some (.cells cs T f)→(T=80∨T=127)→W'.heap[b]? = some (.cells cs T f)
theorem KpN.refl (lim:Nat) (W:World):KpN lim W W:=⟨Below.refl _ _,fun _ _ _ _ h _=>h⟩
theorem KpN.trans {lim:Nat} {A B C:World} (h:KpN lim A B) (k:KpN lim B C):KpN lim A C:=⟨h.low.trans k.low,fun b cs T f hb hT=>k.box b cs T f (h.box b cs T f hb hT) hT⟩
theorem KpN.grew {lim:Nat} {A B:World} (h:Grew A B) (hl:lim≤A.heap.size):KpN lim A B :=
 ⟨h.mono hl,fun b cs T f hb _=>by rw [h.block b (Array.getElem?_eq_some_iff.1 hb).1];exact hb⟩
def IdxPost (l:List Nd) (Inv St:Nat→World→Prop) (e:Ending) (W':World):Prop :=
 (e=.returned (.int .i64 (-1))∧Inv l.length W')∨∃ j,j < l.length∧e=.returned (.int .i64 (j:Int))∧St j W'
def CntPost (l:List Nd) (Inv St:Nat→World→Prop) (e:Ending) (W':World):Prop :=
 (e=.returned (.bool false)∧Inv l.length W')∨∃ j,j < l.length∧e=.returned (.bool true)∧St j W'
def ElPost (Inv St:Nat→World→Prop) (j:Nat) (e:Ending) (W':World):Prop :=
 (e=.returned (.bool false)∧Inv (j+1) W')∨(e=.returned (.bool true)∧St j W')
set_option maxHeartbeats 1000000 in
set_option maxRecDepth 20000 in
theorem indexNodesI_ok (F:Fence) (hd:F.depth=none) (hfn:∀ k,F.fn k) (hro:F.round=none) (n:Nat) (l:List Nd) (G:Nat) (cp:Array Value) (hF:Enters G) (W0:World) (lim:Nat) (a:Option Addr) (cap:Nat) (hl:l.length≤reachN) (hR:NodesAt W0 lim a 0 l)
  (Inv St:Nat→World→Prop) (hI:∀ j W,Inv j W→Below lim W0 W)
  (HF:∀ (j:Nat) (hj:j < l.length) (m:Nat) (W:World) (v0 v1 v2 v3 v4:Value),Inv j W→NodeAt W0 lim (some v0) (some v1) (some v2) (some v3) (some v4) l[j]→CallsIn F m Tryz.prog G (#[.agg #[v0,v1,v2,v3,v4]]++cp) W (ElPost Inv St j))
  (W:World) (h0:Inv 0 W):CallsIn F n Tryz.prog 134 #[.slice a l.length cap,.func (.func G) #[] cp] W (IdxPost l Inv St):=by
 have hdd:∀ k:Nat,(F.depth.isSome=true→1≤k):=fun k h=>by rw [hd] at h;cases h
 unfold reachN at hl
 refine callsIn_of_wp Tryz.func134 rfl (hfn _) ?_ hro
 simp only [Tryz.ntmps134,List.size_toArray,List.length_cons,List.length_nil,Nat.reduceAdd,Nat.reduceSub,Array.replicate_succ,Array.replicate_zero,List.push_toArray,List.append_toArray,List.nil_append,List.cons_append]
 gi_wp2
 gi_loopw [8] (fun i wr=>∃ (j:Nat),i=.int .i64 j∧j≤l.length∧Hid (Inv j wr)) (fun i _=>l.length - (intOf i).toNat)
 case atStart =>
  exact ⟨0,rfl,by omega,h0⟩
 case round =>
  obtain ⟨j,rfl,hj,hf⟩:=hrel
  by_cases hlt:j < l.length
  ·obtain ⟨b,off,rfl,hb,hnode⟩:=hR.get hlt
   simp only [Nat.zero_add] at hnode
   obtain ⟨u0,u1,u2,u3,u4,e0,e1,e2,e3,e4,hnode⟩:=hnode.vals
   obtain ⟨k0,k1,k2,k3,k4,k5,k6,k7,k8,rfl,rfl,rfl,rfl,rfl⟩:=hnode.forms
   have HS:=hid (fun m=>HF j hlt m wr _ _ _ _ _ hf.out hnode)
   have hlo:=hI j wr hf.out
   rw [← hlo.cell (p:=⟨b,off+j * 5,none⟩) hb] at e0
   rw [← hlo.cell (p:=⟨b,off+j * 5+1,none⟩) hb] at e1
   rw [← hlo.cell (p:=⟨b,off+j * 5+2,none⟩) hb] at e2
   rw [← hlo.cell (p:=⟨b,off+j * 5+3,none⟩) hb] at e3
   rw [← hlo.cell (p:=⟨b,off+j * 5+4,none⟩) hb] at e4
   clear hnode hR HF hlo hI
   have hFx:=hF
   unfold Enters at hFx
   clear hF
   gi_wp2_with ((try refine ⟨hdd _,?_⟩);refine (HS.out _).mono ?_;rintro e w2 (⟨rfl,h2⟩ | ⟨rfl,h2⟩))
   ·go_roundw
    case rel=>exact ⟨j+1,by go_num,by omega,h2⟩
    case measure=>simp [intOf];omega
   ·go_ret
    exact .inr ⟨j,hlt,rfl,h2⟩
  ·have hjl:j=l.length:=by omega
   subst hjl
   gi_wp2_with fail
   go_ret
   exact .inl ⟨rfl,hf.out⟩
theorem contNodesI_ok (F:Fence) (hd:F.depth=none) (hfn:∀ k,F.fn k) (hro:F.round=none) (n:Nat) (l:List Nd) (G:Nat) (cp:Array Value) (hF:Enters G) (W0:World) (lim:Nat) (a:Option Addr) (cap:Nat) (hl:l.length≤reachN) (hR:NodesAt W0 lim a 0 l)
  (Inv St:Nat→World→Prop) (hI:∀ j W,Inv j W→Below lim W0 W)
  (HF:∀ (j:Nat) (hj:j < l.length) (m:Nat) (W:World) (v0 v1 v2 v3 v4:Value),Inv j W→NodeAt W0 lim (some v0) (some v1) (some v2) (some v3) (some v4) l[j]→CallsIn F m Tryz.prog G (#[.agg #[v0,v1,v2,v3,v4]]++cp) W (ElPost Inv St j))
  (W:World) (h0:Inv 0 W):CallsIn F n Tryz.prog 96 #[.slice a l.length cap,.func (.func G) #[] cp] W (CntPost l Inv St):=by
 have hdd:∀ k:Nat,(F.depth.isSome=true→1≤k):=fun k h=>by rw [hd] at h;cases h
 have hS:=hid (fun m=>indexNodesI_ok F hd hfn hro m l G cp hF W0 lim a cap hl hR Inv St hI HF W h0)
 clear HF hR hF hI
 refine callsIn_of_wp Tryz.func96 rfl (hfn _) ?_ hro
 simp only [Tryz.ntmps96,List.size_toArray,List.length_cons,List.length_nil,Nat.reduceAdd,Nat.reduceSub,Array.replicate_succ,Array.replicate_zero,List.push_toArray,List.append_toArray,List.nil_append,List.cons_append]
 gi_wp2_with ((try refine ⟨hdd _,?_⟩);gi_at_call 134;refine (hS.out _).mono ?_;rintro e w' (⟨rfl,h2⟩ | ⟨j,hj,rfl,h2⟩))
 ·go_ret
  exact .inl ⟨rfl,h2⟩
 ·go_ret
  exact .inr ⟨j,hj,by simp,h2⟩
def YesNo (A B:World→Prop) (e:Ending) (W':World):Prop:=(e=.returned (.bool true)∧A W')∨(e=.returned (.bool false)∧B W')
theorem enters_walk1:Enters 158:=fun _ _=>by kernel_rfl
theorem walk1_in (F:Fence) (hd:F.depth=none) (hfn:∀ k,F.fn k) (hro:F.round=none) (l pb:Nat) (v0 v1 v2 v3 v4:Value) (A B:World→Prop) (n:Nat) (W:World) (hc:W.cell? ⟨pb,0,none⟩=some (.func (.yield l) #[] #[]))
  (H:∀ m W1,Grew W W1→CallsIn F m Tryz.prog 145 #[.agg #[v0,v1,v2,v3,v4],.func (.yield l) #[] #[]] W1 (YesNo A B)) :
  CallsIn F n Tryz.prog 158 (#[.agg #[v0,v1,v2,v3,v4]]++#[.pointer (some ⟨pb,0,none⟩)]) W (YesNo B A):=by
 have hdd:∀ k:Nat,(F.depth.isSome=true→1≤k):=fun k h=>by rw [hd] at h;cases h
 have hgr:=grew_alloc W (.cells #[v0,v1,v2,v3,v4] 80)
 have hl:=lt_of_cell hc
 have hS:=hid (fun m=>H m _ hgr)
 clear H hgr
 simp only [List.append_toArray,List.cons_append,List.nil_append]
 refine callsIn_of_wp Tryz.func158 rfl (hfn _) ?_ hro
 simp only [Tryz.ntmps158,List.size_toArray,List.length_cons,List.length_nil,Nat.reduceAdd,Nat.reduceSub,Array.replicate_succ,Array.replicate_zero,List.push_toArray,List.append_toArray,List.nil_append,List.cons_append]
 gi_wp2_with ((try refine ⟨hdd _,?_⟩);gi_at_call 145;refine (hS.out _).mono ?_;rintro e w' (⟨rfl,h2⟩ | ⟨rfl,h2⟩))
 ·go_ret
  exact .inr ⟨rfl,h2⟩
 ·go_ret
  exact .inl ⟨rfl,h2⟩
def AllCame {W0:World} {lim:Nat} (J:List (NV W0 lim)→World→Prop) (pre:List (NV W0 lim)) (L:List Nd) (W W':World):Prop:=∃ q:List (NV W0 lim),q.map NV.n=L∧J (pre++q) W'∧KpN lim W W'
def PartCame {W0:World} {lim:Nat} (Jx:List (NV W0 lim)→World→Prop) (pre:List (NV W0 lim)) (L:List Nd) (W':World):Prop:=∃ q:List (NV W0 lim),q.map NV.n <+: L∧Jx (pre++q) W'
theorem allL_take (l:List Nd) (j:Nat) (hj:j < l.length):Nd.allL (l.take (j+1))=Nd.allL (l.take j)++l[j].all:=by
 induction l generalizing j with
 | nil=>exact absurd hj (by simp)
 | cons a r ih =>
  cases j with
  | zero=>simp [Nd.allL]
  | succ j =>
   have:=ih j (by simpa using hj)
   simp only [List.take_succ_cons,List.getElem_cons_succ,Nd.allL]
   rw [this,List.append_assoc]
theorem allL_take_le (l:List Nd) (j:Nat) (hj:j < l.length):Nd.allL (l.take j)++l[j].all <+: Nd.allL l:=by
 rw [← allL_take l j hj]
 have:∀ (l:List Nd) k,Nd.allL (l.take k) <+: Nd.allL l:=by
  intro l
  induction l with
  | nil=>intro k;simp [Nd.allL]
  | cons a r ih =>
   intro k
   cases k with
   | zero=>simp [Nd.allL]
   | succ k =>
    obtain ⟨t,ht⟩:=ih k
    exact ⟨t,by simp only [List.take_succ_cons,Nd.allL,List.append_assoc,ht]⟩
 exact this l _
set_option maxHeartbeats 4000000 in
set_option maxRecDepth 20000 in
theorem walkN_ok (F:Fence) (hd:F.depth=none) (hfn:∀ k,F.fn k) (hro:F.round=none) (l lim N:Nat) (W0:World) (hlim:lim≤W0.heap.size) (J Jx:List (NV W0 lim)→World→Prop) (hJ:∀ s A B,J s A→Grew A B→J s B)
  (hY:∀ m pre (x:NV W0 lim) W,J pre W→Below lim W0 W→pre.length < N→YieldAt F m Tryz.prog l x.enc W (YesNo (fun W'=>J (pre++[x]) W'∧KpN lim W W') (Jx (pre++[x])))) :
  ∀ n:Nd,∀ (m:Nat) (v0 v1 v2 v3 v4:Value) (_:NodeAt W0 lim (some v0) (some v1) (some v2) (some v3) (some v4) n) (pre:List (NV W0 lim)) (W:World),J pre W→Below lim W0 W→pre.length+n.all.length≤N →
   CallsIn F m Tryz.prog 145 #[.agg #[v0,v1,v2,v3,v4],.func (.yield l) #[] #[]] W (YesNo (AllCame J pre n.all W) (PartCame Jx pre n.all)):=by
 have hdd:∀ k:Nat,(F.depth.isSome=true→1≤k):=fun k h=>by rw [hd] at h;cases h
 refine Nd.ind ?_
 intro k nm tx set subs ih m v0 v1 v2 v3 v4 hN pre W hj hb hlen
 obtain ⟨x,hx⟩:∃ x:NV W0 lim,x=⟨_,_,_,_,_,_,hN⟩:=⟨_,rfl⟩
 have hxe:x.enc=#[.agg #[v0,v1,v2,v3,v4]]:=by rw [hx];rfl
 have hxn:x.n=.mk k nm tx set subs:=by rw [hx]
 clear hx
 rw [NodeAt] at hN
 obtain ⟨hk,h1,h2,h3,h4,h5,⟨sa,sc,h6,h6',h7⟩,na,nc,h8,h8',h9⟩:=hN
 obtain rfl:=Option.some.inj h3
 obtain rfl:=Option.some.inj h4
 obtain rfl:=Option.some.inj h5
 obtain rfl:=Option.some.inj h6
 obtain rfl:=Option.some.inj h8
 clear h3 h4 h5 h6 h7 h8
 rw [Nd.all,List.length_cons] at hlen
 have hg1:=grew_alloc W (.cells #[.int .u8 k,.string nm,.string tx,.slice sa set.length sc,.slice na subs.length nc] 80)
 have hg2:=grew_alloc (W.alloc (.cells #[.int .u8 k,.string nm,.string tx,.slice sa set.length sc,.slice na subs.length nc] 80)) (.cells #[.func (.yield l) #[] #[]] 127)
 have ho1:=(Owns.alloc W [.int .u8 k,.string nm,.string tx,.slice sa set.length sc,.slice na subs.length nc] 80).keep hg2
 have ho2:=Owns.alloc (W.alloc (.cells #[.int .u8 k,.string nm,.string tx,.slice sa set.length sc,.slice na subs.length nc] 80)) [.func (.yield l) #[] #[]] 127
 have e1:(W.alloc (.cells #[.int .u8 k,.string nm,.string tx,.slice sa set.length sc,.slice na subs.length nc] 80)).heap.size=W.heap.size+1:=by simp
 rw [e1] at ho2
 clear e1
 have hg:=hg1.trans hg2
 have hsz:=hb.size
 have hbA:=hb.trans (hg.mono (show lim≤W.heap.size by omega))
 have hYA:=hY (m - 1) pre x _ (hJ _ _ _ hj hg) hbA (by omega)
 obtain ⟨fn,tmps,assign,body,hy,hR⟩:=hYA
 rw [hxe] at hy
 have HKG:=hid (KpN.grew hg (show lim≤W.heap.size by omega))
 have hR':=hR.mono (R':=fun e W2=>(e=.returned (.bool true)∧Hid (J (pre++[x]) W2)∧Hid (KpN lim W W2)∧Hid (Below lim W0 W2)∧W2.cell? ⟨W.heap.size,4,none⟩=some (.slice na subs.length nc)∧Hid (W2.cell? ⟨W.heap.size+1,0,none⟩=some (.func (.yield l) #[] #[])) ∧
   Hid (W2.heap[W.heap.size+1]? = some (.cells #[.func (.yield l) #[] #[]] 127 (0,0))))∨(e=.returned (.bool false)∧Jx (pre++[x]) W2)) (by
  rintro e W2 (⟨rfl,hj2,hk2⟩ | ⟨rfl,hx2⟩)
  ·have o1:Owns W2 W.heap.size _ 80:=hk2.box _ _ _ _ ho1 (.inl rfl)
   have o2:Owns W2 (W.heap.size+1) _ 127:=hk2.box _ _ _ _ ho2 (.inr rfl)
   exact .inl ⟨rfl,hj2,(KpN.grew hg (show lim≤W.heap.size by omega)).trans hk2,hbA.trans hk2.low,o1.cell_at rfl,o2.cell_at rfl,o2⟩
  ·exact .inr ⟨rfl,hx2⟩)
 have HR:=hid hR'
 have HIH:=hid ih
 have HJ:=hid hJ
 have H9:=hid h9
 clear hY hg1 hg2 ho1 ho2 hg hR hR' hbA ih hJ hb h9 hxe hj hsz
 unfold reachN at h1 h2 h6' h8'
 refine callsIn_of_wp Tryz.func145 rfl (hfn _) ?_ hro
 simp only [Tryz.ntmps145,List.size_toArray,List.length_cons,List.length_nil,Nat.reduceAdd,Nat.reduceSub,Array.replicate_succ,Array.replicate_zero,List.push_toArray,List.append_toArray,List.nil_append,List.cons_append]
 gi_wp2_with ((try refine ⟨hdd _,?_⟩);refine HR.out.mono ?_;rintro e W2 (⟨rfl,hj2,hk2,hb2,hc2,hy2,ho2⟩ | ⟨rfl,hx2⟩))
 ·have hC:∀ m,CallsIn F m Tryz.prog 96 #[.slice na subs.length nc,.func (.func 158) #[] #[.pointer (some ⟨W.heap.size+1,0,none⟩)]] W2
    (CntPost subs (fun j W'=>AllCame J (pre++[x]) (Nd.allL (subs.take j)) W2 W') (fun _ W'=>PartCame Jx (pre++[x]) (Nd.allL subs) W')):=by
   intro m
   refine contNodesI_ok F hd hfn hro m subs 158 _ enters_walk1 W0 lim na nc (by unfold reachN;omega) H9.out _ _ (fun j W' ⟨q,_,_,h⟩=>hb2.out.trans h.low) ?_ W2 ⟨[],by simp [Nd.allL],by simpa using hj2.out,KpN.refl _ _⟩
   rintro j hj m W' u0 u1 u2 u3 u4 ⟨q,hq1,hq2,hq3⟩ hnode
   have hty:W'.cell? ⟨W.heap.size+1,0,none⟩=some (.func (.yield l) #[] #[]):=Owns.cell_at (hq3.box _ _ _ _ ho2.out (.inr rfl)) rfl
   have hql:=congrArg List.length hq1
   have hal:=(allL_take_le subs j hj).length_le
   simp only [List.length_map,List.length_append] at hql hal
   refine (walk1_in F hd hfn hro l _ u0 u1 u2 u3 u4 (AllCame J (pre++[x]++q) subs[j].all W') (PartCame Jx (pre++[x]++q) subs[j].all) m W' hty (fun m W1 hg=>?_)).mono ?_
   ·have hb':=hb2.out.trans hq3.low
    refine (HIH.out j hj m u0 u1 u2 u3 u4 hnode (pre++[x]++q) W1 (HJ.out _ _ _ hq2 hg) (hb'.trans (hg.mono (by have:=hb'.size;omega))) (by simp only [List.length_append,List.length_singleton];omega)).mono ?_
    rintro e W3 (⟨rfl,q',r1,r2,r3⟩ | h)
    ·exact .inl ⟨rfl,q',r1,r2,(KpN.grew hg (by have:=hb'.size;omega)).trans r3⟩
    ·exact .inr h
   ·rintro e W3 (⟨rfl,q',r1,r2⟩ | ⟨rfl,q',r1,r2,r3⟩)
    ·refine .inr ⟨rfl,q++q',?_,by simpa using r2⟩
     rw [List.map_append,hq1]
     exact (List.prefix_append_right_inj _).2 r1 |>.trans (allL_take_le subs j hj)
    ·refine .inl ⟨rfl,q++q',?_,by simpa using r2,hq3.trans r3⟩
     rw [List.map_append,hq1,r1,allL_take subs j hj]
  have HC:=hid hC
  clear hC HIH HJ H9 hy HR
  gi_wp2_with ((try refine ⟨hdd _,?_⟩);gi_at_call 96;refine (HC.out _).mono ?_;rintro e W3 (⟨rfl,q,hq1,hq2,hq3⟩ | ⟨j,hj,rfl,q,hq1,hq2⟩))
  ·go_ret
   refine .inl ⟨rfl,x::q,?_,by simpa using hq2,hk2.out.trans hq3⟩
   rw [List.map_cons,hxn,Nd.all,hq1,List.take_length]
  ·go_ret
   refine .inr ⟨rfl,x::q,?_,by simpa using hq2⟩
   rw [List.map_cons,hxn,Nd.all]
   obtain ⟨t,ht⟩:=hq1
   exact ⟨t,by simp [ht]⟩
 ·go_ret
  refine .inr ⟨rfl,[x],?_,hx2⟩
  rw [List.map_singleton,hxn,Nd.all]
  exact ⟨_,rfl⟩
theorem grew_abides {β:Type} {B:Nat} {J:β→World→Prop} (h:AbidesFrom B J):∀ s A C,J s A→Grew A C→J s C:=fun s A C hs hg =>
 h s A C none hs ⟨hg.os,hg.tape,hg.output,hg.size,fun k hk _=>hg.block k hk⟩ (fun r e=>by cases e)
theorem all_stops (F:Fence) (hd:F.depth=none) (hfn:∀ k,F.fn k) (hro:F.round=none) (m lim Bn:Nat) (W0 w:World) (hlim:lim≤W0.heap.size) (hw:KpN lim W0 w) (n:Nd) (v0 v1 v2 v3 v4:Value)
  (hN:NodeAt W0 lim (some v0) (some v1) (some v2) (some v3) (some v4) n) (hB:Owns w Bn [v0,v1,v2,v3,v4] 80) :
  SeqStopsK F m Tryz.prog 144 #[.pointer (some ⟨Bn,0,none⟩)] (NV.enc (W0:=W0) (lim:=lim)) (KpN lim) (fun q=>q.map NV.n=n.all) (fun q=>q.map NV.n <+: n.all) n.all.length w:=by
 have hdd:∀ k:Nat,(F.depth.isSome=true→1≤k):=fun k h=>by rw [hd] at h;cases h
 intro l J Jx W hW hJ _ hY h0
 have hwz:=hw.low.size
 have hbl:Below lim W0 W:=hw.low.trans (hW.mono (by omega))
 have hBo:Owns W Bn [v0,v1,v2,v3,v4] 80:=hB.keep hW
 have hY':∀ m' pre (x:NV W0 lim) W,J pre W→Below lim W0 W→pre.length < n.all.length→YieldAt F m' Tryz.prog l x.enc W (YesNo (fun W'=>J (pre++[x]) W'∧KpN lim W W') (Jx (pre++[x]))):=fun m' pre x W hj _ hl=>by
  obtain ⟨fn,tmps,assign,body,hy,hR⟩:=hY pre x W hj hl
  exact ⟨fn,tmps,assign,body,hy,hR.1,fun c cs _=>hR.2 c cs (fun d h=>by rw [hd] at h;cases h)⟩
 have hS:=hid (fun m'=>walkN_ok F hd hfn hro l lim n.all.length W0 hlim J Jx (grew_abides hJ) hY' n m' v0 v1 v2 v3 v4 hN [] W h0 hbl (by simp))
 obtain ⟨k0,k1,k2,k3,k4,k5,k6,k7,k8,rfl,rfl,rfl,rfl,rfl⟩:=hN.forms
 have c0:=hBo.cell_at (i:=0) rfl
 have c1:=hBo.cell_at (i:=1) rfl
 have c2:=hBo.cell_at (i:=2) rfl
 have c3:=hBo.cell_at (i:=3) rfl
 have c4:=hBo.cell_at (i:=4) rfl
 have hbl:=hBo.lt
 clear hY hY' hJ hN hB hBo hW hw
 simp only [List.append_toArray,List.cons_append,List.nil_append]
 refine callsIn_of_wp Tryz.func144 rfl (hfn _) ?_ hro
 simp only [Tryz.ntmps144,List.size_toArray,List.length_cons,List.length_nil,Nat.reduceAdd,Nat.reduceSub,Array.replicate_succ,Array.replicate_zero,List.push_toArray,List.append_toArray,List.nil_append,List.cons_append]
 gi_wp2_with ((try refine ⟨hdd _,?_⟩);gi_at_call 145;refine (hS.out _).mono ?_;rintro e w' (⟨rfl,q,h1,h2,h3⟩ | ⟨rfl,q,h1,h2⟩))
 ·go_end0
  exact ⟨⟨_,rfl⟩,.inl ⟨q,h1,by simpa using h2⟩⟩
 ·go_end0
  exact ⟨⟨_,rfl⟩,.inr ⟨q,h1,by simpa using h2⟩⟩
theorem all_in (F:Fence) (hfn:∀ k,F.fn k) (hro:F.round=none) (m:Nat) (v0 v1 v2 v3 v4:Value) (w:World) :
  CallsIn F m Tryz.prog 119 #[.agg #[v0,v1,v2,v3,v4]] w fun e w'=>e=.returned (.func (.func 144) #[] #[.pointer (some ⟨w.heap.size,0,none⟩)])∧w'=w.alloc (.cells #[v0,v1,v2,v3,v4] 80):=by
 refine callsIn_of_wp Tryz.func119 rfl (hfn _) ?_ hro
 simp only [Tryz.ntmps119,List.size_toArray,List.length_cons,List.length_nil,Nat.reduceAdd,Nat.reduceSub,Array.replicate_succ,Array.replicate_zero,List.push_toArray,List.append_toArray,List.nil_append,List.cons_append]
 gi_wp2
 go_ret
 exact ⟨rfl,rfl⟩
end Go.Proofs.YtppjmdanckdobaaGreatDoor
