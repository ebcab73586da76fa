/- checks.Check and Fine: all that is told of a grammar. -/
import Derived.Test.YtppjmdanckdobaaGreatDoorQR40
import Derived.Test.YtppjmdanckdobaaGreatDoorQR21
import Derived.Test.YtppjmdanckdobaaGreatDoorQR26
namespace Go.Proofs.YtppjmdanckdobaaGreatDoor
open Go.RowKit Go.Shelf
open Lib (hid)
theorem rulesTold_snoc (g:Gr) (es:List Bool) (rch rnd:Nat→Nat→Bool):∀ (l:List Rl) (i j:Nat) (h:j < l.length),g.rulesTold es rch rnd i (l.take (j+1))=g.rulesTold es rch rnd i (l.take j)++g.ruleTold es rch rnd (i+j) l[j]
 | [],_,_,h=>absurd h (by simp)
 | r::l,i,0,_=>by simp [Gr.rulesTold]
 | r::l,i,j+1,h=>by
  have:=rulesTold_snoc g es rch rnd l (i+1) j (by simpa using h)
  simp only [List.take_succ_cons,Gr.rulesTold,List.getElem_cons_succ]
  rw [this,List.append_assoc,show i+1+j=i+(j+1) by omega]
theorem ruleTold_len (g:Gr) (es:List Bool) (rch rnd:Nat→Nat→Bool) (i:Nat) (r:Rl):(g.ruleTold es rch rnd i r).length≤3 * r.body.all.length+4:=by
 unfold Gr.ruleTold
 have h2:=nodesTold_len i r 2 g.noneBad
 have h3:=nodesTold_len i r 3 (g.sortBad r)
 have h6:=nodesTold_len i r 6 (g.loopBad es r)
 simp only [List.length_append]
 have hi:∀ (c:Prop) [Decidable c] (p:Prob),(if c then [p] else []).length≤1:=fun c _ p=>by split<;>simp
 have a1:=hi (g.find r.name < (i:Int)) ⟨1,i,r.name⟩
 have a2:=hi ((r.parser&&rch i i)=true) ⟨4,i,r.name⟩
 have a3:=hi (rnd i i=true) ⟨5,i,r.name⟩
 have a4:=hi ((es.getD i false&&(r.sort == 1 || r.sort == 3))=true) ⟨7,i,r.name⟩
 omega
structure Gr.Few (g:Gr):Prop where
 len:g.rules.length≤60
 all:∀ i (h:i < g.rules.length),g.rules[i].body.all.length≤4000
theorem Gr.Few.told {g:Gr} (h:g.Few) (es:List Bool) (rch rnd:Nat→Nat→Bool):∀ j,j≤g.rules.length→(g.rulesTold es rch rnd 0 (g.rules.take j)).length≤j * 12004
 | 0,_=>by simp [Gr.rulesTold]
 | j+1,hj=>by
  have ih:=Gr.Few.told h es rch rnd j (by omega)
  rw [rulesTold_snoc g es rch rnd g.rules 0 j (by omega),List.length_append]
  have h1:=ruleTold_len g es rch rnd (0+j) g.rules[j]
  have h2:=h.all j (by omega)
  omega
def ProbsAt (W:World) (v:Value) (T:List Prob):Prop:=∃ a,v=.slice a T.length T.length∧(T≠[]→∃ b tl,a=some ⟨b,0,none⟩∧Owns W b (probCells T++tl) 163)
theorem clip_ok (W:World) (base:Nat) (v:Value) (T:List Prob) (hT:T.length≤1000000) (h:W.ownsRow base 163 3 v T.length (probCells T)) :
  Calls Tryz.prog 89 #[v] W fun e W'=>(∃ u,e=.returned u∧ProbsAt W u T)∧W=W':=by
 rcases h.2 with ⟨rfl,h0⟩ | ⟨b,cap,cur,rfl,h1,h2,h3,h4,h5,h6⟩
 ·have hn:T=[]:=List.eq_nil_of_length_eq_zero h0
  subst hn
  go_enter Tryz.func89,Tryz.ntmps89
  go_wp2
  go_ret
  exact ⟨⟨_,rfl,none,rfl,fun h=>absurd rfl h⟩,rfl⟩
 ·have HF:Hid (T≠[]→∃ b' tl,(some ⟨b,0,none⟩:Option Addr)=some ⟨b',0,none⟩∧Owns W b' (probCells T++tl) 163):=fun _=>⟨b,cur.toList.drop (T.length * 3),rfl,by
   unfold Owns
   rw [← h6,List.take_append_drop]
   exact h2⟩
  unfold maxLen at h4
  obtain ⟨n,hn⟩:∃ n,T.length=n:=⟨_,rfl⟩
  rw [hn] at h3 hT
  clear h h2 h5 h6
  rw [hn]
  have HN:=hid hn
  clear hn
  go_enter Tryz.func89,Tryz.ntmps89
  go_wp2
  go_ret
  exact ⟨⟨_,rfl,_,by rw [HN.out];rfl,HF.out⟩,rfl⟩
def EmR (g:Gr) (lo:Nat) (v:Value) (w:World):Prop:=∃ eb es,v=.slice (some ⟨eb,0,none⟩) g.rules.length g.rules.length∧g.IsEmpty es∧lo≤eb∧Owns w eb (es.map .bool) 4
def ReR (g:Gr) (lo:Nat) (v:Value) (w:World):Prop :=
 ∃ B ob rb f es M,v=.slice (some ⟨rb,0,none⟩) g.rules.length g.rules.length∧g.IsEmpty es∧IsReach (g.Once es) g.rules.length M∧Mat w B ob rb g.rules.length g.rules.length f (fun i=>M.getD i [])∧lo≤rb
def CheckIs (g:Gr) (W:World) (e:Ending) (W':World):Prop :=
 ∃ u es M N,e=.returned u∧g.IsEmpty es∧IsReach (g.Once es) g.rules.length M∧IsReach g.rd0 g.rules.length N∧ProbsAt W' u (g.told es (at2 M) (at2 N))∧Below W.heap.size W W'
set_option maxHeartbeats 8000000 in
set_option maxRecDepth 20000 in
theorem check_ok (g:Gr) (hfew:g.Few) (W:World) (v0 v1 v2 v3:Value) (hG:GrAt W W.heap.size (some v0) (some v1) (some v2) (some v3) g) :
  Calls Tryz.prog 55 #[.agg #[v0,v1,v2,v3]] W (CheckIs g W):=by
 have hG':=hG
 obtain ⟨q1,q2,q3,q4,q5,q6,ra,rc,q7,q8,q9⟩:=hG'
 obtain rfl:=Option.some.inj q1
 obtain rfl:=Option.some.inj q3
 obtain rfl:=Option.some.inj q4
 obtain rfl:=Option.some.inj q7
 clear q1 q3 q4 q5 q6 q7
 have hn:=hfew.len
 have hg1:=grew_alloc W (.cells #[.string g.name,.int .i64 g.bound,.int .i64 g.states,.slice ra g.rules.length rc] 44)
 have ho1:=Owns.alloc W [.string g.name,.int .i64 g.bound,.int .i64 g.states,.slice ra g.rules.length rc] 44
 have b0:=ho1.cell_at (i:=0) rfl
 have b1:=ho1.cell_at (i:=1) rfl
 have b2:=ho1.cell_at (i:=2) rfl
 have b3:=ho1.cell_at (i:=3) rfl
 have bl:=ho1.lt
 have HE:=hid (fun u (h:GrAt u u.heap.size (some (.string g.name)) (some (.int .i64 g.bound)) (some (.int .i64 g.states)) (some (.slice ra g.rules.length rc)) g)=>empty_ok g u _ _ _ _ h)
 have HRe:=hid (fun u (h:GrAt u u.heap.size (some (.string g.name)) (some (.int .i64 g.bound)) (some (.int .i64 g.states)) (some (.slice ra g.rules.length rc)) g)=>nreach_ok g u _ _ _ _ (by omega) h)
 have HG:=hid hG
 have HG1:=hid hg1
 have HO1:=hid ho1
 have HQ9:=hid q9
 have HFEW:=hid hfew
 clear hG hg1 ho1 q9 hfew
 unfold reachN at q8 q2
 go_enter Tryz.func55,Tryz.ntmps55
 go_wp2_with fail
 generalize W.alloc (.cells #[.string g.name,.int .i64 g.bound,.int .i64 g.states,.slice ra g.rules.length rc] 44)=w1 at *
 refine wp_region_hav_lit follows (by kernel_rfl) ?_
 repeat ((first | refine HavG.skip (fun _=>rfl) ?_ | (refine HavG.val (fun _=>rfl) ?_ (fun x w hw _=>?_) ?_;rotate_left;(focus (have hc:=hw.cells;clear hw;go_simp;first | done | rfl))));simp only [Act.put,sia,scz,scs])
 refine HavG.any (fun _=>rfl) (EmR g w1.heap.size) ?_ (fun x w hw _=>?_) ?_
 ·rintro v w w' hg ⟨t,es,h1,h2,h3,h4⟩
  exact ⟨t,es,h1,h2,h3,h4.keep hg⟩
 ·have HW:=hid hw
  clear hw
  go_simp
  refine (HE.out _ ((HG.out.keep (HG1.out.trans HW.out)).mono (HG1.out.trans HW.out).size)).mono ?_
  rintro e w' ⟨eb,es,rfl,h1,h2,h3,h4⟩
  exact ⟨h4,eb,es,rfl,h1,Nat.le_trans HW.out.size h3,h2⟩
 simp only [Act.put,sia,scz,scs]
 repeat ((first | refine HavG.skip (fun _=>rfl) ?_ | (refine HavG.val (fun _=>rfl) ?_ (fun x w hw _=>?_) ?_;rotate_left;(focus (have hc:=hw.cells;clear hw;go_simp;first | done | rfl))));simp only [Act.put,sia,scz,scs])
 refine HavG.any (fun _=>rfl) (ReR g w1.heap.size) ?_ (fun x w hw _=>?_) ?_
 ·rintro v w w' hg ⟨B,ob,rb,f,es,M,h1,h2,h3,h4,h5⟩
  exact ⟨B,ob,rb,f,es,M,h1,h2,h3,h4.keep hg,h5⟩
 ·have HW:=hid hw
  clear hw
  go_simp
  refine (HRe.out _ ((HG.out.keep (HG1.out.trans HW.out)).mono (HG1.out.trans HW.out).size)).mono ?_
  rintro e w' ⟨B,ob,rb,f,es,M,rfl,h1,h2,h3,h4,h5,h6⟩
  exact ⟨h6,B,ob,rb,f,es,M,rfl,h1,h2,h3,Nat.le_trans HW.out.size h5⟩
 simp only [Act.put,sia,scz,scs]
 refine HavG.tail (by kernel_rfl) (by kernel_rfl) (fun x w hw hx=>?_)
 have hx1:=hx _ (List.mem_append_left _ (List.mem_append_right _ (List.mem_singleton.2 rfl)))
 have hx2:=hx _ (List.mem_append_right _ (List.mem_singleton.2 rfl))
 clear hx
 dsimp only at hx1 hx2
 generalize x (0+1+1+1+1)=y2 at *
 generalize x (0+1+1)=y1 at *
 obtain ⟨eb,es,rfl,he1,he2,he3⟩:=hx1
 obtain ⟨B,ob,rb,f,es',M,rfl,hr1,hr2,hr3,hr4⟩:=hx2
 obtain rfl:=he1.unique hr1
 have hWw:Grew W w:=HG1.out.trans hw
 have hwz:=hWw.size
 have hw1z:=HG1.out.size
 have hwz1:=hw.size
 have hlt0:W.heap.size < w.heap.size:=by omega
 obtain ⟨c,hcd⟩:∃ c:ChkVals,c=⟨.string g.name,.int .i64 g.bound,.int .i64 g.states,.slice ra g.rules.length rc,.slice (some ⟨eb,0,none⟩) g.rules.length g.rules.length,.slice (some ⟨rb,0,none⟩) g.rules.length g.rules.length,.slice none 0 0⟩:=⟨_,rfl⟩
 have ho2:=Owns.alloc w [.string g.name,.int .i64 g.bound,.int .i64 g.states,.slice ra g.rules.length rc,.slice (some ⟨eb,0,none⟩) g.rules.length g.rules.length,.slice (some ⟨rb,0,none⟩) g.rules.length g.rules.length,.slice none 0 0,.slice none 0 0] 156
 have hg2:=grew_alloc w (.cells #[.string g.name,.int .i64 g.bound,.int .i64 g.states,.slice ra g.rules.length rc,.slice (some ⟨eb,0,none⟩) g.rules.length g.rules.length,.slice (some ⟨rb,0,none⟩) g.rules.length g.rules.length,.slice none 0 0,.slice none 0 0] 156)
 have HW:=hid hw
 have HE3:=hid he3
 have HR3:=hid hr3
 have HO2:=hid ho2
 have HG2:=hid hg2
 have HWW:=hid hWw
 clear hw he3 hr3 ho2 hg2 hWw
 go_wp2_with fail
 generalize w.alloc (.cells #[.string g.name,.int .i64 g.bound,.int .i64 g.states,.slice ra g.rules.length rc,.slice (some ⟨eb,0,none⟩) g.rules.length g.rules.length,.slice (some ⟨rb,0,none⟩) g.rules.length g.rules.length,.slice none 0 0,.slice none 0 0] 156)=w2 at *
 have hC2:ChkAt w2 W.heap.size w.heap.size c []:=⟨hwz,_,by rw [hcd];exact HO2.out,rfl,.inl ⟨rfl,rfl⟩⟩
 have hG2:GrAt w2 W.heap.size (some c.c0) (some c.c1) (some c.c2) (some c.c3) g:=by
  rw [hcd]
  exact HG.out.keep (HWW.out.trans HG2.out)
 have hs2:=HG2.out.size
 have HRo:=hid (rounds_ok g W.heap.size w.heap.size c [] w2 (by omega) hC2 hG2 (by omega))
 clear hC2 hG2
 refine HRo.out.mono ?_
 rintro e w3 ⟨⟨v9,rfl⟩,B2,rb2,f2,N,hC3,hm3,hN,hlo2,hU⟩
 have hs3:=hU.size
 have hcb2:=HO2.out.lt
 have hWw0:Below W.heap.size W w:=HWW.out
 have hWb:Below W.heap.size W w3:=(hWw0.trans (HG2.out.mono (by omega))).trans (hU.below (by omega) (show W.heap.size≤w2.heap.size by omega))
 have hM3:ChkM w3 W.heap.size w.heap.size (c.withRound (.slice (some ⟨rb2,0,none⟩) g.rules.length g.rules.length)) g es M N:=by
  have hk:∀ b cs T,Owns w b cs T→Owns w3 b cs T:=fun b cs T ho=>(ho.keep HG2.out).upd hU (by have:=ho.lt;omega)
  rw [hcd]
  exact ⟨HG.out.keep hWb,⟨eb,rfl,hk _ _ _ HE3.out⟩,he1.sound.1,⟨B,rb,f,rfl,HR3.out.matR.of (fun b cs T _ ho=>hk b cs T ho)⟩,⟨B2,rb2,f2,rfl,hm3⟩⟩
 have hbx:=((HO1.out.keep HW.out).keep HG2.out).upd hU (by omega)
 generalize c.withRound (.slice (some ⟨rb2,0,none⟩) g.rules.length g.rules.length)=c3 at *
 have HC3:=hid hC3
 have HM3:=hid hM3
 have HN:=hid hN
 have HWB:=hid hWb
 have HBX:=hid hbx
 have HHE:=hid he1
 have HHM:=hid hr2
 have b3':=hbx.cell_at (i:=3) rfl
 clear hcd hm3 hU hC3 hM3 hN hWb hbx HE3 HR3 HO2 HG2 HW HG1 HO1 he1 hr1 hr2 b0 b1 b2 b3 bl x HRo
 go_wp2_with fail
 clear b3'
 go_loopw [17] (fun v wr=>∃ (j:Nat),v=.int .i64 j∧j≤g.rules.length∧Hid (ChkAt wr W.heap.size w.heap.size c3 (g.rulesTold es (at2 M) (at2 N) 0 (g.rules.take j)))∧Hid (Told W.heap.size w.heap.size w3 wr)) (fun v _=>g.rules.length - (intOf v).toNat)
 case atStart=>exact ⟨0,rfl,by omega,by simpa [Gr.rulesTold,Hid] using HC3.out,Told.refl _ _ _⟩
 case round =>
  obtain ⟨j,rfl,hj,hC,hT⟩:=hrel
  have hszr:=hT.out.low.size
  have hM:=HM3.out.told hT.out HC3.out
  by_cases hlt:j < g.rules.length
  ·have hle:=HFEW.out.told es (at2 M) (at2 N) j (by omega)
   have ha:=HFEW.out.all j hlt
   have HRu:=hid (rule_ok g es HHE.out M N W.heap.size w.heap.size c3 _ wr (by omega) hC.out hM j hlt (by omega))
   clear hM hle ha
   go_wp2_with fail
   refine HRu.out.mono ?_
   rintro e w5 ⟨⟨v5,rfl⟩,hC5,hT5⟩
   have hC6:Hid (ChkAt w5 W.heap.size w.heap.size c3 (g.rulesTold es (at2 M) (at2 N) 0 (g.rules.take (j+1)))):=by
    unfold Hid
    rw [rulesTold_snoc g es (at2 M) (at2 N) g.rules 0 j hlt,Nat.zero_add]
    exact hC5
   have HT6:=hid (hT.out.trans hT5)
   clear hC5 hT5
   go_wp2_with fail
   exact ⟨⟨j+1,by go_num,by omega,hC6,HT6.out⟩,by simp [intOf];omega⟩
  ·have hjn:j=g.rules.length:=by omega
   subst hjn
   have hle:=HFEW.out.told es (at2 M) (at2 N) g.rules.length (by omega)
   rw [List.take_length] at hC hle
   have hbw:Below W.heap.size W wr:=HWB.out.trans hT.out.low
   have hbr:=hT.out.owns HBX.out (by omega) (by decide)
   have c0:=hbr.cell_at (i:=0) rfl
   have c1:=hbr.cell_at (i:=1) rfl
   have c2:=hbr.cell_at (i:=2) rfl
   have c3':=hbr.cell_at (i:=3) rfl
   have HSt:=hid (start_ok g wr (.string g.name) (.int .i64 g.bound) (.int .i64 g.states) (.slice ra g.rules.length rc) ((HG.out.keep hbw).mono hbw.size))
   have HBW:=hid hbw
   generalize hTL:g.rulesTold es (at2 M) (at2 N) 0 g.rules=TL at *
   have HTL:=hid hTL
   clear hM hbw hbr hTL
   go_wp2_with fail
   refine HSt.out.mono ?_
   rintro e w7 ⟨rfl,hg7⟩
   have hC7:=hC.out.grew hg7
   have hB7:=HBW.out.trans (hg7.mono (show W.heap.size≤wr.heap.size by omega))
   by_cases hst:g.start < 0
   ·have HT:=hid (tell_ok W.heap.size w.heap.size c3 TL w7 hC7 (by omega) 8 (-1) ⟨#[]⟩)
    have HB7:=hid hB7
    have HC7:=hid hC7
    clear hC7 hB7 hg7
    go_wp2_with fail
    refine HT.out.mono ?_
    rintro e w8 ⟨⟨v8,rfl⟩,hC8,hT8⟩
    obtain ⟨_,v,hco,hcr⟩:=hC8
    have lc:=hco.lt
    have pc:w8.cell? ⟨w.heap.size,7,none⟩=some v:=hco.cell_at (i:=7) rfl
    have HCl:=hid (clip_ok w8 W.heap.size v _ (by simp;omega) hcr)
    have HT8:=hid (HB7.out.trans hT8.low)
    clear hco hcr hT8
    go_wp2_with fail
    refine HCl.out.mono ?_
    rintro e w9 ⟨⟨u,rfl,hP⟩,rfl⟩
    go_wp2_with fail
    go_ret
    refine ⟨u,es,M,N,rfl,HHE.out,HHM.out,HN.out,?_,HT8.out⟩
    unfold Gr.told
    rw [if_pos hst,HTL.out]
    exact hP
   ·have HB7:=hid hB7
    have hst':decide (g.start < 0)=false:=decide_eq_false hst
    obtain ⟨_,v,hco,hcr⟩:=hC7
    have lc:=hco.lt
    have pc:w7.cell? ⟨w.heap.size,7,none⟩=some v:=hco.cell_at (i:=7) rfl
    have HCl:=hid (clip_ok w7 W.heap.size v _ (by omega) hcr)
    have HST:=hid hst
    clear hco hcr hB7 hg7
    go_wp2_with fail
    refine HCl.out.mono ?_
    rintro e w9 ⟨⟨u,rfl,hP⟩,rfl⟩
    go_wp2_with fail
    go_ret
    refine ⟨u,es,M,N,rfl,HHE.out,HHM.out,HN.out,?_,HB7.out⟩
    unfold Gr.told
    rw [if_neg (by have:=HST.out;omega),HTL.out,List.append_nil]
    exact hP
def FineIs (g:Gr) (W:World) (e:Ending) (W':World):Prop :=
 ∃ es M N,e=.returned (.bool (g.told es (at2 M) (at2 N)).isEmpty)∧g.IsEmpty es∧IsReach (g.Once es) g.rules.length M∧IsReach g.rd0 g.rules.length N∧Below W.heap.size W W'
set_option maxRecDepth 20000 in
theorem cfine_ok (g:Gr) (hfew:g.Few) (W:World) (v0 v1 v2 v3:Value) (hG:GrAt W W.heap.size (some v0) (some v1) (some v2) (some v3) g) :
  Calls Tryz.prog 32 #[.agg #[v0,v1,v2,v3]] W (FineIs g W):=by
 have hg1:=grew_alloc W (.cells #[v0,v1,v2,v3] 44)
 have HC:=hid (check_ok g hfew _ v0 v1 v2 v3 ((hG.keep hg1).mono hg1.size))
 obtain ⟨q1,q2,q3,q4,q5,q6,ra,rc,q7,q8,q9⟩:=hG
 obtain rfl:=Option.some.inj q1
 obtain rfl:=Option.some.inj q3
 obtain rfl:=Option.some.inj q4
 obtain rfl:=Option.some.inj q7
 have HG1:=hid hg1
 clear hg1 q1 q2 q3 q4 q5 q6 q7 q8 q9 hfew
 go_enter Tryz.func32,Tryz.ntmps32
 go_wp2_with fail
 refine HC.out.mono ?_
 rintro e w ⟨u,es,M,N,rfl,h1,h2,h3,⟨a,rfl,-⟩,h5⟩
 have HT:Hid (∀ T:List Prob,T.isEmpty=(T.length == 0)):=fun T=>by cases T<;>rfl
 cases hT:(g.told es (at2 M) (at2 N)).length with
 | zero =>
  go_wp2_with fail
  go_ret
  exact ⟨es,M,N,ret_bool (by rw [HT.out,hT];rfl),h1,h2,h3,HG1.out.trans h5⟩
 | succ k =>
  have hk:((k:Int)+1 == 0)=false:=beq_eq_false_iff_ne.2 (by omega)
  go_wp2_with fail
  go_ret
  exact ⟨es,M,N,ret_bool (by rw [HT.out,hT];first | rfl | simp [hk]),h1,h2,h3,HG1.out.trans h5⟩
end Go.Proofs.YtppjmdanckdobaaGreatDoor

/- The chapter's example of samples: its grammar,that nothing is wrong with it,its book,what that derives. Plain. -/
namespace Go.Proofs.YtppjmdanckdobaaGreatDoor
open Go.RowKit
open Lib (hid)
def s27 (c:UInt8):ByteArray:={ data:=#[c] }
def t27 (c:UInt8):Nd:=.mk 6 { data:=#[c] } { data:=#[] } [] []
def r27 (c:UInt8):Nd:=.mk 5 { data:=#[c] } { data:=#[] } [] []
def x27 (c:UInt8):Nd:=.mk 8 { data:=#[] } { data:=#[c] } [] []
def n27 (k:Int) (subs:List Nd):Nd:=.mk k { data:=#[] } { data:=#[] } [] subs
def a27:Nd:=n27 0 [n27 1 [t27 65,n27 2 [r27 98]],t27 66]
def b27:Nd:=n27 1 [t27 65,r27 97]
def g27:Gr:=⟨{ data:=#[71] },1,9,[⟨{ data:=#[97] },0,a27,0,0,0⟩,⟨{ data:=#[98] },0,b27,0,0,0⟩,⟨{ data:=#[65] },1,x27 120,0,0,0⟩,⟨{ data:=#[66] },1,x27 121,0,0,0⟩]⟩
theorem g27_empty {es:List Bool} (h:g27.IsEmpty es):es=[false,false,false,false]:=by
 refine h.unique ⟨Gr.Sound.start g27,fun i hi hm=>?_⟩
 have hi':i < 4:=hi
 match i,hi' with
 | 0,_ =>
  have hf:g27.may [false,false,false,false] (Rl.token ⟨{ data:=#[97] },0,a27,0,0,0⟩) a27=false:=by kernel_rfl
  exact absurd (hf.symm.trans hm) (by decide)
 | 1,_ =>
  have hf:g27.may [false,false,false,false] (Rl.token ⟨{ data:=#[98] },0,b27,0,0,0⟩) b27=false:=by kernel_rfl
  exact absurd (hf.symm.trans hm) (by decide)
 | 2,_ =>
  have hf:g27.may [false,false,false,false] (Rl.token ⟨{ data:=#[65] },1,x27 120,0,0,0⟩) (x27 120)=false:=by kernel_rfl
  exact absurd (hf.symm.trans hm) (by decide)
 | 3,_ =>
  have hf:g27.may [false,false,false,false] (Rl.token ⟨{ data:=#[66] },1,x27 121,0,0,0⟩) (x27 121)=false:=by kernel_rfl
  exact absurd (hf.symm.trans hm) (by decide)
theorem no_tc27 {O:Nat→Nat→Prop} (hn:∀ i k,¬ O i k) {n:Nat} {M:List (List Bool)} (h:IsReach O n M) (i k:Nat):at2 M i k=false:=by
 cases hh:at2 M i k
 ·rfl
 ·have:=(h.tc _ _).1 hh
  cases this with
  | one h=>exact absurd h (hn _ _)
  | more h _=>exact absurd h (hn _ _)
theorem g27_once (i k:Nat):¬ g27.Once [false,false,false,false] i k:=by
 unfold Gr.Once
 have hM:g27.onceM [false,false,false,false]=List.replicate 4 [false,false,false,false]:=by kernel_rfl
 rw [hM]
 unfold at2
 rcases i with _ | _ | _ | _ | i<;>rcases k with _ | _ | _ | _ | k<;>simp [List.replicate]
theorem g27_rd0 (i k:Nat):¬ g27.rd0 i k:=by
 rintro ⟨hi,hk,h,_,m,hm,h3,_⟩
 have hi':i < 4:=hi
 have hall:∀ c,(x27 c).all=[x27 c]:=fun c=>by kernel_rfl
 match i,hi' with
 | 0,_=>cases h
 | 1,_=>cases h
 | 2,_ =>
  replace hm:m∈[x27 120]:=Eq.mp (congrArg (m∈·) (hall _)) hm
  obtain rfl:=List.mem_singleton.1 hm
  exact absurd h3 (by decide)
 | 3,_ =>
  replace hm:m∈[x27 121]:=Eq.mp (congrArg (m∈·) (hall _)) hm
  obtain rfl:=List.mem_singleton.1 hm
  exact absurd h3 (by decide)
theorem g27_told {es:List Bool} {M N:List (List Bool)} (he:g27.IsEmpty es) (hM:IsReach (g27.Once es) g27.rules.length M) (hN:IsReach g27.rd0 g27.rules.length N):g27.told es (at2 M) (at2 N)=[]:=by
 obtain rfl:=g27_empty he
 have h1:at2 M=fun _ _=>false:=by funext i k;exact no_tc27 g27_once hM i k
 have h2:at2 N=fun _ _=>false:=by funext i k;exact no_tc27 g27_rd0 hN i k
 rw [h1,h2]
 have:(g27.told [false,false,false,false] (fun _ _=>false) (fun _ _=>false)).isEmpty=true:=by kernel_rfl
 exact List.isEmpty_iff.1 this
def goodB (token:Bool) (n:Nd):Bool:=decide ((n.alld 1).length≤2048)&&(n.alld 1).all fun p=>decide (p.1≤64)&&plainN token p.2
theorem good_of {token:Bool} {n:Nd} (h:goodB token n=true):GoodN token n:=by
 unfold goodB at h
 rw [Bool.and_eq_true,decide_eq_true_eq,List.all_eq_true] at h
 refine ⟨h.1,fun p hp=>?_⟩
 have:=h.2 p hp
 rw [Bool.and_eq_true,decide_eq_true_eq] at this
 exact this
theorem g27_sound:soundP g27:=by
 have hk:∀ (s:ByteArray),Lib.containsS (keptL.take 4) s=false→¬ keptP s:=fun s h e=>by
  unfold keptP at e
  rw [h] at e
  cases e
 refine ⟨.inr (good_of (by kernel_rfl)),by decide,by decide,fun i hi=>?_⟩
 have hi':i < 4:=hi
 match i,hi' with
 | 0,_=>exact ⟨show (0:Int)≤3 by decide,⟨good_of (by kernel_rfl),hk _ (by kernel_rfl)⟩,good_of (by kernel_rfl)⟩
 | 1,_=>exact ⟨show (0:Int)≤3 by decide,⟨good_of (by kernel_rfl),hk _ (by kernel_rfl)⟩,good_of (by kernel_rfl)⟩
 | 2,_=>exact ⟨show (1:Int)≤3 by decide,⟨good_of (by kernel_rfl),hk _ (by kernel_rfl)⟩,good_of (by kernel_rfl)⟩
 | 3,_=>exact ⟨show (1:Int)≤3 by decide,⟨good_of (by kernel_rfl),hk _ (by kernel_rfl)⟩,good_of (by kernel_rfl)⟩
theorem g27_few:g27.Few:=by
 refine ⟨by decide,fun i hi=>?_⟩
 have hi':i < 4:=hi
 match i,hi' with
 | 0,_=>exact (by kernel_rfl:decide (a27.all.length≤4000)=true) |> of_decide_eq_true
 | 1,_=>exact (by kernel_rfl:decide (b27.all.length≤4000)=true) |> of_decide_eq_true
 | 2,_=>exact (by kernel_rfl:decide ((x27 120).all.length≤4000)=true) |> of_decide_eq_true
 | 3,_=>exact (by kernel_rfl:decide ((x27 121).all.length≤4000)=true) |> of_decide_eq_true
theorem g27_tot:∀ i (h:i < g27.rules.length),g27.rules[i].body.total≤3000:=fun i hi=>by
 have hi':i < 4:=hi
 match i,hi' with
 | 0,_=>exact (by kernel_rfl:decide (a27.total≤3000)=true) |> of_decide_eq_true
 | 1,_=>exact (by kernel_rfl:decide (b27.total≤3000)=true) |> of_decide_eq_true
 | 2,_=>exact (by kernel_rfl:decide ((x27 120).total≤3000)=true) |> of_decide_eq_true
 | 3,_=>exact (by kernel_rfl:decide ((x27 121).total≤3000)=true) |> of_decide_eq_true
def B27:Bk:=⟨[(s27 97,0),(s27 98,1)],[(s27 65,0),(s27 66,1)],[0,1],[a27,b27],[⟨1,[0]⟩,⟨2,[0,0]⟩]⟩
theorem b27_of:bookOf g27=B27:=by kernel_rfl
def tk27 (x:Int) (t:Nat):Bool:=x == (t:Int) || x == -2
def aB:List Int→Bool
 | []=>false
 | [x]=>tk27 x 0 || tk27 x 1
 | x::y::r=>tk27 x 0&&tk27 y 0&&aB r
theorem tok27 {w:List Int} {i t:Nat}:tokM w i t↔∃ x,w[i]? = some x∧tk27 x t=true:=by
 unfold tokM tk27
 constructor
 ·rintro ⟨x,h1,h2⟩
  exact ⟨x,h1,by simpa using h2⟩
 ·rintro ⟨x,h1,h2⟩
  exact ⟨x,h1,by simpa using h2⟩
theorem inv_t {w:List Int} {c:UInt8} {i j:Nat} (h:Der B27 w (t27 c) i j):tokM w i (B27.tok (s27 c))∧j=i+1:=by
 unfold t27 at h
 cases h with
 | tok h=>exact ⟨h,rfl⟩
 | other hk=>omega
theorem inv_r {w:List Int} {c:UInt8} {i j:Nat} (h:Der B27 w (r27 c) i j):∃ n,B27.bodies[B27.rule (s27 c)]? = some n∧Der B27 w n i j:=by
 unfold r27 at h
 cases h with
 | ref h hd=>exact ⟨_,h,hd⟩
 | other hk=>omega
theorem inv_b {w:List Int} {i j:Nat} (h:Der B27 w b27 i j):tokM w i 0∧Der B27 w a27 (i+1) j:=by
 unfold b27 n27 at h
 cases h with
 | seq h =>
  cases h with
  | cons h1 h2 =>
   obtain ⟨h3,rfl⟩:=inv_t h1
   cases h2 with
   | cons h4 h5 =>
    cases h5
    obtain ⟨n,hn,hd⟩:=inv_r h4
    have:n=a27:=(Option.some.inj (hn.symm.trans (show B27.bodies[B27.rule (s27 97)]? = some a27 by kernel_rfl)))
    subst this
    exact ⟨h3,hd⟩
 | other hk=>omega
theorem inv_a {w:List Int} {i j:Nat} (h:Der B27 w a27 i j):(tokM w i 0∧(j=i+1∨Der B27 w b27 (i+1) j))∨(tokM w i 1∧j=i+1):=by
 unfold a27 n27 at h
 cases h with
 | alt hx h =>
  rcases List.mem_cons.1 hx with rfl | hx
  ·left
   cases h with
   | seq h =>
    cases h with
    | cons h1 h2 =>
     obtain ⟨h3,rfl⟩:=inv_t h1
     cases h2 with
     | cons h4 h5 =>
      cases h5
      refine ⟨h3,?_⟩
      cases h4 with
      | opt0=>exact .inl rfl
      | opt h =>
       obtain ⟨n,hn,hd⟩:=inv_r h
       have:n=b27:=(Option.some.inj (hn.symm.trans (show B27.bodies[B27.rule (s27 98)]? = some b27 by kernel_rfl)))
       subst this
       exact .inr hd
      | other hk=>omega
   | other hk=>omega
  ·obtain rfl:=List.mem_singleton.1 hx
   right
   exact inv_t h
 | other hk=>omega
theorem mk_b {w:List Int} {i j:Nat} (h1:tokM w i 0) (h2:Der B27 w a27 (i+1) j):Der B27 w b27 i j :=
 .seq (.cons (.tok (show tokM w i (B27.tok (s27 65)) from h1)) (.cons (.ref (show B27.bodies[B27.rule (s27 97)]? = some a27 by kernel_rfl) h2) .nil))
theorem mk_a1 {w:List Int} {i j:Nat} (h1:tokM w i 0) (h2:Der B27 w b27 (i+1) j):Der B27 w a27 i j :=
 .alt (x:=n27 1 [t27 65,n27 2 [r27 98]]) (by simp) (.seq (.cons (.tok (show tokM w i (B27.tok (s27 65)) from h1)) (.cons (.opt (.ref (show B27.bodies[B27.rule (s27 98)]? = some b27 by kernel_rfl) h2)) .nil)))
theorem mk_a0 {w:List Int} {i:Nat} (h1:tokM w i 0):Der B27 w a27 i (i+1) :=
 .alt (x:=n27 1 [t27 65,n27 2 [r27 98]]) (by simp) (.seq (.cons (.tok (show tokM w i (B27.tok (s27 65)) from h1)) (.cons .opt0 .nil)))
theorem mk_a2 {w:List Int} {i:Nat} (h1:tokM w i 1):Der B27 w a27 i (i+1) :=
 .alt (x:=t27 66) (by simp) (.tok (show tokM w i (B27.tok (s27 66)) from h1))
theorem der_aB {w:List Int}:∀ (l:List Int) (i:Nat),w.drop i=l→i≤w.length→(Der B27 w a27 i w.length↔aB l=true)
 | [],i,hd,hi=>by
  have hl:w.length≤i:=List.drop_eq_nil_iff.1 hd
  have no:∀ t,¬ tokM w i t:=fun t ⟨x,hx,_⟩=>by
   have:=(List.getElem?_eq_some_iff.1 hx).1
   omega
  refine ⟨fun h=>?_,fun h=>by cases h⟩
  rcases inv_a h with ⟨h1,-⟩ | ⟨h1,-⟩
  ·exact absurd h1 (no _)
  ·exact absurd h1 (no _)
 | [x],i,hd,hi=>by
  have hlen:w.length=i+1:=by have:=congrArg List.length hd;rw [List.length_drop,List.length_singleton] at this;omega
  have hx:w[i]? = some x:=by rw [← Nat.add_zero i,← List.getElem?_drop,hd];rfl
  have ht:∀ t,tokM w i t↔tk27 x t=true:=fun t=>by
   rw [tok27]
   exact ⟨fun ⟨y,h1,h2⟩=>by rw [hx] at h1;cases h1;exact h2,fun h=>⟨x,hx,h⟩⟩
  unfold aB
  rw [Bool.or_eq_true]
  constructor
  ·intro h
   rcases inv_a h with ⟨h1,-⟩ | ⟨h1,-⟩
   ·exact .inl ((ht 0).1 h1)
   ·exact .inr ((ht 1).1 h1)
  ·rintro (h | h)
   ·rw [hlen];exact mk_a0 ((ht 0).2 h)
   ·rw [hlen];exact mk_a2 ((ht 1).2 h)
 | x::y::r,i,hd,hi=>by
  have hlen:w.length=i+2+r.length:=by have:=congrArg List.length hd;rw [List.length_drop,List.length_cons,List.length_cons] at this;omega
  have hx:w[i]? = some x:=by rw [← Nat.add_zero i,← List.getElem?_drop,hd];rfl
  have hy:w[i+1]? = some y:=by rw [← List.getElem?_drop,hd];rfl
  have hr:w.drop (i+1+1)=r:=by
   have:(w.drop i).drop 2=r:=by rw [hd];rfl
   rw [List.drop_drop] at this
   exact this
  have ht:∀ t,tokM w i t↔tk27 x t=true:=fun t=>by
   rw [tok27]
   exact ⟨fun ⟨y,h1,h2⟩=>by rw [hx] at h1;cases h1;exact h2,fun h=>⟨x,hx,h⟩⟩
  have hu:∀ t,tokM w (i+1) t↔tk27 y t=true:=fun t=>by
   rw [tok27]
   exact ⟨fun ⟨z,h1,h2⟩=>by rw [hy] at h1;cases h1;exact h2,fun h=>⟨y,hy,h⟩⟩
  have ih:=der_aB r (i+1+1) hr (by omega)
  unfold aB
  rw [Bool.and_eq_true,Bool.and_eq_true,← ih]
  constructor
  ·intro h
   rcases inv_a h with ⟨h1,h2 | h2⟩ | ⟨-,h2⟩
   ·omega
   ·obtain ⟨h3,h4⟩:=inv_b h2
    exact ⟨⟨(ht 0).1 h1,(hu 0).1 h3⟩,h4⟩
   ·omega
  ·rintro ⟨⟨h1,h2⟩,h3⟩
   exact mk_a1 ((ht 0).2 h1) (mk_b ((hu 0).2 h2) h3)
theorem d0_27 (w:List Int):B27.D 0 w↔aB w=true:=by
 unfold Bk.D
 rw [← der_aB w 0 rfl (by omega)]
 exact ⟨fun ⟨n,hn,hd⟩=>by cases Option.some.inj hn;exact hd,fun h=>⟨_,rfl,h⟩⟩
end Go.Proofs.YtppjmdanckdobaaGreatDoor
