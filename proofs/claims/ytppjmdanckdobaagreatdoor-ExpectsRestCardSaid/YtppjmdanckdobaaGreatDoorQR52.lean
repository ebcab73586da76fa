/- ExpectsRest's tied card: it answers true whatever comes in, which reads as it did; the variables that the row lists hold what the program's text lays. -/
import Derived.Test.YtppjmdanckdobaaGreatDoorRows
import Derived.Test.YtppjmdanckdobaaGreatDoorCards
import Derived.Test.YtppjmdanckdobaaGreatDoorTie
import Derived.Lib.LaidU8
import Derived.PinnedBridge
import Derived.Shelf.Vars
import Derived.WalkKit
import Derived.ProofKit
import Derived.OpenShut
import Derived.Carry
import Derived.ChangeMaps5
import Derived.Deep.DeepHandedRow
import Derived.Lay
import Derived.LaidOnce
import Derived.SevenTiedAt
import Derived.Test.YtppjmdanckdobaaGreatDoorQR50
import Derived.Test.YtppjmdanckdobaaGreatDoorQR51
namespace Go.Proofs.YtppjmdanckdobaaGreatDoor
open Go.ChangeShapes Go.WideShapes Go.ChangeAt Go.RowKit
theorem swown:ownKnob Tryz.prog.godebug=none:=by kernel_rfl
theorem swlaidOut:laidOutB Tryz.prog=true:=by kernel_rfl
theorem xu8_wf {x:Int} (h:(Lit.int .u8 x).wf=true):0≤x∧x≤255:=by
 simpa [Lit.wf,IntKind.min,IntKind.max,IntKind.signed,IntKind.bits] using h
set_option maxRecDepth 100000 in
theorem sw_tabs {W:World} (h:laidMetH Tryz.prog Rows.expectsRestRow.laid W):Lib.Utf8Tabs 1 2 W:=by
 rw [MakeChecks.laidMetH_plain Tryz.prog Rows.expectsRestRow.laid W (by kernel_rfl)] at h
 exact utf8Tabs_of_reads (ρ:=Tryz.lays260_ren) { Tryz.lays260 with } ⟨by kernel_rfl,by kernel_rfl,by kernel_rfl,by kernel_rfl,by kernel_rfl,by kernel_rfl,by kernel_rfl⟩
  (Pinned.utf8First_eq▸Lib.laidMet.reads h (by simp [Rows.expectsRestRow,Rows.laid_unicode_utf8_first])) ((show Rows.laid_unicode_utf8_acceptRanges=Lib.acceptData by kernel_rfl)▸Lib.laidMet.reads h (by simp [Rows.expectsRestRow]))
set_option maxRecDepth 20000 in
theorem sw_contract (H:Type) (enc:TypeId × Value→H) (W:World) (base:Nat) (args:Array Value) (ds gs:List (DataW H)) (before:List MemPlace)
  (hval:∀ (j:Nat) t v,Tryz.f4.params[j]? = some t→args[j]? = some v→Value.okWide Tryz.prog W .any base t v)
  (hW:DataW.Whole enc Tryz.prog Tryz.f4.params.toList Rows.expectsRestSpec.vars false W args.toList ds gs before)
  (hL:(DataW.weightsEach Tryz.prog (Tryz.f4.params.toList++(OpenSpec.ofChange Rows.expectsRestSpec).bare.plain.varTypes Tryz.prog) (ds++gs)).all (·≤reachBytes)=true)
  (hT:laidMetH Tryz.prog Rows.expectsRestRow.laid W) :
  Calls Tryz.prog 4 args W fun e W'=>∃ v,e=.returned v∧Rows.expectsRestSpec.post enc Tryz.prog Tryz.f4 false true false false W args v W':=by
 have hW':=hW
 obtain ⟨p,q,hA0,hV,rfl,hfz,hnd⟩:=hW
 have hA:DataW.TrodAll enc Tryz.prog W 0 (fun _=>true) true Tryz.f4.params.toList args.toList ds p:=hA0
 rw [Tryz.params4] at hA hval hL
 obtain ⟨v0,v1,v2,d0,d1,d2,p0,p1,p2,rfl,rfl,rfl,h0,h1,h2⟩:=trodAll_three hA
 obtain ⟨rfl,rfl⟩:=trodVars_none hV
 have hL':∀ i t d,(#[44,24,5]:Array TypeId).toList[i]? = some t→([d0,d1,d2]:List _)[i]? = some d→Light Tryz.prog t d:=fun i t d ht hd=>by
  simp only [List.all_eq_true,decide_eq_true_eq] at hL
  exact light_each ((#[44,24,5]:Array TypeId).toList++(OpenSpec.ofChange Rows.expectsRestSpec).bare.plain.varTypes Tryz.prog) ([d0,d1,d2]++[]) hL i t d (by rw [List.getElem?_append_left (by have:=(List.getElem?_eq_some_iff.1 ht).1;exact this)];exact ht) (by rw [List.append_nil];exact hd)
 have h0k:=h0
 have h1k:=h1
 have h2k:=h2
 obtain ⟨z0,z1,z2,z3,g,rfl,hG⟩:=gr_open (hval 0 44 v0 rfl rfl) h0 (hL' 0 _ _ rfl rfl)
 obtain ⟨x0,x1,x2,ya,yc,l,rfl,-,hi,-,-,-⟩:=ask27_open (hval 1 24 v1 rfl rfl) h1 (hL' 1 _ _ rfl rfl)
 obtain ⟨x,e1,-,-,wx⟩:=open_int Tryz.underlying5 (hval 2 5 v2 rfl rfl) h2
 subst e1
 have hx:0≤x∧x≤255:=xu8_wf wx
 obtain ⟨c,rfl⟩:=Int.eq_ofNat_of_zero_le hx.1
 have hc:c≤255:=by omega
 clear hA0
 simp only [List.append_nil] at hW'
 refine (rest28_ok g x0 x1 x2 ya yc l c hc W (sw_tabs hT) z0 z1 z2 z3 hG hi).mono fun e W' ⟨he,hb⟩=>?_
 subst he
 have hlt:=hW'.lt
 refine ⟨_,rfl,post_below hb hW' (fun _ _ _=>trodAll_cons_mk (shut_bool Tryz.underlying4 _) trodAll_mk0) (fun sp hsp=>?_) (fun _=>rfl) (ok_one (by kernel_rfl) rfl (okWide_bool_mk Tryz.underlying4 _))⟩
 have h3:=trodAll_mk3 (WideElems.Trod_stays swlaidOut (by kernel_rfl) (of_decide_eq_true (by kernel_rfl)) h0k (fun y hy=>hb.same (hlt y (by simp [hy]))) (fun y hy=>hsp y (by simp [hy]))) (WideElems.Trod_stays swlaidOut (by kernel_rfl) (of_decide_eq_true (by kernel_rfl)) h1k (fun y hy=>hb.same (hlt y (by simp [hy]))) (fun y hy=>hsp y (by simp [hy]))) (WideElems.Trod_stays swlaidOut (by kernel_rfl) (of_decide_eq_true (by kernel_rfl)) h2k (fun y hy=>hb.same (hlt y (by simp [hy]))) (fun y hy=>hsp y (by simp [hy])))
 first
  | exact h3
  | (simp only [List.append_nil,List.append_assoc] at h3 ⊢;exact h3)
  | simpa using h3
theorem sw_lays (os:Os) (args:Array Value):laidMet Tryz.prog Rows.expectsRestRow.laid ((World.laidAll Tryz.prog os Rows.expectsRestRow.laid).forCall (fun _ _=>0) ⟨#[],args,[]⟩).memory :=
 laidMet_laidAll _ (by kernel_rfl) (by kernel_rfl)
theorem sw_reads (os:Os) {H:Type} (enc:TypeId × Value→H):∃ places,DataW.whole enc Tryz.prog ((World.laidAll Tryz.prog os Rows.expectsRestRow.laid).forCall (fun _ _=>0) ⟨#[],#[.agg #[.string .empty,.int .i64 0,.int .i64 0,.slice none 0 0],.agg #[.int .i64 0,.int .i64 0,.int .i64 0,.slice none 0 0],.int .u8 0],[]⟩).memory Tryz.f4.params.toList Rows.expectsRestSpec.vars false (#[.agg #[.string .empty,.int .i64 0,.int .i64 0,.slice none 0 0],.agg #[.int .i64 0,.int .i64 0,.int .i64 0,.slice none 0 0],.int .u8 0]:Array Value).toList 8=some ([.agg [.lit (.string []),.agg [.lit (.int .i64 0),.lit (.int .i64 0)],.nil],.agg [.lit (.int .i64 0),.lit (.int .i64 0),.lit (.int .i64 0),.nil],.lit (.int .u8 0)],[],places) :=
 ⟨[],by kernel_rfl⟩
set_option maxRecDepth 100000 in
theorem sw_lifted (os:Os) (started:os.Started) (H:Type) (enc:TypeId × Value→H) (F:Stop.Interp) :
  ReturnsInHanded {} Tryz.checked os 4 .any ((OpenSpec.ofChange Rows.expectsRestSpec).preRow enc Tryz.prog Tryz.f4 Rows.expectsRestRow.domain false Rows.expectsRestRow.laid) (((OpenSpec.ofChange Rows.expectsRestSpec).at F).post enc Tryz.prog Tryz.f4 false true false false):=by
 obtain ⟨places,hx⟩:=sw_reads os enc
 have hok:Input.okWideB Tryz.prog ((World.laidAll Tryz.prog os Rows.expectsRestRow.laid).forCall (fun _ _=>0) ⟨#[],#[.agg #[.string .empty,.int .i64 0,.int .i64 0,.slice none 0 0],.agg #[.int .i64 0,.int .i64 0,.int .i64 0,.slice none 0 0],.int .u8 0],[]⟩) 4 ⟨#[],#[.agg #[.string .empty,.int .i64 0,.int .i64 0,.slice none 0 0],.agg #[.int .i64 0,.int .i64 0,.int .i64 0,.slice none 0 0],.int .u8 0],[]⟩=true:=by kernel_rfl
 refine returnsInHanded_of_row (C:=Tryz.checked) (s:=OpenSpec.ofChange Rows.expectsRestSpec) swown started (by kernel_rfl) Tryz.func4
  ⟨World.laidAll Tryz.prog os Rows.expectsRestRow.laid,fun _ _=>0,⟨#[],#[.agg #[.string .empty,.int .i64 0,.int .i64 0,.slice none 0 0],.agg #[.int .i64 0,.int .i64 0,.int .i64 0,.slice none 0 0],.int .u8 0],[]⟩,World.laidAll_os _ _ _,World.shaped_of_ZipB (by kernel_rfl) (by kernel_rfl),(Input.okWide_of_okWideB (base:=0) hok).1,(Input.okWide_of_okWideB hok).2,
   OpenSpec.preRow_of_cond 8 hx (by kernel_rfl) (fun k hk=>by cases hk) (by kernel_rfl) (sw_lays os _),by
    simp only [Assume.holds]
    exact ⟨by simp,by simp,fun _=>Modest.zero,by simp,by simp⟩⟩ ?_
 intro W base args ds gs before hval hW _ _ hw hT _ _
 exact sw_contract H enc W base args ds gs before hval hW hw hT
theorem sw_row:Rows.ExpectsRestSaid :=
 OpenClaim.holds_of_cond 4 Tryz.f4 rfl rfl rfl rfl rfl rfl rfl ⟨rfl,rfl,rfl,rfl,rfl⟩ rfl rfl rfl rfl rfl (by kernel_rfl) Tryz.func4 (by kernel_rfl)
  (of_decide_eq_true (by kernel_rfl)) (by unfold Func.isWrapper;first | (rw [if_pos (by decide +kernel)];kernel_rfl) | (rw [if_neg (by decide +kernel)];exact ⟨rfl,rfl⟩))
  (fun os started H enc _ F=>by rw [OpenClaim.pre_eq_preRow];exact sw_lifted os started H enc F)
theorem sw_plain (f:FuncId) (fn:Func) (hf:Tryz.pinned.checked.prog.funcNamed "harbinger/harbingerlaw28.ExpectsRest" = some f) (hfn:Tryz.pinned.checked.prog.funcs[f]? = some fn) :
  false=Tryz.pinned.checked.prog.looks []∧∀ (j:Nat) t,fn.params[j]? = some t→Tryz.pinned.checked.prog.wantsStandIn t=false:=by
 obtain rfl:f=4:=Option.some.inj ((show Tryz.prog.funcNamed "harbinger/harbingerlaw28.ExpectsRest" = some 4 by kernel_rfl).symm.trans hf) |>.symm
 obtain rfl:fn=Tryz.f4:=(Option.some.inj (Tryz.func4.symm.trans hfn)).symm
 refine ⟨by kernel_rfl,fun j t ht=>?_⟩
 rw [Tryz.params4] at ht
 have hm:t∈([44,24,5]:List TypeId):=by simpa using Array.mem_of_getElem? ht
 simp only [List.mem_cons,List.not_mem_nil,or_false] at hm
 rcases hm with rfl | rfl | rfl
 ·exact (show Tryz.prog.wantsStandIn 44=false by kernel_rfl)
 ·exact (show Tryz.prog.wantsStandIn 24=false by kernel_rfl)
 ·exact (show Tryz.prog.wantsStandIn 5=false by kernel_rfl)
theorem expectsRest_card:Rows.ExpectsRestCardSaid :=
 Claim7.holds_tied_plain_at .later [] _ _ _ _ sw_row (fun _ h=>by cases h) (by kernel_rfl) (fun _ h=>by cases h) expectsRest_row_tie rfl ⟨rfl,rfl⟩ (by kernel_rfl) rfl sw_plain (by kernel_rfl)
end Go.Proofs.YtppjmdanckdobaaGreatDoor
