/- scBack' tied card: it answers true whatever comes in, which reads as it did; the variables that the row lists hold what the program's text lays. -/
import Derived.Test.YtglnnjcapcpkfacDoorScB
import Derived.Test.YtglnnjcapcpkfacDoorScLaidB
import Derived.Test.YtglnnjcapcpkfacDoorShut
import Derived.Deep.Slices
namespace Go.Proofs.YtglnnjcapcpkfacDoor
open Go.ChangeShapes Go.WideShapes Go.ChangeAt Go.RowKit Go.ChangeMaps

theorem spot_none {w : World} {a : Addr} {v : Value} (h : w.cell? a = some v) : ∃ b o, a = ⟨b, o, none⟩ := by
  obtain ⟨b, o, sp⟩ := a
  cases sp with
  | none => exact ⟨b, o, rfl⟩
  | some x =>
    unfold World.cell? at h
    split at h <;> simp at h
set_option maxRecDepth 20000 in
/-- bytes that came in -/
theorem bytes_open {H : Type} {enc : TypeId × Value → H} {W : World} {base : Nat} {sp : Nat → Bool} {held : Bool} {v : Value} {d : DataW H} {ps : List MemPlace} {b0 : Nat} (hval : Value.okWide Tryd.prog W .any b0 22 v) (h : DataW.Trod enc Tryd.prog W base sp held 22 v d ps) :
    ∃ (l : List Nat) (x : Option Addr) (c : Nat), v = .slice x l.length c ∧ (∀ y ∈ l, y ≤ 255) ∧ ∀ (j : Nat) (h : j < l.length), ∃ b off, x = some ⟨b, off, none⟩ ∧ b < W.heap.size ∧ W.cell? ⟨b, off + j, none⟩ = some (.int .u8 (l[j] : Nat)) := by
  obtain ⟨sa, sl, sc, rfl⟩ := okWide_slice (e := 5) (by kernel_rfl) hval
  obtain ⟨fuel, hf⟩ := h
  rcases Go.Deep.open_slice1 (e := 5) (by kernel_rfl) (by kernel_rfl) hf with ⟨hv, _⟩ | ⟨a, len, cap, m, n, V, D, Pl, hv, hb, hl, hm, hmm, hx, hall⟩
  · simp only [Value.cells, List.cons.injEq, Value.slice.injEq, and_true] at hv
    obtain ⟨rfl, rfl, rfl⟩ := hv
    exact ⟨[], none, 0, rfl, by simp, fun j h => absurd h (by simp)⟩
  · simp only [Value.cells, List.cons.injEq, Value.slice.injEq, and_true] at hv
    obtain ⟨rfl, rfl, rfl⟩ := hv
    have hlm : sl ≤ m := by
      rw [hmm]
      split <;> omega
    have hV : ∀ j, ∃ z : Nat, j < sl → V j = .int .u8 (z : Int) ∧ z ≤ 255 := by
      intro j
      by_cases hj : j < sl
      · obtain ⟨z, hz, _, hw⟩ := DataW.trod_int (k := .u8) (by kernel_rfl) (hall j (by omega)).2
        have hw2 : 0 ≤ z ∧ z ≤ 255 := by simpa [Lit.wf, IntKind.min, IntKind.max, IntKind.signed, IntKind.bits] using hw
        refine ⟨z.toNat, fun _ => ⟨?_, by omega⟩⟩
        rw [Int.toNat_of_nonneg hw2.1]
        exact (List.cons.inj hz).1
      · exact ⟨0, fun h => absurd h hj⟩
    obtain ⟨Z, hZ⟩ : ∃ Z : Nat → Nat, ∀ j, j < sl → V j = .int .u8 (Z j : Int) ∧ Z j ≤ 255 := ⟨fun j => (hV j).choose, fun j => (hV j).choose_spec⟩
    refine ⟨(List.range sl).map Z, some a, sc, by simp, fun y hy => ?_, fun j hj => ?_⟩
    · obtain ⟨k, hk, rfl⟩ := List.mem_map.1 hy
      exact (hZ k (List.mem_range.1 hk)).2
    have hj' : j < sl := by simpa using hj
    obtain ⟨b, o, rfl⟩ : ∃ b o, a = ⟨b, o, none⟩ := by
      have h0 := (hall 0 (by omega)).1
      have : a.add 0 = a := by unfold Addr.add; rfl
      rw [this] at h0
      exact spot_none h0
    have h1 := (hall j (by omega)).1
    rw [(hZ j hj').1] at h1
    have e : (⟨b, o, none⟩ : Addr).add j = ⟨b, o + j, none⟩ := by unfold Addr.add; split <;> simp_all
    rw [e] at h1
    refine ⟨b, o, rfl, cell_in h1, ?_⟩
    rw [h1]
    simp

set_option maxRecDepth 20000 in
theorem back_contract (H : Type) (enc : TypeId × Value → H) (W : World) (base : Nat) (args : Array Value) (ds gs : List (DataW H)) (before : List MemPlace)
    (hval : ∀ (j : Nat) t v, Tryd.f3.params[j]? = some t → args[j]? = some v → Value.okWide Tryd.prog W .any base t v)
    (hW : DataW.Whole enc Tryd.prog Tryd.f3.params.toList Rows.scansBackSpec.vars false W args.toList ds gs before) (hL : laidMetH Tryd.prog Rows.scansBackRow.laid W) (hS : W.ShapedOpen Tryd.prog) :
    Calls Tryd.prog 3 args W fun e W' => ∃ v, e = .returned v ∧ Rows.scansBackSpec.post enc Tryd.prog Tryd.f3 false true false false W args v W' := by
  have hW' := hW
  obtain ⟨p, q, hA0, hV, rfl, hfz, hnd⟩ := hW
  have hA : DataW.TrodAll enc Tryd.prog W 0 (fun _ => true) true Tryd.f3.params.toList args.toList ds p := hA0
  rw [Tryd.params3] at hA hval
  obtain ⟨v0, v1, d0, d1, p0, p1, rfl, rfl, rfl, h0, h1⟩ := trodAll_two hA
  obtain ⟨rfl, rfl⟩ := trodVars_none hV
  have h1k := h1
  obtain ⟨a, rfl, rfl, rfl, hs0⟩ := open_string Tryd.underlying9 (hval 0 9 v0 rfl rfl) h0
  obtain ⟨gl, gx, gc, rfl, hgl, hgcells⟩ := bytes_open (hval 1 22 v1 rfl rfl) h1
  clear hA0
  simp only [List.append_nil] at hW'
  have hLd : LaidB W := laidB_row hL hS
  refine (scansBack_ok a gl hgl gx gc W hLd hgcells).mono fun e W' ⟨he, hb⟩ => ?_
  subst he
  have hlt : ∀ y ∈ p1, y.block < W.heap.size := fun y hy => hW'.lt y (by simpa using hy)
  refine ⟨_, rfl, post_below hb hW' (fun _ _ _ => trodAll_cons_mk (shut_bool Tryd.underlying4 _) trodAll_mk0) (fun sp hsp => ?_) (fun _ => rfl) (ok_one (by kernel_rfl) rfl (okWide_bool_mk Tryd.underlying4 _))⟩
  have h2 := trodAll_mk2 (shut_string (enc := enc) (w := W') (base := 0) (sp := sp) (held := true) Tryd.underlying9 hs0) (WideElems.Trod_stays laidOut (by kernel_rfl) (of_decide_eq_true (by kernel_rfl)) h1k (fun y hy => hb.same (hlt y hy)) (fun y hy => hsp y (by simpa using hy)))
  first | exact h2 | (rw [List.nil_append] at h2; exact h2) | (simp only [List.append_nil, List.nil_append] at h2 ⊢; exact h2)

theorem back_lays (os : Os) (args : Array Value) : laidMet Tryd.prog Rows.scansBackRow.laid ((World.laidAll Tryd.prog os Rows.scansBackRow.laid).forCall (fun _ _ => 0) ⟨#[], args, []⟩).memory :=
  laidMet_laidAll _ (by kernel_rfl) (by kernel_rfl)
theorem back_reads (os : Os) {H : Type} (enc : TypeId × Value → H) : ∃ places, DataW.whole enc Tryd.prog ((World.laidAll Tryd.prog os Rows.scansBackRow.laid).forCall (fun _ _ => 0) ⟨#[], #[.string .empty, .slice none 0 0], []⟩).memory Tryd.f3.params.toList Rows.scansBackSpec.vars false (#[.string .empty, .slice none 0 0] : Array Value).toList 8 = some ([.lit (.string []), .nil], [], places) :=
  ⟨[], by kernel_rfl⟩

set_option maxRecDepth 100000 in
theorem back_lifted (os : Os) (started : os.Started) (H : Type) (enc : TypeId × Value → H) (F : Stop.Interp) :
    ReturnsInHanded {} Tryd.checked os 3 .any ((OpenSpec.ofChange Rows.scansBackSpec).preRow enc Tryd.prog Tryd.f3 Rows.scansBackRow.domain false Rows.scansBackRow.laid) (((OpenSpec.ofChange Rows.scansBackSpec).at F).post enc Tryd.prog Tryd.f3 false true false false) := by
  obtain ⟨places, hx⟩ := back_reads os enc
  have hok : Input.okWideB Tryd.prog ((World.laidAll Tryd.prog os Rows.scansBackRow.laid).forCall (fun _ _ => 0) ⟨#[], #[.string .empty, .slice none 0 0], []⟩) 3 ⟨#[], #[.string .empty, .slice none 0 0], []⟩ = true := by kernel_rfl
  refine returnsInHanded_of_row (C := Tryd.checked) (s := OpenSpec.ofChange Rows.scansBackSpec) own started (by kernel_rfl) Tryd.func3
    ⟨World.laidAll Tryd.prog os Rows.scansBackRow.laid, fun _ _ => 0, ⟨#[], #[.string .empty, .slice none 0 0], []⟩, World.laidAll_os _ _ _, World.shaped_of_ZipB (by kernel_rfl) (by kernel_rfl), (Input.okWide_of_okWideB (base := 0) hok).1, (Input.okWide_of_okWideB hok).2,
      OpenSpec.preRow_of_cond 8 hx (by kernel_rfl) (fun k hk => by cases hk) (by kernel_rfl) (back_lays os _), by
        simp only [Assume.holds]
        exact ⟨by simp, by simp, fun _ => Modest.zero, by simp, by simp⟩⟩ ?_
  intro W base args ds gs before hval hW _ _ _ hL hS _
  exact back_contract H enc W base args ds gs before hval hW hL hS

theorem back_row : Rows.ScansBackSaid :=
  OpenClaim.holds_of_cond 3 Tryd.f3 rfl rfl rfl rfl rfl rfl rfl ⟨rfl, rfl, rfl, rfl, rfl⟩ rfl rfl rfl rfl rfl (by kernel_rfl) Tryd.func3 (by kernel_rfl)
    (of_decide_eq_true (by kernel_rfl)) (by unfold Func.isWrapper; first | (rw [if_pos (by decide +kernel)]; kernel_rfl) | (rw [if_neg (by decide +kernel)]; exact ⟨rfl, rfl⟩))
    (fun os started H enc _ F => by rw [OpenClaim.pre_eq_preRow]; exact back_lifted os started H enc F)

theorem back_plain (f : FuncId) (fn : Func) (hf : Tryd.pinned.checked.prog.funcNamed "harbinger/harbingerlaw02.ScansBack" = some f) (hfn : Tryd.pinned.checked.prog.funcs[f]? = some fn) :
    true = Tryd.pinned.checked.prog.looks [] ∧ ∀ (j : Nat) t, fn.params[j]? = some t → Tryd.pinned.checked.prog.wantsStandIn t = false := by
  obtain rfl : f = 3 := Option.some.inj ((show Tryd.prog.funcNamed "harbinger/harbingerlaw02.ScansBack" = some 3 by kernel_rfl).symm.trans hf) |>.symm
  obtain rfl : fn = Tryd.f3 := (Option.some.inj (Tryd.func3.symm.trans hfn)).symm
  refine ⟨by kernel_rfl, fun j t ht => ?_⟩
  rw [Tryd.params3] at ht
  have hm : t ∈ ([9, 22] : List TypeId) := by simpa using Array.mem_of_getElem? ht
  simp only [List.mem_cons, List.not_mem_nil, or_false] at hm
  rcases hm with rfl | rfl
  · exact (show Tryd.prog.wantsStandIn 9 = false by kernel_rfl)
  · exact (show Tryd.prog.wantsStandIn 22 = false by kernel_rfl)

/-- WHAT IS ASKED: scBack' card. -/
theorem scansBack_card : Rows.ScansBackCardSaid :=
  Claim7.holds_tied_plain_at .later [] _ _ _ _ back_row (fun _ h => by cases h) (by kernel_rfl) (fun _ h => by cases h) scansBack_row_tie rfl ⟨rfl, rfl⟩ (by kernel_rfl) rfl back_plain (by kernel_rfl)
end Go.Proofs.YtglnnjcapcpkfacDoor
