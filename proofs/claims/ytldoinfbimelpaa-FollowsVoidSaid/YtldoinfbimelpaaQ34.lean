/- The chapter's example of sets: its two grammars, what is told of them, and their sets. -/
import Derived.Test.YtldoinfbimelpaaQ33
import Derived.Test.YtldoinfbimelpaaQ31
import Derived.Test.YtldoinfbimelpaaQ32
import Derived.Test.YtldoinfbimelpaaQ8
namespace Go.Proofs.Ytldoinfbimelpaa
open Go.RowKit

def fLit (c : UInt8) : Nd := .mk 8 { data := #[] } { data := #[c] } [] []
def fgr (a : Nd) : Gr := ⟨{ data := #[71] }, 1, 9, [⟨{ data := #[97] }, 0, a, 0, 0, 0⟩, ⟨{ data := #[98] }, 0, fa2, 0, 0, 0⟩, ⟨{ data := #[67] }, 1, fLit 67, 0, 0, 0⟩, ⟨{ data := #[68] }, 1, fLit 68, 0, 0, 0⟩, ⟨{ data := #[69] }, 1, fLit 69, 0, 0, 0⟩]⟩
def f5 : List Bool := [false, false, false, false, false]
theorem five {P : Nat → Prop} {i : Nat} (h : i < 5) (h0 : P 0) (h1 : P 1) (h2 : P 2) (h3 : P 3) (h4 : P 4) : P i := by
  match i, h with
  | 0, _ => exact h0
  | 1, _ => exact h1
  | 2, _ => exact h2
  | 3, _ => exact h3
  | 4, _ => exact h4
theorem fg_empty {a : Nd} (ha : (fgr a).may f5 (Rl.token ⟨{ data := #[97] }, 0, a, 0, 0, 0⟩) a = false) (hb : (fgr a).may f5 (Rl.token ⟨{ data := #[98] }, 0, fa2, 0, 0, 0⟩) fa2 = false)
    (hc : (fgr a).may f5 true (fLit 67) = false ∧ (fgr a).may f5 true (fLit 68) = false ∧ (fgr a).may f5 true (fLit 69) = false) {es : List Bool} (h : (fgr a).IsEmpty es) : es = f5 := by
  refine h.unique ⟨Gr.Sound.start (fgr a), fun i hi hm => ?_⟩
  have hi' : i < 5 := hi
  match i, hi' with
  | 0, _ => exact absurd (ha.symm.trans hm) (by decide)
  | 1, _ => exact absurd (hb.symm.trans hm) (by decide)
  | 2, _ => exact absurd (hc.1.symm.trans hm) (by decide)
  | 3, _ => exact absurd (hc.2.1.symm.trans hm) (by decide)
  | 4, _ => exact absurd (hc.2.2.symm.trans hm) (by decide)
theorem fa1_empty {es : List Bool} (h : (fgr fa1).IsEmpty es) : es = f5 := fg_empty (by kernel_rfl) (by kernel_rfl) ⟨by kernel_rfl, by kernel_rfl, by kernel_rfl⟩ h
theorem fa2_empty {es : List Bool} (h : (fgr fa2).IsEmpty es) : es = f5 := fg_empty (by kernel_rfl) (by kernel_rfl) ⟨by kernel_rfl, by kernel_rfl, by kernel_rfl⟩ h
theorem fa1_once : (fgr fa1).onceM f5 = [[false, true, false, false, false], f5, f5, f5, f5] := by kernel_rfl
theorem fa2_once : (fgr fa2).onceM f5 = [f5, f5, f5, f5, f5] := by kernel_rfl
theorem fg_rd0 (a : Nd) (i k : Nat) : ¬ (fgr a).rd0 i k := by
  rintro ⟨hi, hk, h, _, m, hm, h3, _⟩
  have hi' : i < 5 := hi
  have hall : ∀ c, (fLit c).all = [fLit c] := fun c => by unfold fLit; rw [Nd.all]; rfl
  have hlit : ∀ c, m ∈ (fLit c).all → False := fun c hm => by
    rw [hall] at hm
    obtain rfl := List.mem_singleton.1 hm
    exact absurd h3 (by simp [fLit, Nd.isName, Nd.kind])
  match i, hi' with
  | 0, _ => cases h
  | 1, _ => cases h
  | 2, _ => exact hlit 67 hm
  | 3, _ => exact hlit 68 hm
  | 4, _ => exact hlit 69 hm
theorem fno_tc {O : Nat → Nat → Prop} (hn : ∀ i k, ¬ O i k) {n : Nat} {M : List (List Bool)} (h : IsReach O n M) (i k : Nat) : at2 M i k = false := by
  cases hh : at2 M i k
  · rfl
  · have := (h.tc _ _).1 hh
    cases this with
    | one h => exact absurd h (hn _ _)
    | more h _ => exact absurd h (hn _ _)
theorem fone_tc {O : Nat → Nat → Prop} (hn : ∀ i k, O i k ↔ i = 0 ∧ k = 1) {n : Nat} {M : List (List Bool)} (h : IsReach O n M) (i k : Nat) : at2 M i k = (i == 0 && k == 1) := by
  have key : at2 M i k = true ↔ i = 0 ∧ k = 1 := by
    rw [h.tc]
    constructor
    · intro ht
      cases ht with
      | one h => exact (hn _ _).1 h
      | more h1 h2 =>
        obtain ⟨-, e⟩ := (hn _ _).1 h1
        subst e
        cases h2 with
        | one h => exact absurd ((hn _ _).1 h).1 (by decide)
        | more h _ => exact absurd ((hn _ _).1 h).1 (by decide)
    · rintro ⟨rfl, rfl⟩
      exact .one ((hn 0 1).2 ⟨rfl, rfl⟩)
  rw [Bool.eq_iff_iff, key]
  simp
theorem fa1_told {es : List Bool} {M N : List (List Bool)} (he : (fgr fa1).IsEmpty es) (hM : IsReach ((fgr fa1).Once es) (fgr fa1).rules.length M) (hN : IsReach (fgr fa1).rd0 (fgr fa1).rules.length N) : (fgr fa1).told es (at2 M) (at2 N) = [] := by
  obtain rfl := fa1_empty he
  have h1 : at2 M = fun i k => (i == 0 && k == 1) := by
    funext i k
    refine fone_tc (fun i k => ?_) hM i k
    unfold Gr.Once
    rw [fa1_once]
    unfold at2 f5
    rcases i with _ | _ | _ | _ | _ | i <;> rcases k with _ | _ | _ | _ | _ | k <;> simp
  have h2 : at2 N = fun _ _ => false := by funext i k; exact fno_tc (fg_rd0 fa1) hN i k
  rw [h1, h2]
  have : ((fgr fa1).told f5 (fun i k => (i == 0 && k == 1)) (fun _ _ => false)).isEmpty = true := by kernel_rfl
  exact List.isEmpty_iff.1 this
theorem fa2_told {es : List Bool} {M N : List (List Bool)} (he : (fgr fa2).IsEmpty es) (hM : IsReach ((fgr fa2).Once es) (fgr fa2).rules.length M) (hN : IsReach (fgr fa2).rd0 (fgr fa2).rules.length N) : (fgr fa2).told es (at2 M) (at2 N) = [] := by
  obtain rfl := fa2_empty he
  have h1 : at2 M = fun _ _ => false := by
    funext i k
    refine fno_tc (fun i k => ?_) hM i k
    unfold Gr.Once
    rw [fa2_once]
    unfold at2 f5
    rcases i with _ | _ | _ | _ | _ | i <;> rcases k with _ | _ | _ | _ | _ | k <;> simp
  have h2 : at2 N = fun _ _ => false := by funext i k; exact fno_tc (fg_rd0 fa2) hN i k
  rw [h1, h2]
  have : ((fgr fa2).told f5 (fun _ _ => false) (fun _ _ => false)).isEmpty = true := by kernel_rfl
  exact List.isEmpty_iff.1 this
theorem fg_names (a : Nd) : ∀ i j (hi : i < (fgr a).rules.length) (hj : j < (fgr a).rules.length), (fgr a).rules[i].name = (fgr a).rules[j].name → i = j := by
  have key : ∀ i : Fin 5, ∀ j : Fin 5, (fgr fa1).rules[i.1].name = (fgr fa1).rules[j.1].name → i = j := by decide +kernel
  intro i j hi hj h
  have := key ⟨i, hi⟩ ⟨j, hj⟩ (by
    have e : ∀ k (hk : k < (fgr a).rules.length), (fgr fa1).rules[k].name = (fgr a).rules[k].name := fun k hk => by
      have hk' : k < 5 := hk
      match k, hk' with
      | 0, _ => rfl
      | 1, _ => rfl
      | 2, _ => rfl
      | 3, _ => rfl
      | 4, _ => rfl
    exact (e i hi).trans (h.trans (e j hj).symm))
  exact congrArg Fin.val this
theorem fg_few {a : Nd} (ha : a.all.length ≤ 4000) : (fgr a).Few := by
  refine ⟨by show 5 ≤ 60; decide, fun i hi => ?_⟩
  have hi' : i < 5 := hi
  match i, hi' with
  | 0, _ => exact ha
  | 1, _ => exact of_decide_eq_true (show decide (fa2.all.length ≤ 4000) = true by kernel_rfl)
  | 2, _ => exact of_decide_eq_true (show decide ((fLit 67).all.length ≤ 4000) = true by kernel_rfl)
  | 3, _ => exact of_decide_eq_true (show decide ((fLit 68).all.length ≤ 4000) = true by kernel_rfl)
  | 4, _ => exact of_decide_eq_true (show decide ((fLit 69).all.length ≤ 4000) = true by kernel_rfl)
theorem fa1_few : (fgr fa1).Few := fg_few (of_decide_eq_true (show decide (fa1.all.length ≤ 4000) = true by kernel_rfl))
theorem fa2_few : (fgr fa2).Few := fg_few (of_decide_eq_true (show decide (fa2.all.length ≤ 4000) = true by kernel_rfl))
theorem fg_begun (a : Nd) : FS.begun (fgr a) f5 0 = fS a := by
  have h1 : (fgr a).of [1, 3] = [2, 3, 4] := by
    have : (fgr fa1).of [1, 3] = [2, 3, 4] := by kernel_rfl
    exact this
  have h0 : (fgr a).of [0] = [0, 1] := by
    have : (fgr fa1).of [0] = [0, 1] := by kernel_rfl
    exact this
  unfold FS.begun
  rw [h1, h0]
  rfl

/-! ### their sets -/
def settledB (f : FS → Nat → Bool × FS) (S : FS) (k : Nat) : Bool := ((List.range k).all fun j => (FS.grown f (FS.rounds f S j) S.rules.length).1) && !(FS.grown f (FS.rounds f S k) S.rules.length).1
theorem settled_of {f : FS → Nat → Bool × FS} {S : FS} {k : Nat} (h : settledB f S k = true) : FS.settled f S k := by
  unfold settledB at h
  rw [Bool.and_eq_true, List.all_eq_true, Bool.not_eq_true'] at h
  exact ⟨fun j hj => h.1 j (List.mem_range.2 hj), h.2⟩
def lowB (T : FS) (j : Nat) : Bool := match (FS.grown FS.gLow T j).2.at j with
  | some r => decide (-1 ≤ (FS.grown FS.gLow T j).2.lowN r.body) && decide ((FS.grown FS.gLow T j).2.lowN r.body ≤ 1000000)
  | .none => true
def fewB (S : FS) (K : Nat → Nat) : Bool := (List.range (K 2 + 1)).all fun k => (List.range S.rules.length).all fun j => lowB (FS.rounds FS.gLow (FS.stage S K 2) k) j
theorem ends_of {S : FS} {K : Nat → Nat} (h0 : settledB (FS.gr 0) (FS.stage S K 0) (K 0) = true) (h1 : settledB (FS.gr 1) (FS.stage S K 1) (K 1) = true) (h2 : settledB (FS.gr 2) (FS.stage S K 2) (K 2) = true) (h3 : fewB S K = true) : S.Ends K := by
  refine ⟨fun n hn => ?_, fun k hk j hj r hr => ?_⟩
  · match n, hn with
    | 0, _ => exact settled_of h0
    | 1, _ => exact settled_of h1
    | 2, _ => exact settled_of h2
  · unfold fewB at h3
    rw [List.all_eq_true] at h3
    have h4 := h3 k (List.mem_range.2 (by omega))
    rw [List.all_eq_true] at h4
    have h5 := h4 j (List.mem_range.2 hj)
    unfold lowB at h5
    rw [hr] at h5
    rw [Bool.and_eq_true, decide_eq_true_eq, decide_eq_true_eq] at h5
    exact h5
def K1 : Nat → Nat
  | 0 => 2
  | _ => 1
def K2 : Nat → Nat
  | 0 => 1
  | _ => 0
theorem fa1_ends : (fS fa1).Ends K1 := ends_of (by kernel_rfl) (by kernel_rfl) (by kernel_rfl) (by kernel_rfl)
theorem fa2_ends : (fS fa2).Ends K2 := ends_of (by kernel_rfl) (by kernel_rfl) (by kernel_rfl) (by kernel_rfl)
def fE1 : FS := FS.stage (fS fa1) K1 3
def fE2 : FS := FS.stage (fS fa2) K2 3
theorem fE1_at0 : ∃ r, fE1.at 0 = some r ∧ listB r.first = [0, 1, 2] ∧ listB r.follow = [-1, 0] := by
  have h : (fE1.at 0).map (fun r => (listB r.first, listB r.follow)) = some ([0, 1, 2], [-1, 0]) := by kernel_rfl
  cases hr : fE1.at 0 with
  | none => rw [hr] at h; cases h
  | some r =>
    rw [hr] at h
    have h2 := Option.some.inj h
    exact ⟨r, rfl, (Prod.ext_iff.1 h2).1, (Prod.ext_iff.1 h2).2⟩
theorem fE1_at1 : ∃ r, fE1.at 1 = some r ∧ listB r.first = [2] ∧ listB r.follow = [0] := by
  have h : (fE1.at 1).map (fun r => (listB r.first, listB r.follow)) = some ([2], [0]) := by kernel_rfl
  cases hr : fE1.at 1 with
  | none => rw [hr] at h; cases h
  | some r =>
    rw [hr] at h
    have h2 := Option.some.inj h
    exact ⟨r, rfl, (Prod.ext_iff.1 h2).1, (Prod.ext_iff.1 h2).2⟩
def fRefB : Nd := fRef { data := #[98] }
def fRefA : Nd := fRef { data := #[97] }
def fOptB : Nd := fNd 2 { data := #[] } [fRefB]
theorem fE1_opt : listB (fE1.begin fOptB).1 = [2] ∧ (fE1.begin fOptB).2 = true := ⟨by kernel_rfl, by kernel_rfl⟩
theorem fE1_low : fE1.lowN fRefB = 2 := by kernel_rfl
theorem fE2_low : fE2.lowN fRefA = -1 := by kernel_rfl
theorem fa1_pre : OfPre (fgr fa1) f5 0 := ⟨fa1_few, fun _ _ _ => fa1_told, fun _ => fa1_empty, rfl, fg_names fa1, ⟨by show 0 < 5; decide, by kernel_rfl, rfl⟩⟩
theorem fa2_pre : OfPre (fgr fa2) f5 0 := ⟨fa2_few, fun _ _ _ => fa2_told, fun _ => fa2_empty, rfl, fg_names fa2, ⟨by show 0 < 5; decide, by kernel_rfl, rfl⟩⟩
end Go.Proofs.Ytldoinfbimelpaa

/- What one asks of a grammar's sets: lists of tokens, what a rule may begin with, what may follow it. -/
namespace Go.Proofs.Ytldoinfbimelpaa
open Go.RowKit

set_option maxHeartbeats 1000000 in
set_option maxRecDepth 20000 in
theorem fsameI_ok (l m : List Int) (W : World) (v u : Value) (hl : l.length ≤ 1000000) (hm : m.length ≤ 1000000) (hv : IntsV W W.heap.size v l) (hu : IntsV W W.heap.size u m) :
    Calls Try.prog 30 #[v, u] W fun e W' => e = .returned (.bool (decide (l = m))) ∧ Grew W W' := by
  obtain ⟨a, cap, rfl, hA⟩ := hv
  obtain ⟨b, cap', rfl, hB⟩ := hu
  go_enter Try.func30, Try.ntmps30
  by_cases hlen : l.length = m.length
  · have hne : ((l.length : Int) != (m.length : Int)) = false := by rw [hlen]; simp
    have HLN := Lib.hid hlen
    rw [hlen]
    rw [hlen] at hne
    clear hlen
    go_wp2
    go_loopw [5] (fun i wr => ∃ (j : Nat), i = .int .i64 j ∧ j ≤ m.length ∧ Hid (∀ i (h1 : i < l.length) (h2 : i < m.length), i < j → l[i] = m[i]) ∧ Hid (Grew W wr)) (fun i _ => m.length - (intOf i).toNat)
    case atStart => exact ⟨0, rfl, by omega, fun i _ _ h => absurd h (by omega), Grew.refl W⟩
    case round =>
      obtain ⟨j, rfl, hj, hf, hbw⟩ := hrel
      by_cases hlt : j < m.length
      · have hlt' : j < l.length := by rw [HLN.out]; exact hlt
        obtain ⟨b1, o1, rfl, hb1, hc1⟩ := hA j hlt'
        obtain ⟨b2, o2, rfl, hb2, hc2⟩ := hB j hlt
        have hz := hbw.out.size
        have d1 : wr.cell? ⟨b1, o1 + j, none⟩ = some (.int .i64 l[j]) := by rw [hbw.out.cells _ _ hb1]; exact hc1
        have d2 : wr.cell? ⟨b2, o2 + j, none⟩ = some (.int .i64 m[j]) := by rw [hbw.out.cells _ _ hb2]; exact hc2
        have l1 : b1 < wr.heap.size := by omega
        have l2 : b2 < wr.heap.size := by omega
        clear hA hB hc1 hc2 hb1 hb2 hz
        by_cases heq : l[j] = m[j]
        · have HEQ := Lib.hid heq
          rw [heq] at d1
          have hne2 : (m[j] != m[j]) = false := by simp
          clear heq
          go_wp2_with fail
          refine wp_region_hav_lit follows (by kernel_rfl) ?_
          repeat (first
            | (refine HavG.skip (fun _ => rfl) ?_; simp only [Act.put, List.setIfInBounds_toArray, List.set_cons_zero, List.set_cons_succ])
            | (refine HavG.val (fun _ => rfl) ?_ (fun x w hw _ => ?_) ?_; rotate_left; (focus (have hc := hw.cells; clear hw; go_simp; first | done | rfl)); simp only [Act.put, List.setIfInBounds_toArray, List.set_cons_zero, List.set_cons_succ]))
          refine HavG.tail (by kernel_rfl) (by kernel_rfl) (fun x w2 hw _ => ?_)
          have HW := Lib.hid hw
          clear hw
          go_wp2_with fail
          go_round
          case rel => exact ⟨j + 1, by go_num, by omega, fun i h1 h2 h3 => (by
            by_cases e : i = j
            · subst e; exact HEQ.out
            · exact hf.out i h1 h2 (by omega)), hbw.out.trans HW.out⟩
          case measure => simp [intOf]; omega
        · have hne2 : (l[j] != m[j]) = true := by simpa using heq
          have HEQ := Lib.hid heq
          clear heq
          go_wp2_with fail
          refine wp_region_hav_lit follows (by kernel_rfl) ?_
          repeat (first
            | (refine HavG.skip (fun _ => rfl) ?_; simp only [Act.put, List.setIfInBounds_toArray, List.set_cons_zero, List.set_cons_succ])
            | (refine HavG.val (fun _ => rfl) ?_ (fun x w hw _ => ?_) ?_; rotate_left; (focus (have hc := hw.cells; clear hw; go_simp; first | done | rfl)); simp only [Act.put, List.setIfInBounds_toArray, List.set_cons_zero, List.set_cons_succ]))
          refine HavG.tail (by kernel_rfl) (by kernel_rfl) (fun x w2 hw _ => ?_)
          have HW := Lib.hid hw
          clear hw
          go_wp2_with fail
          go_ret
          refine ⟨ret_bool ?_, hbw.out.trans HW.out⟩
          symm
          rw [decide_eq_false_iff_not]
          intro e
          subst e
          exact HEQ.out rfl
      · go_wp2_with fail
        go_ret
        refine ⟨ret_bool ?_, hbw.out⟩
        symm
        rw [decide_eq_true_eq]
        exact List.ext_getElem HLN.out fun i h1 h2 => hf.out i h1 h2 (by omega)
  · have hne : ((l.length : Int) != (m.length : Int)) = true := by simp; omega
    have HLN := Lib.hid hlen
    clear hlen
    go_wp2
    go_ret
    refine ⟨ret_bool ?_, Grew.refl W⟩
    symm
    rw [decide_eq_false_iff_not]
    exact fun e => HLN.out (by rw [e])
theorem fsameNums_ok (l m : List Int) (W : World) (v u : Value) (hl : l.length ≤ 1000000) (hm : m.length ≤ 1000000) (hv : IntsV W W.heap.size v l) (hu : IntsV W W.heap.size u m) :
    Calls Try.prog 16 #[v, u] W fun e W' => e = .returned (.bool (decide (l = m))) ∧ Grew W W' := by
  have HS := Lib.hid (fsameI_ok l m W v u hl hm hv hu)
  obtain ⟨a, cap, rfl, hA⟩ := hv
  obtain ⟨b, cap', rfl, hB⟩ := hu
  clear hA hB
  go_enter Try.func16, Try.ntmps16
  go_wp2_with (go_at_call 30; refine HS.out.mono ?_; rintro e w' ⟨rfl, hb⟩)
  go_ret
  exact ⟨rfl, hb⟩


/-! ### what there is -/
set_option maxRecDepth 20000 in
theorem fthere_nil (W : World) : Calls Try.prog 17 #[.pointer none] W fun e W' => e = .returned (.bool false) ∧ W' = W := by
  go_enter Try.func17, Try.ntmps17
  go_wp2_with fail
  go_ret
  exact ⟨rfl, rfl⟩
theorem nil_rules (n c : Nat) (u : World) : (binOp .neq 30 (.slice none n c) (.slice none 0 0)).run Try.prog u = .ok (.bool false) u := by kernel_rfl
theorem some_rules (p : Addr) (n c : Nat) (u : World) : (binOp .neq 30 (.slice (some p) n c) (.slice none 0 0)).run Try.prog u = .ok (.bool true) u := by kernel_rfl
set_option maxRecDepth 20000 in
theorem fthere_ok (W : World) (b : Nat) (x y : Value) (a : Option Addr) (n c : Nat) (hb : Owns W b [x, y, .slice a n c] 32) : Calls Try.prog 17 #[.pointer (some ⟨b, 0, none⟩)] W fun e W' => e = .returned (.bool a.isSome) ∧ W' = W := by
  have c2 := hb.cell_at (i := 2) rfl
  have cl := hb.lt
  clear hb
  cases a with
  | none =>
    have hq := nil_rules n c W
    go_enter Try.func17, Try.ntmps17
    go_wp2_with fail
    go_ret
    exact ⟨rfl, rfl⟩
  | some p =>
    have hq := some_rules p n c W
    go_enter Try.func17, Try.ntmps17
    go_wp2_with fail
    go_ret
    exact ⟨rfl, rfl⟩

/-! ### sets that are not there -/
theorem pnil_eq (u : World) : (binOp .neq 64 (.pointer none) (.pointer none)).run Try.prog u = .ok (.bool false) u := by kernel_rfl
/-- none, or as no call made them -/
def NoSets (W : World) (v : Value) : Prop := v = .pointer none ∨ ∃ b x y, v = .pointer (some ⟨b, 0, none⟩) ∧ Owns W b [x, y, .slice none 0 0] 32
theorem NoSets.keep {W W' : World} {v : Value} (h : NoSets W v) (hg : Grew W W') : NoSets W' v := by
  rcases h with h | ⟨b, x, y, h1, h2⟩
  · exact .inl h
  · exact .inr ⟨b, x, y, h1, h2.keep hg⟩
theorem there_no {W : World} {v : Value} (h : NoSets W v) : Calls Try.prog 17 #[v] W fun e W' => e = .returned (.bool false) ∧ W' = W := by
  rcases h with rfl | ⟨b, x, y, rfl, hb⟩
  · exact fthere_nil W
  · exact fthere_ok W b x y none 0 0 hb
set_option maxRecDepth 20000 in
theorem of_no {W : World} {v : Value} (h : NoSets W v) (i : Int) : Calls Try.prog 20 #[v, .int .i64 i] W fun e W' => e = .returned (.pointer none) ∧ W' = W := by
  have HT := Lib.hid (there_no h)
  clear h
  go_enter Try.func20, Try.ntmps20
  go_wp2_with fail
  refine HT.out.mono ?_
  rintro e w ⟨rfl, rfl⟩
  go_wp2_with fail
  go_ret
  exact ⟨rfl, rfl⟩
set_option maxRecDepth 20000 in
theorem First_no {W : World} {v : Value} (h : NoSets W v) (i : Int) : Calls Try.prog 7 #[v, .int .i64 i] W fun e W' => e = .returned (.slice none 0 0) ∧ W' = W := by
  have HT := Lib.hid (of_no h i)
  clear h
  go_enter Try.func7, Try.ntmps7
  go_wp2_with fail
  refine HT.out.mono ?_
  rintro e w ⟨rfl, rfl⟩
  go_wp2_with fail
  go_ret
  exact ⟨rfl, rfl⟩
set_option maxRecDepth 20000 in
theorem Follow_no {W : World} {v : Value} (h : NoSets W v) (i : Int) : Calls Try.prog 8 #[v, .int .i64 i] W fun e W' => e = .returned (.slice none 0 0) ∧ W' = W := by
  have HT := Lib.hid (of_no h i)
  clear h
  go_enter Try.func8, Try.ntmps8
  go_wp2_with fail
  refine HT.out.mono ?_
  rintro e w ⟨rfl, rfl⟩
  go_wp2_with fail
  go_ret
  exact ⟨rfl, rfl⟩
set_option maxRecDepth 20000 in
theorem Begin_no {W : World} {v : Value} (h : NoSets W v) (n0 n1 n2 n3 n4 : Value) : Calls Try.prog 6 #[v, .agg #[n0, n1, n2, n3, n4]] W fun e W' => e = .returned (.tuple #[.slice none 0 0, .bool false]) ∧ Grew W W' := by
  obtain ⟨w1, hw1⟩ : ∃ w1, W.alloc (.cells #[n0, n1, n2, n3, n4] 26) = w1 := ⟨_, rfl⟩
  have g1 : Grew W w1 := hw1 ▸ grew_alloc W _
  have HT := Lib.hid (there_no (h.keep g1))
  have HG := Lib.hid g1
  clear h g1
  go_enter Try.func6, Try.ntmps6
  go_wp2_with fail
  refine HT.out.mono ?_
  rintro e w ⟨rfl, rfl⟩
  go_wp2_with fail
  go_ret2
  exact ⟨rfl, HG.out⟩
set_option maxRecDepth 20000 in
theorem Low_no {W : World} {v : Value} (h : NoSets W v) (n0 n1 n2 n3 n4 : Value) : Calls Try.prog 9 #[v, .agg #[n0, n1, n2, n3, n4]] W fun e W' => e = .returned (.int .i64 (-1)) ∧ Grew W W' := by
  obtain ⟨w1, hw1⟩ : ∃ w1, W.alloc (.cells #[n0, n1, n2, n3, n4] 26) = w1 := ⟨_, rfl⟩
  have g1 : Grew W w1 := hw1 ▸ grew_alloc W _
  have HT := Lib.hid (there_no (h.keep g1))
  have HG := Lib.hid g1
  clear h g1
  go_enter Try.func9, Try.ntmps9
  go_wp2_with fail
  refine HT.out.mono ?_
  rintro e w ⟨rfl, rfl⟩
  go_wp2_with fail
  go_ret
  exact ⟨rfl, HG.out⟩
end Go.Proofs.Ytldoinfbimelpaa
