/- A book that is not there, or that no call made. -/
import Derived.Test.YtgegjjfjhpokpaaGreatDoorQW54
import Derived.ChangeArms
import Derived.SizedLaws
import Derived.Test.YtgegjjfjhpokpaaGreatDoorQW3
import Derived.Test.YtgegjjfjhpokpaaGreatDoorRows
import Derived.ProofKit
import Derived.Below
import Derived.Test.YtgegjjfjhpokpaaGreatDoorCards
import Derived.Test.YtgegjjfjhpokpaaGreatDoorTie
import Derived.Lib.LaidU8
import Derived.PinnedBridge
import Derived.Shelf.Vars
import Derived.WalkKit
import Derived.OpenShut
import Derived.Carry
import Derived.ChangeMaps5
import Derived.Deep.DeepHandedRow
import Derived.Lay
import Derived.LaidOnce
import Derived.SevenTiedAt
import Derived.Test.YtgegjjfjhpokpaaGreatDoorQW55
namespace Go.Proofs.YtgegjjfjhpokpaaGreatDoor
open Go.RowKit

/-- none, or as no call made it -/
def NoBook (W : World) (v : Value) : Prop := v = .pointer none ∨ ∃ b, v = .pointer (some ⟨b, 0, none⟩) ∧ Owns W b [.map none, .map none, .slice none 0 0, .slice none 0 0, .slice none 0 0] 29
theorem NoBook.keep {W W' : World} {v : Value} (h : NoBook W v) (hg : Grew W W') : NoBook W' v := by
  rcases h with h | ⟨b, h1, h2⟩
  · exact .inl h
  · exact .inr ⟨b, h1, h2.keep hg⟩
set_option maxRecDepth 20000 in
theorem sbhas_none (W : World) (v : Value) (r : Int) (h : NoBook W v) : Calls Tryz.prog 15 #[v, .int .i64 r] W fun e W' => e = .returned (.bool false) ∧ W' = W := by
  rcases h with rfl | ⟨b, rfl, hb⟩
  · go_enter Tryz.func15, Tryz.ntmps15
    go_wp2_with fail
    go_ret
    exact ⟨rfl, rfl⟩
  · have c3 := hb.cell_at (i := 3) rfl
    have cl := hb.lt
    by_cases h0 : 0 ≤ r
    · have h1 : ¬ r < 0 := by omega
      go_enter Tryz.func15, Tryz.ntmps15
      go_wp2_with fail
      go_ret
      exact ⟨rfl, rfl⟩
    · have h1 : r < 0 := by omega
      go_enter Tryz.func15, Tryz.ntmps15
      go_wp2_with fail
      go_ret
      exact ⟨rfl, rfl⟩
theorem sLong_none (W : World) (v : Value) (r : Int) (h : NoBook W v) : Calls Tryz.prog 8 #[v, .int .i64 r] W fun e W' => e = .returned (.int .i64 (-1)) ∧ W' = W := by
  have HH := Lib.hid (sbhas_none W v r h)
  clear h
  go_enter Tryz.func8, Tryz.ntmps8
  go_wp2_with fail
  refine HH.out.mono ?_
  rintro e w ⟨rfl, rfl⟩
  go_wp2_with fail
  go_ret
  exact ⟨rfl, rfl⟩
theorem sLeast_none (W : World) (v : Value) (r : Int) (h : NoBook W v) : Calls Tryz.prog 6 #[v, .int .i64 r] W fun e W' => e = .returned (.tuple #[.slice none 0 0, .bool false]) ∧ Grew W W' := by
  have HH := Lib.hid (sbhas_none W v r h)
  clear h
  go_enter Tryz.func6, Tryz.ntmps6
  go_wp2_with fail
  refine HH.out.mono ?_
  rintro e w ⟨rfl, rfl⟩
  go_wp2_with fail
  go_ret2
  exact ⟨rfl, Grew.refl _⟩
theorem sHas_none (W : World) (v : Value) (r : Int) (u : Value) (h : NoBook W v) : Calls Tryz.prog 7 #[v, .int .i64 r, u] W fun e W' => e = .returned (.bool false) ∧ Grew W W' := by
  have HH := Lib.hid (sbhas_none W v r h)
  clear h
  go_enter Tryz.func7, Tryz.ntmps7
  go_wp2_with fail
  refine HH.out.mono ?_
  rintro e w ⟨rfl, rfl⟩
  go_wp2_with fail
  go_ret
  exact ⟨rfl, Grew.refl _⟩
set_option maxRecDepth 20000 in
theorem sAll_none (W : World) (v : Value) (r long many : Int) (h : NoBook W v) : Calls Tryz.prog 5 #[v, .int .i64 r, .int .i64 long, .int .i64 many] W fun e W' => e = .returned (.tuple #[.slice none 0 0, .int .i64 2]) ∧ Grew W W' := by
  rcases h with rfl | ⟨b, rfl, hb⟩
  · go_enter Tryz.func5, Tryz.ntmps5
    go_wp2_with fail
    refine wp_scope_still 0 (by kernel_rfl) ?_
    go_wp2_with fail
    exact ⟨rfl, _, results_tmp2 rfl _ _ _, rfl, Grew.refl _⟩
  · have c0 := hb.cell_at (i := 0) rfl
    have cl := hb.lt
    have q : ∀ w : World, (binOp .eql 25 (.map none) (.map none)).run Tryz.prog w = .ok (.bool true) w := fun w => by rfl
    clear hb
    go_enter Tryz.func5, Tryz.ntmps5
    go_wp2_with fail
    refine wp_scope_still 0 (by kernel_rfl) ?_
    go_wp2_with fail
    exact ⟨rfl, _, results_tmp2 rfl _ _ _, rfl, Grew.refl _⟩
end Go.Proofs.YtgegjjfjhpokpaaGreatDoor

/- SamplesVoid: a book that is not there derives nothing. -/
namespace Go.Proofs.YtgegjjfjhpokpaaGreatDoor
open Go.RowKit

set_option maxHeartbeats 4000000 in
set_option maxRecDepth 40000 in
theorem void27_ok (r long many : Int) (ya : Option Addr) (yn yc : Nat) (W : World) (hT : Lib.Utf8Tabs 1 2 W) :
    Calls Tryz.prog 3 #[.agg #[.int .i64 r, .int .i64 long, .int .i64 many, .slice ya yn yc]] W fun e W' => e = .returned (.bool true) ∧ Grew W W' := by
  have HT := Lib.hid hT
  obtain ⟨w1, hw1⟩ : ∃ w1, W.alloc (.cells #[.int .i64 r, .int .i64 long, .int .i64 many, .slice ya yn yc] 24) = w1 := ⟨_, rfl⟩
  have G1 := Lib.hid (show Grew W w1 from hw1 ▸ grew_alloc W _)
  have o1 : Owns w1 W.heap.size [.int .i64 r, .int .i64 long, .int .i64 many, .slice ya yn yc] 24 := hw1 ▸ Owns.alloc W _ _
  have HO := Lib.hid o1
  obtain ⟨w3, hw3⟩ : ∃ w3, w1.alloc (.cells #[.map none, .map none, .slice none 0 0, .slice none 0 0, .slice none 0 0] 29) = w3 := ⟨_, rfl⟩
  have G3 := Lib.hid (show Grew w1 w3 from hw3 ▸ grew_alloc w1 _)
  have o3 : Owns w3 w1.heap.size [.map none, .map none, .slice none 0 0, .slice none 0 0, .slice none 0 0] 29 := hw3 ▸ Owns.alloc w1 _ _
  obtain ⟨b, hb⟩ : ∃ b, w1.heap.size = b := ⟨_, rfl⟩
  rw [hb] at o3
  obtain ⟨w4, hw4⟩ : ∃ w4, w3.alloc (.cells #[.pointer none, .pointer (some ⟨b, 0, none⟩)] 30) = w4 := ⟨_, rfl⟩
  have G4 := Lib.hid (show Grew w3 w4 from hw4 ▸ grew_alloc w3 _)
  have o4 : Owns w4 w3.heap.size [.pointer none, .pointer (some ⟨b, 0, none⟩)] 30 := hw4 ▸ Owns.alloc w3 _ _
  obtain ⟨l, hl⟩ : ∃ l, w3.heap.size = l := ⟨_, rfl⟩
  rw [hl] at o4
  have HN := Lib.hid (o3.keep G4.out)
  have HLL := Lib.hid o4
  have HO := Lib.hid (HO.out.keep (G3.out.trans G4.out))
  have G5 := Lib.hid (G1.out.trans (G3.out.trans G4.out))
  clear o1 o3 o4 G3 G4 G1 hT
  go_enter Tryz.func3, Tryz.ntmps3
  go_wp2_with fail
  clear hw1 hw3 hw4 hb hl
  go_loopw [5] (fun i wr => ∃ j : Nat, i = .int .i64 j ∧ j ≤ 2 ∧ Hid (Grew w4 wr)) (fun i _ => 2 - (intOf i).toNat)
  case atStart => exact ⟨0, rfl, by omega, Grew.refl _⟩
  case round =>
    obtain ⟨j, rfl, hj, hg⟩ := hrel
    by_cases hlt : j < 2
    · obtain ⟨v, hv, hns⟩ : ∃ v, wr.cell? ⟨l, j, none⟩ = some v ∧ NoBook wr v := by
        have h1 := HLL.out.keep hg.out
        obtain rfl | rfl : j = 0 ∨ j = 1 := by omega
        · exact ⟨_, h1.cell_at (i := 0) rfl, .inl rfl⟩
        · exact ⟨_, h1.cell_at (i := 1) rfl, .inr ⟨b, rfl, HN.out.keep hg.out⟩⟩
      have hll := (HLL.out.keep hg.out).lt
      have hjl : (j : Int) < 2 := by omega
      have hj0 : (0 : Int) ≤ (j : Int) := by omega
      have ho := HO.out.keep hg.out
      have c0 := ho.cell_at (i := 0) rfl
      have c1 := ho.cell_at (i := 1) rfl
      have c2 := ho.cell_at (i := 2) rfl
      have c3 := ho.cell_at (i := 3) rfl
      have cl := ho.lt
      have d2 : decide ((j : Int) < 2) = true := decide_eq_true (by omega)
      have HNS := Lib.hid hns
      have HAL := Lib.hid (fun w' (hw : Grew wr w') => sAll_none w' v r long many (HNS.out.keep hw))
      have HLE := Lib.hid (fun w' (hw : Grew wr w') => sLeast_none w' v r (HNS.out.keep hw))
      have HHA := Lib.hid (fun w' (hw : Grew wr w') => sHas_none w' v r (.slice ya yn yc) (HNS.out.keep hw))
      have HLO := Lib.hid (fun w' (hw : Grew wr w') => sLong_none w' v r (HNS.out.keep hw))
      have HLL5 := Lib.hid (HLL.out.keep hg.out)
      have HO5 := Lib.hid (HO.out.keep hg.out)
      have HV5 := Lib.hid hv
      clear ho hns
      go_upto_region 6 with fail
      refine wp_region_hav_lit follows (by kernel_rfl) ?_
      iterate 10 (first
        | (refine HavG.skip (fun _ => rfl) ?_; simp only [Act.put, List.setIfInBounds_toArray, List.set_cons_zero, List.set_cons_succ])
        | (refine HavG.val (fun _ => rfl) ?_ (fun x w hw _ => ?_) ?_; rotate_left; (focus (have hc := hw.cells; clear hw; go_simp; first | done | rfl)); simp only [Act.put, List.setIfInBounds_toArray, List.set_cons_zero, List.set_cons_succ]))
      refine HavG.det (fun _ => rfl) (.tuple #[.slice none 0 0, .int .i64 2]) (fun x w hw hd => ?_) ?_
      · clear hd
        have HW := Lib.hid hw
        clear hw
        go_simp
        refine (HAL.out _ HW.out).mono ?_
        rintro e w' ⟨rfl, hg⟩
        exact ⟨rfl, hg⟩
      simp only [Act.put, List.setIfInBounds_toArray, List.set_cons_zero, List.set_cons_succ]
      repeat (first
        | (refine HavG.skip (fun _ => rfl) ?_; simp only [Act.put, List.setIfInBounds_toArray, List.set_cons_zero, List.set_cons_succ])
        | (refine HavG.val (fun _ => rfl) ?_ (fun x w hw _ => ?_) ?_; rotate_left; (focus (have hc := hw.cells; clear hw; go_simp; first | done | rfl)); simp only [Act.put, List.setIfInBounds_toArray, List.set_cons_zero, List.set_cons_succ]))
      refine HavG.tail (by kernel_rfl) (by kernel_rfl) (fun x w hw _ => ?_)
      have HW := Lib.hid hw
      have hv := (hw.cells _ j hll).trans HV5.out
      have hll := (HLL5.out.keep hw).lt
      have ho := HO5.out.keep hw
      have c0 := ho.cell_at (i := 0) rfl
      have c1 := ho.cell_at (i := 1) rfl
      have c2 := ho.cell_at (i := 2) rfl
      have c3 := ho.cell_at (i := 3) rfl
      have cl := ho.lt
      clear ho hw
      go_upto_region 7 with fail
      refine wp_region_hav_lit follows (by kernel_rfl) ?_
      iterate 6 (first
        | (refine HavG.skip (fun _ => rfl) ?_; simp only [Act.put, List.setIfInBounds_toArray, List.set_cons_zero, List.set_cons_succ])
        | (refine HavG.val (fun _ => rfl) ?_ (fun x w hw _ => ?_) ?_; rotate_left; (focus (have hc := hw.cells; clear hw; go_simp; first | done | rfl)); simp only [Act.put, List.setIfInBounds_toArray, List.set_cons_zero, List.set_cons_succ]))
      refine HavG.det (fun _ => rfl) (.tuple #[.slice none 0 0, .bool false]) (fun x w' hw hd => ?_) ?_
      · clear hd
        have HW2 := Lib.hid hw
        clear hw
        go_simp
        refine (HLE.out _ (HW.out.trans HW2.out)).mono ?_
        rintro e w6 ⟨rfl, hg6⟩
        exact ⟨rfl, hg6⟩
      simp only [Act.put, List.setIfInBounds_toArray, List.set_cons_zero, List.set_cons_succ]
      repeat (first
        | (refine HavG.skip (fun _ => rfl) ?_; simp only [Act.put, List.setIfInBounds_toArray, List.set_cons_zero, List.set_cons_succ])
        | (refine HavG.val (fun _ => rfl) ?_ (fun x w hw _ => ?_) ?_; rotate_left; (focus (have hc := hw.cells; clear hw; go_simp; first | done | rfl)); simp only [Act.put, List.setIfInBounds_toArray, List.set_cons_zero, List.set_cons_succ]))
      refine HavG.tail (by kernel_rfl) (by kernel_rfl) (fun x w7 hw7 _ => ?_)
      have HW7 := Lib.hid (HW.out.trans hw7)
      have hv := (HW7.out.cells _ j (Nat.lt_of_lt_of_le HLL5.out.lt (Nat.le_refl _))).trans HV5.out
      have hll := (HLL5.out.keep HW7.out).lt
      have ho := HO5.out.keep HW7.out
      have c0 := ho.cell_at (i := 0) rfl
      have c1 := ho.cell_at (i := 1) rfl
      have c2 := ho.cell_at (i := 2) rfl
      have c3 := ho.cell_at (i := 3) rfl
      have cl := ho.lt
      clear ho hw7
      go_upto_region 8 with fail
      refine wp_region_hav_lit follows (by kernel_rfl) ?_
      iterate 24 (first
        | (refine HavG.skip (fun _ => rfl) ?_; simp only [Act.put, List.setIfInBounds_toArray, List.set_cons_zero, List.set_cons_succ])
        | (refine HavG.val (fun _ => rfl) ?_ (fun x w hw _ => ?_) ?_; rotate_left; (focus (have hc := hw.cells; clear hw; go_simp; first | done | rfl)); simp only [Act.put, List.setIfInBounds_toArray, List.set_cons_zero, List.set_cons_succ]))
      refine HavG.det (fun _ => rfl) (.bool false) (fun x w' hw hd => ?_) ?_
      · clear hd
        have HW2 := Lib.hid hw
        clear hw
        go_simp
        refine (HHA.out _ (HW7.out.trans HW2.out)).mono ?_
        rintro e w6 ⟨rfl, hg6⟩
        exact ⟨rfl, hg6⟩
      simp only [Act.put, List.setIfInBounds_toArray, List.set_cons_zero, List.set_cons_succ]
      iterate 8 (first
        | (refine HavG.skip (fun _ => rfl) ?_; simp only [Act.put, List.setIfInBounds_toArray, List.set_cons_zero, List.set_cons_succ])
        | (refine HavG.val (fun _ => rfl) ?_ (fun x w hw _ => ?_) ?_; rotate_left; (focus (have hc := hw.cells; clear hw; go_simp; first | done | rfl)); simp only [Act.put, List.setIfInBounds_toArray, List.set_cons_zero, List.set_cons_succ]))
      refine HavG.det (fun _ => rfl) (.int .i64 (-1)) (fun x w' hw hd => ?_) ?_
      · clear hd
        have HW2 := Lib.hid hw
        clear hw
        go_simp
        refine (HLO.out _ (HW7.out.trans HW2.out)).mono ?_
        rintro e w6 ⟨rfl, rfl⟩
        exact ⟨rfl, Grew.refl _⟩
      simp only [Act.put, List.setIfInBounds_toArray, List.set_cons_zero, List.set_cons_succ]
      repeat (first
        | (refine HavG.skip (fun _ => rfl) ?_; simp only [Act.put, List.setIfInBounds_toArray, List.set_cons_zero, List.set_cons_succ])
        | (refine HavG.val (fun _ => rfl) ?_ (fun x w hw _ => ?_) ?_; rotate_left; (focus (have hc := hw.cells; clear hw; go_simp; first | done | rfl)); simp only [Act.put, List.setIfInBounds_toArray, List.set_cons_zero, List.set_cons_succ]))
      refine HavG.tail (by kernel_rfl) (by kernel_rfl) (fun x w9 hw9 _ => ?_)
      have HW9 := Lib.hid (HW7.out.trans hw9)
      clear hw9 hv hll c0 c1 c2 c3 cl
      go_wp2_with fail
      exact ⟨⟨j + 1, by go_num, by omega, hg.out.trans HW9.out⟩, by simp [intOf]; omega⟩
    · obtain rfl : j = 2 := by omega
      have HL := Lib.hid (lives27_ok wr (tabs_grew HT.out (G5.out.trans hg.out)))
      go_wp2_with fail
      refine HL.out.mono ?_
      rintro e w9 ⟨rfl, hg9⟩
      have HG := Lib.hid hg9
      clear hg9
      go_wp2_with fail
      go_ret
      exact ⟨rfl, (G5.out.trans hg.out).trans HG.out⟩
end Go.Proofs.YtgegjjfjhpokpaaGreatDoor

/- A grammar that is handed in reads as one: what the row's hypothesis says of the argument gives 'GrAt'. -/
namespace Go.Proofs.YtgegjjfjhpokpaaGreatDoor
open Go.RowKit Go.ChangeShapes Go.WideShapes

section
variable {H : Type} {enc : TypeId × Value → H} {P : Program} {w : World} {base : Nat} {spare : Nat → Bool} {held : Bool}

theorem list2 {α : Type} : ∀ {cs : List α}, cs.length = 2 → ∃ a b, cs = [a, b]
  | [a, b], _ => ⟨a, b, rfl⟩
theorem list3 {α : Type} : ∀ {cs : List α}, cs.length = 3 → ∃ a b c, cs = [a, b, c]
  | [a, b, c], _ => ⟨a, b, c, rfl⟩
theorem list4 {α : Type} : ∀ {cs : List α}, cs.length = 4 → ∃ a b c d, cs = [a, b, c, d]
  | [a, b, c, d], _ => ⟨a, b, c, d, rfl⟩
theorem list5 {α : Type} : ∀ {cs : List α}, cs.length = 5 → ∃ a b c d e, cs = [a, b, c, d, e]
  | [a, b, c, d, e], _ => ⟨a, b, c, d, e, rfl⟩
theorem list10 {α : Type} {cs : List α} (h : cs.length = 10) : ∃ a b c d e f g i j k, cs = [a, b, c, d, e, f, g, i, j, k] := by
  obtain ⟨a, b, c, d, e, h1⟩ := list5 (cs := cs.take 5) (by simp [h])
  obtain ⟨f, g, i, j, k, h2⟩ := list5 (cs := cs.drop 5) (by simp [h])
  refine ⟨a, b, c, d, e, f, g, i, j, k, ?_⟩
  rw [← List.take_append_drop 5 cs, h1, h2]
  rfl

/-- no part of it weighs more than can be reached -/
def Light (P : Program) (t : TypeId) (d : DataW H) : Prop := ∀ n ∈ d.weights P t, n ≤ reachBytes

theorem light_each : ∀ (ts : List TypeId) (ds : List (DataW H)) (_ : ∀ n ∈ DataW.weightsEach P ts ds, n ≤ reachBytes) (i : Nat) (t : TypeId) (d : DataW H), ts[i]? = some t → ds[i]? = some d → Light P t d
  | [], _, _, _, _, _, h, _ => by simp at h
  | _ :: _, [], _, _, _, _, _, h => by simp at h
  | t :: ts, d :: ds, hw, 0, t', d', h, h' => by
    simp only [List.getElem?_cons_zero, Option.some.injEq] at h h'
    subst h; subst h'
    intro n hn
    exact hw n (by rw [DataW.weightsEach]; exact List.mem_append_left _ hn)
  | t :: ts, d :: ds, hw, i + 1, t', d', h, h' => by
    rw [List.getElem?_cons_succ] at h h'
    exact light_each ts ds (fun n hn => hw n (by rw [DataW.weightsEach]; exact List.mem_append_right _ hn)) i t' d' h h'

theorem light_all {e : TypeId} : ∀ (ds : List (DataW H)) (_ : ∀ n ∈ DataW.weightsAll P e ds, n ≤ reachBytes) (i : Nat) (d : DataW H), ds[i]? = some d → Light P e d
  | [], _, _, _, h => by simp at h
  | d :: ds, hw, 0, d', h => by
    simp only [List.getElem?_cons_zero, Option.some.injEq] at h
    subst h
    intro n hn
    exact hw n (by rw [DataW.weightsAll]; exact List.mem_append_left _ hn)
  | d :: ds, hw, i + 1, d', h => by
    rw [List.getElem?_cons_succ] at h
    exact light_all ds (fun n hn => hw n (by rw [DataW.weightsAll]; exact List.mem_append_right _ hn)) i d' h

/-- a struct's fields -/
theorem trod_fields {t : TypeId} {fs : Array Field} {fuel : Nat} {cs : List Value} {x : DataW H × List MemPlace} (ht : P.underlying t = some (.struct fs)) (h : DataW.trod enc P w base spare held fuel t cs = some x) (hw : Light P t x.1) :
    ∃ n, fuel = n + 1 ∧ cs.length = P.cellsOf t ∧ ∀ (i : Nat) (ty off c : Nat), (fs[i]?).map (fun f => (f.type, f.offset)) = some (ty, off) → P.cellsOf ty = c → ∃ y, DataW.trod enc P w base spare held n ty ((cs.drop off).take c) = some y ∧ Light P ty y.1 := by
  obtain ⟨xs, n, rfl, rfl, hl, hn, hf⟩ := DataW.trod_struct ht h
  refine ⟨n, rfl, hl, fun i ty off c hi hc => ?_⟩
  rw [Option.map_eq_some_iff] at hi
  obtain ⟨f, hi, he⟩ := hi
  simp only [Prod.mk.injEq] at he
  obtain ⟨rfl, rfl⟩ := he
  subst hc
  have h1 := hf i f hi
  have hlt : i < xs.length := by
    rw [hn]
    by_cases hc : i < fs.size
    · exact hc
    · rw [Array.getElem?_eq_none (by omega)] at hi; cases hi
  rw [List.getElem?_eq_getElem hlt] at h1
  refine ⟨xs[i], h1, ?_⟩
  have hw2 : ∀ n ∈ DataW.weightsEach P (fs.toList.map (·.type)) (xs.map (·.1)), n ≤ reachBytes := by
    intro n hn
    refine hw n ?_
    rw [DataW.weights, ht]
    exact hn
  exact light_each _ _ hw2 i f.type xs[i].1 (by rw [List.getElem?_map]; rw [Array.getElem?_toList, hi]; rfl) (by rw [List.getElem?_map, List.getElem?_eq_getElem hlt]; rfl)

theorem len_capO {t e : TypeId} {fuel : Nat} {a : Option Addr} {n c : Nat} {x : DataW H × List MemPlace} (ht : P.underlying t = some (.slice e)) (h : DataW.trod enc P w base spare held fuel t [.slice a n c] = some x) : n ≤ c := by
  rcases DataW.trod_slice ht h with ⟨h1, -⟩ | ⟨a', len, cap, elems, rest, m, -, h2, -, -, hl, -⟩
  · simp at h1; omega
  · simp at h2; omega
/-- a slice's elements: each stands whole in one block -/
theorem trod_elems {t e : TypeId} {fuel : Nat} {cs : List Value} {x : DataW H × List MemPlace} (ht : P.underlying t = some (.slice e)) (hpos : 1 ≤ P.bytesOf e) (hc : 1 ≤ P.cellsOf e) (h : DataW.trod enc P w base spare held fuel t cs = some x) (hw : Light P t x.1) :
    ∃ (a : Option Addr) (len cap n : Nat), fuel = n + 1 ∧ cs = [.slice a len cap] ∧ len ≤ reachN ∧ ∀ i, i < len → ∃ (b off : Nat) (cs' : List Value) (y : DataW H × List MemPlace), a = some ⟨b, off, none⟩ ∧ b < w.heap.size ∧
      cs'.length = P.cellsOf e ∧ (∀ j, j < P.cellsOf e → w.cell? ⟨b, off + i * P.cellsOf e + j, none⟩ = cs'[j]?) ∧ DataW.trod enc P w base spare held n e cs' = some y ∧ Light P e y.1 := by
  have hfu : ∃ n, fuel = n + 1 := by
    cases fuel with
    | zero => simp [DataW.trod] at h
    | succ n => exact ⟨n, rfl⟩
  rcases DataW.trod_slice ht h with ⟨rfl, rfl⟩ | ⟨a, len, cap, elems, rest, n, rfl, rfl, rfl, hb, hl, hm, hlen, hel, hsp, hns⟩
  · obtain ⟨n, rfl⟩ := hfu
    exact ⟨none, 0, 0, n, rfl, rfl, by simp [reachN], fun i hi => absurd hi (by omega)⟩
  have hw2 : ∀ n ∈ (DataW.slice (elems.map (·.1)) (rest.map (·.1))).weights P t, n ≤ reachBytes := hw
  rw [DataW.weights, ht] at hw2
  have h0 := hw2 _ (List.mem_cons_self ..)
  simp only [List.length_map] at h0
  have h0' : elems.length + rest.length ≤ reachBytes := Nat.le_trans (Nat.le_mul_of_pos_right _ hpos) h0
  refine ⟨some a, len, cap, n, rfl, rfl, ?_, fun i hi => ?_⟩
  · have : reachBytes ≤ reachN := by decide
    omega
  have key : ∀ i, i < len → ∃ (cs' : List Value) (y : DataW H × List MemPlace), cs'.length = P.cellsOf e ∧ (∀ j, j < P.cellsOf e → w.cell? ((a.add (i * P.cellsOf e)).add j) = cs'[j]?) ∧ DataW.trod enc P w base spare held n e cs' = some y ∧ Light P e y.1 := by
    intro i hi
    have h1 := hel i hi
    rw [List.getElem?_eq_getElem (by omega), Option.bind_eq_some_iff] at h1
    obtain ⟨cs', h2, h3⟩ := h1
    obtain ⟨_, hcl, hcell⟩ := World.cells?_some h2
    refine ⟨cs', elems[i], hcl, hcell, h3, ?_⟩
    exact light_all (elems.map (·.1)) (fun n hn => hw2 n (List.mem_cons_of_mem _ (List.mem_append_left _ hn))) i _ (by rw [List.getElem?_map, List.getElem?_eq_getElem (by omega)]; rfl)
  obtain ⟨b, off, spot⟩ := a
  obtain ⟨c0, y0, l0, hj0, -, -⟩ := key 0 (by omega)
  have h4 := hj0 0 hc
  rw [List.getElem?_eq_getElem (by omega)] at h4
  simp only [Addr.add, Nat.zero_mul, if_true, World.cell?] at h4
  have hb2 : b < w.heap.size ∧ spot = none := by
    split at h4
    · rename_i hcs
      split at h4
      · cases h4
      · rename_i hs
        refine ⟨?_, by simpa using hs⟩
        by_cases hlt : b < w.heap.size
        · exact hlt
        · rw [Array.getElem?_eq_none (by omega)] at hcs; cases hcs
    · cases h4
  obtain ⟨hbl, rfl⟩ := hb2
  obtain ⟨cs', y, k1, k2, k3, k4⟩ := key i hi
  refine ⟨b, off, cs', y, rfl, hbl, k1, fun j hj => ?_, k3, k4⟩
  have := k2 j hj
  rw [add_plain, add_plain] at this
  exact this

/-- a row of parts, each as it is wanted -/
theorem row_of {α : Type} {Q : Nat → α → Prop} : ∀ (len i : Nat), (∀ k, k < len → ∃ x, Q (i + k) x) → ∃ l : List α, l.length = len ∧ ∀ k (hk : k < l.length), Q (i + k) l[k]
  | 0, _, _ => ⟨[], rfl, fun k hk => absurd hk (by simp)⟩
  | len + 1, i, h => by
    obtain ⟨x, hx⟩ := h 0 (by omega)
    obtain ⟨l, hl, hq⟩ := row_of len (i + 1) (fun k hk => by
      obtain ⟨y, hy⟩ := h (k + 1) (by omega)
      exact ⟨y, by rw [show i + 1 + k = i + (k + 1) by omega]; exact hy⟩)
    refine ⟨x :: l, by simp [hl], fun k hk => ?_⟩
    cases k with
    | zero => exact hx
    | succ k =>
      rw [show i + (k + 1) = i + 1 + k by omega]
      exact hq k (by simpa using hk)

theorem NodesAt.of {W : World} {lim : Nat} {a : Option Addr} : ∀ (l : List Nd) (i : Nat), (∀ k (hk : k < l.length), ∃ b off, a = some ⟨b, off, none⟩ ∧ b < lim ∧ NodeAt W lim (W.cell? ⟨b, off + (i + k) * 5, none⟩) (W.cell? ⟨b, off + (i + k) * 5 + 1, none⟩) (W.cell? ⟨b, off + (i + k) * 5 + 2, none⟩) (W.cell? ⟨b, off + (i + k) * 5 + 3, none⟩) (W.cell? ⟨b, off + (i + k) * 5 + 4, none⟩) l[k]) → NodesAt W lim a i l
  | [], _, _ => by rw [NodesAt]; trivial
  | n :: r, i, h => by
    rw [NodesAt]
    refine ⟨h 0 (by simp), NodesAt.of r (i + 1) fun k hk => ?_⟩
    have := h (k + 1) (by simpa using hk)
    rw [show i + (k + 1) = i + 1 + k by omega] at this
    exact this

theorem RangesAt.of {W : World} {lim : Nat} {a : Option Addr} : ∀ (l : List (Int × Int)) (i : Nat), (∀ k (hk : k < l.length), ∃ b off, a = some ⟨b, off, none⟩ ∧ b < lim ∧ W.cell? ⟨b, off + (i + k) * 2, none⟩ = some (.int .i32 l[k].1) ∧ W.cell? ⟨b, off + (i + k) * 2 + 1, none⟩ = some (.int .i32 l[k].2)) → RangesAt W lim a i l
  | [], _, _ => by rw [RangesAt]; trivial
  | n :: r, i, h => by
    rw [RangesAt]
    refine ⟨h 0 (by simp), RangesAt.of r (i + 1) fun k hk => ?_⟩
    have := h (k + 1) (by simpa using hk)
    rw [show i + (k + 1) = i + 1 + k by omega] at this
    exact this

theorem RulesAt.of {W : World} {lim : Nat} {a : Option Addr} : ∀ (l : List Rl) (i : Nat), (∀ k (hk : k < l.length), ∃ b off, a = some ⟨b, off, none⟩ ∧ b < lim ∧ RuleAt W lim (W.cell? ⟨b, off + (i + k) * 10, none⟩) (W.cell? ⟨b, off + (i + k) * 10 + 1, none⟩) (W.cell? ⟨b, off + (i + k) * 10 + 2, none⟩) (W.cell? ⟨b, off + (i + k) * 10 + 3, none⟩) (W.cell? ⟨b, off + (i + k) * 10 + 4, none⟩)
      (W.cell? ⟨b, off + (i + k) * 10 + 5, none⟩) (W.cell? ⟨b, off + (i + k) * 10 + 6, none⟩) (W.cell? ⟨b, off + (i + k) * 10 + 7, none⟩) (W.cell? ⟨b, off + (i + k) * 10 + 8, none⟩) (W.cell? ⟨b, off + (i + k) * 10 + 9, none⟩) l[k]) → RulesAt W lim a i l
  | [], _, _ => by rw [RulesAt]; trivial
  | n :: r, i, h => by
    rw [RulesAt]
    refine ⟨h 0 (by simp), RulesAt.of r (i + 1) fun k hk => ?_⟩
    have := h (k + 1) (by simpa using hk)
    rw [show i + (k + 1) = i + 1 + k by omega] at this
    exact this

theorem light_string {t : TypeId} {cs : List Value} {x : DataW H × List MemPlace} {fuel : Nat} (ht : P.underlying t = some .string) (h : DataW.trod enc P w base spare held fuel t cs = some x) (hw : Light P t x.1) : ∃ s, cs = [.string s] ∧ s.size ≤ reachN := by
  obtain ⟨s, h1, h2, h3⟩ := DataW.trod_string ht h
  refine ⟨s, h1, ?_⟩
  subst h2
  have := hw s.data.toList.length (by rw [DataW.weights]; exact List.mem_singleton.2 rfl)
  have e : reachBytes ≤ reachN := by decide
  have e2 : s.data.toList.length = s.size := Array.length_toList
  omega
end

section
variable {H : Type} {enc : TypeId × Value → H} {w : World} {base : Nat} {spare : Nat → Bool} {held : Bool}

theorem light_int {t : TypeId} {k : IntKind} {P : Program} {cs : List Value} {x : DataW H × List MemPlace} {fuel : Nat} (ht : P.underlying t = some (.int k)) (h : DataW.trod enc P w base spare held fuel t cs = some x) : ∃ n, cs = [.int k n] ∧ k.min ≤ n ∧ n ≤ k.max := by
  obtain ⟨n, h1, -, h3⟩ := DataW.trod_int ht h
  refine ⟨n, h1, ?_⟩
  simpa [Lit.wf] using h3

theorem cells1 : Tryz.prog.cellsOf 21 = 1 ∧ Tryz.prog.cellsOf 9 = 1 ∧ Tryz.prog.cellsOf 65 = 1 ∧ Tryz.prog.cellsOf 51 = 1 ∧ Tryz.prog.cellsOf 3 = 1 ∧ Tryz.prog.cellsOf 66 = 1 ∧ Tryz.prog.cellsOf 26 = 1 ∧ Tryz.prog.cellsOf 44 = 1 := ⟨by kernel_rfl, by kernel_rfl, by kernel_rfl, by kernel_rfl, by kernel_rfl, by kernel_rfl, by kernel_rfl, by kernel_rfl⟩
theorem cellsN : Tryz.prog.cellsOf 98 = 2 ∧ Tryz.prog.cellsOf 68 = 5 ∧ Tryz.prog.cellsOf 72 = 10 ∧ Tryz.prog.cellsOf 46 = 4 ∧ Tryz.prog.cellsOf 70 = 3 ∧ Tryz.prog.cellsOf 43 = 2 := ⟨by kernel_rfl, by kernel_rfl, by kernel_rfl, by kernel_rfl, by kernel_rfl, by kernel_rfl⟩
theorem bytesN : Tryz.prog.bytesOf 98 = 8 ∧ Tryz.prog.bytesOf 68 = 88 ∧ Tryz.prog.bytesOf 72 = 136 := ⟨by kernel_rfl, by kernel_rfl, by kernel_rfl⟩

theorem range_open {fuel : Nat} {cs : List Value} {x : DataW H × List MemPlace} (h : DataW.trod enc Tryz.prog w base spare held fuel 98 cs = some x) (hw : Light Tryz.prog 98 x.1) : ∃ p : Int × Int, cs = [.int .i32 p.1, .int .i32 p.2] := by
  obtain ⟨n, -, hl, hf⟩ := trod_fields Tryz.underlying98 h hw
  rw [cellsN.1] at hl
  obtain ⟨a, b, rfl⟩ := list2 hl
  obtain ⟨y, h1, -⟩ := hf 0 21 0 1 rfl cells1.1
  obtain ⟨z, h2, -⟩ := hf 1 21 1 1 rfl cells1.1
  obtain ⟨p, e1, -⟩ := light_int Tryz.underlying21 h1
  obtain ⟨q, e2, -⟩ := light_int Tryz.underlying21 h2
  simp at e1 e2
  exact ⟨(p, q), by simp [e1, e2]⟩

theorem ranges_open {fuel : Nat} {cs : List Value} {x : DataW H × List MemPlace} (h : DataW.trod enc Tryz.prog w base spare held fuel 66 cs = some x) (hw : Light Tryz.prog 66 x.1) :
    ∃ a cap, ∃ set : List (Int × Int), cs = [.slice a set.length cap] ∧ set.length ≤ reachN ∧ RangesAt w w.heap.size a 0 set := by
  obtain ⟨a, len, cap, n, -, rfl, hlen, hel⟩ := trod_elems Tryz.underlying66 (by rw [bytesN.1]; decide) (by rw [cellsN.1]; decide) h hw
  obtain ⟨l, hl, hq⟩ := row_of (Q := fun i (p : Int × Int) => ∃ b off, a = some ⟨b, off, none⟩ ∧ b < w.heap.size ∧ w.cell? ⟨b, off + i * 2, none⟩ = some (.int .i32 p.1) ∧ w.cell? ⟨b, off + i * 2 + 1, none⟩ = some (.int .i32 p.2)) len 0 (fun k hk => by
    obtain ⟨b, off, cs', y, e1, e2, e3, e4, e5, e6⟩ := hel k hk
    obtain ⟨p, rfl⟩ := range_open e5 e6
    rw [cellsN.1] at e4
    rw [Nat.zero_add]
    exact ⟨p, b, off, e1, e2, e4 0 (by decide), e4 1 (by decide)⟩)
  subst hl
  exact ⟨a, cap, l, rfl, hlen, RangesAt.of l 0 hq⟩

theorem node_open : ∀ (fuel : Nat) {cs : List Value} {x : DataW H × List MemPlace}, DataW.trod enc Tryz.prog w base spare held fuel 68 cs = some x → Light Tryz.prog 68 x.1 →
    ∃ v0 v1 v2 v3 v4 n, cs = [v0, v1, v2, v3, v4] ∧ NodeAt w w.heap.size (some v0) (some v1) (some v2) (some v3) (some v4) n := by
  intro fuel
  induction fuel using Nat.strongRecOn with
  | _ fuel ih =>
  intro cs x h hw
  obtain ⟨n, rfl, hl, hf⟩ := trod_fields Tryz.underlying68 h hw
  rw [cellsN.2.1] at hl
  obtain ⟨v0, v1, v2, v3, v4, rfl⟩ := list5 hl
  obtain ⟨y0, h0, -⟩ := hf 0 65 0 1 rfl cells1.2.2.1
  obtain ⟨y1, h1, w1⟩ := hf 1 9 1 1 rfl cells1.2.1
  obtain ⟨y2, h2, w2⟩ := hf 2 9 2 1 rfl cells1.2.1
  obtain ⟨y3, h3, w3⟩ := hf 3 66 3 1 rfl cells1.2.2.2.2.2.1
  obtain ⟨y4, h4, w4⟩ := hf 4 26 4 1 rfl cells1.2.2.2.2.2.2.1
  obtain ⟨k, e0, k0, k1⟩ := light_int Tryz.underlying65 h0
  obtain ⟨nm, e1, l1⟩ := light_string Tryz.underlying9 h1 w1
  obtain ⟨tx, e2, l2⟩ := light_string Tryz.underlying9 h2 w2
  obtain ⟨a3, cap3, set, e3, l3, r3⟩ := ranges_open h3 w3
  obtain ⟨a4, len4, cap4, m, rfl, e4, l4, hel⟩ := trod_elems Tryz.underlying26 (by rw [bytesN.2.1]; decide) (by rw [cellsN.2.1]; decide) h4 w4
  have hcap := h4
  rw [e4] at hcap
  replace hcap := len_capO Tryz.underlying26 hcap
  simp at e0 e1 e2 e3 e4
  subst e0 e1 e2 e3 e4
  obtain ⟨l, hl, hq⟩ := row_of (Q := fun i (p : Nd) => ∃ b off, a4 = some ⟨b, off, none⟩ ∧ b < w.heap.size ∧ NodeAt w w.heap.size (w.cell? ⟨b, off + i * 5, none⟩) (w.cell? ⟨b, off + i * 5 + 1, none⟩) (w.cell? ⟨b, off + i * 5 + 2, none⟩) (w.cell? ⟨b, off + i * 5 + 3, none⟩) (w.cell? ⟨b, off + i * 5 + 4, none⟩) p) len4 0 (fun k hk => by
    obtain ⟨b, off, cs', y, f1, f2, f3, f4, f5, f6⟩ := hel k hk
    obtain ⟨u0, u1, u2, u3, u4, nd, rfl, hn⟩ := ih m (by omega) f5 f6
    rw [cellsN.2.1] at f4
    rw [Nat.zero_add]
    refine ⟨nd, b, off, f1, f2, ?_⟩
    have g0 := f4 0 (by decide)
    have g1 := f4 1 (by decide)
    have g2 := f4 2 (by decide)
    have g3 := f4 3 (by decide)
    have g4 := f4 4 (by decide)
    rw [Nat.add_zero] at g0
    rw [g0, g1, g2, g3, g4]
    exact hn)
  subst hl
  refine ⟨_, _, _, _, _, .mk k nm tx set l, rfl, ?_⟩
  rw [NodeAt]
  exact ⟨⟨k0, k1⟩, l1, l2, rfl, rfl, rfl, ⟨a3, cap3, rfl, l3, r3⟩, ⟨a4, cap4, rfl, Nat.le_min.2 ⟨l4, hcap⟩, NodesAt.of l 0 hq⟩⟩

theorem rule_open {fuel : Nat} {cs : List Value} {x : DataW H × List MemPlace} (h : DataW.trod enc Tryz.prog w base spare held fuel 72 cs = some x) (hw : Light Tryz.prog 72 x.1) :
    ∃ v0 v1 v2 v3 v4 v5 v6 v7 v8 v9 r, cs = [v0, v1, v2, v3, v4, v5, v6, v7, v8, v9] ∧ RuleAt w w.heap.size (some v0) (some v1) (some v2) (some v3) (some v4) (some v5) (some v6) (some v7) (some v8) (some v9) r := by
  obtain ⟨n, rfl, hl, hf⟩ := trod_fields Tryz.underlying72 h hw
  rw [cellsN.2.2.1] at hl
  obtain ⟨v0, v1, v2, v3, v4, v5, v6, v7, v8, v9, rfl⟩ := list10 hl
  obtain ⟨y0, h0, w0⟩ := hf 0 9 0 1 rfl cells1.2.1
  obtain ⟨y1, h1, -⟩ := hf 1 51 1 1 rfl cells1.2.2.2.1
  obtain ⟨y2, h2, w2⟩ := hf 2 68 2 5 rfl cellsN.2.1
  obtain ⟨y3, h3, w3⟩ := hf 3 70 7 3 rfl cellsN.2.2.2.2.1
  obtain ⟨nm, e0, l0⟩ := light_string Tryz.underlying9 h0 w0
  obtain ⟨k, e1, k0, k1⟩ := light_int Tryz.underlying51 h1
  obtain ⟨u2, u3, u4, u5, u6, nd, e2, hn⟩ := node_open n h2 w2
  obtain ⟨m, -, -, hg⟩ := trod_fields Tryz.underlying70 h3 w3
  obtain ⟨z0, p0, -⟩ := hg 0 3 0 1 rfl cells1.2.2.2.2.1
  obtain ⟨z1, p1, -⟩ := hg 1 3 1 1 rfl cells1.2.2.2.2.1
  obtain ⟨z2, p2, -⟩ := hg 2 3 2 1 rfl cells1.2.2.2.2.1
  obtain ⟨q0, f0, a0, b0⟩ := light_int Tryz.underlying3 p0
  obtain ⟨q1, f1, a1, b1⟩ := light_int Tryz.underlying3 p1
  obtain ⟨q2, f2, a2, b2⟩ := light_int Tryz.underlying3 p2
  simp at e0 e1 e2 f0 f1 f2
  obtain ⟨rfl, rfl, rfl, rfl, rfl⟩ := e2
  subst e0 e1 f0 f1 f2
  refine ⟨_, _, _, _, _, _, _, _, _, _, ⟨nm, k, nd, q0, q1, q2⟩, rfl, ?_⟩
  exact ⟨rfl, l0, rfl, ⟨k0, k1⟩, hn, rfl, rfl, rfl, ⟨a0, b0⟩, ⟨a1, b1⟩, ⟨a2, b2⟩⟩

set_option maxRecDepth 20000 in
/-- THE OPENING of a grammar. -/
theorem gr_open {W : World} {v : Value} {d : DataW H} {ps : List MemPlace} {b0 : Nat} (hval : Value.okWide Tryz.prog W .any b0 46 v) (h : DataW.Trod enc Tryz.prog W base spare held 46 v d ps) (hw : Light Tryz.prog 46 d) :
    ∃ v0 v1 v2 v3 g, v = .agg #[v0, v1, v2, v3] ∧ GrAt W W.heap.size (some v0) (some v1) (some v2) (some v3) g := by
  obtain ⟨cs, rfl, hsz⟩ := okWide_struct Tryz.underlying46 hval
  obtain ⟨fuel, h⟩ := h
  obtain ⟨n, rfl, hl, hf⟩ := trod_fields Tryz.underlying46 h hw
  rw [cellsN.2.2.2.1] at hl
  obtain ⟨v0, v1, v2, v3, hcs⟩ := list4 hl
  rw [hcs] at hf
  obtain ⟨y0, h0, w0⟩ := hf 0 9 0 1 rfl cells1.2.1
  obtain ⟨y1, h1, w1⟩ := hf 1 43 1 2 rfl cellsN.2.2.2.2.2
  obtain ⟨y2, h2, w2⟩ := hf 2 44 3 1 rfl cells1.2.2.2.2.2.2.2
  obtain ⟨nm, e0, l0⟩ := light_string Tryz.underlying9 h0 w0
  obtain ⟨m, -, -, hg⟩ := trod_fields Tryz.underlying43 h1 w1
  obtain ⟨z0, p0, -⟩ := hg 0 3 0 1 rfl cells1.2.2.2.2.1
  obtain ⟨z1, p1, -⟩ := hg 1 3 1 1 rfl cells1.2.2.2.2.1
  obtain ⟨q0, f0, a0, c0⟩ := light_int Tryz.underlying3 p0
  obtain ⟨q1, f1, a1, c1⟩ := light_int Tryz.underlying3 p1
  obtain ⟨a4, len4, cap4, m, -, e4, l4, hel⟩ := trod_elems Tryz.underlying44 (by rw [bytesN.2.2]; decide) (by rw [cellsN.2.2.1]; decide) h2 w2
  simp at e0 e4 f0 f1
  subst e0 e4 f0 f1
  obtain ⟨l, hl, hq⟩ := row_of (Q := fun i (p : Rl) => ∃ b off, a4 = some ⟨b, off, none⟩ ∧ b < W.heap.size ∧ RuleAt W W.heap.size (W.cell? ⟨b, off + i * 10, none⟩) (W.cell? ⟨b, off + i * 10 + 1, none⟩) (W.cell? ⟨b, off + i * 10 + 2, none⟩) (W.cell? ⟨b, off + i * 10 + 3, none⟩) (W.cell? ⟨b, off + i * 10 + 4, none⟩)
      (W.cell? ⟨b, off + i * 10 + 5, none⟩) (W.cell? ⟨b, off + i * 10 + 6, none⟩) (W.cell? ⟨b, off + i * 10 + 7, none⟩) (W.cell? ⟨b, off + i * 10 + 8, none⟩) (W.cell? ⟨b, off + i * 10 + 9, none⟩) p) len4 0 (fun k hk => by
    obtain ⟨b, off, cs', y, f1, f2, f3, f4, f5, f6⟩ := hel k hk
    obtain ⟨u0, u1, u2, u3, u4, u5, u6, u7, u8, u9, r, rfl, hr⟩ := rule_open f5 f6
    rw [cellsN.2.2.1] at f4
    rw [Nat.zero_add]
    refine ⟨r, b, off, f1, f2, ?_⟩
    have g0 := f4 0 (by decide)
    rw [Nat.add_zero] at g0
    rw [g0, f4 1 (by decide), f4 2 (by decide), f4 3 (by decide), f4 4 (by decide), f4 5 (by decide), f4 6 (by decide), f4 7 (by decide), f4 8 (by decide), f4 9 (by decide)]
    exact hr)
  subst hl
  refine ⟨_, _, _, _, ⟨nm, q0, q1, l⟩, congrArg Value.agg (Array.ext' hcs), ?_⟩
  exact ⟨rfl, l0, rfl, rfl, ⟨a0, c0⟩, ⟨a1, c1⟩, a4, cap4, rfl, l4, RulesAt.of l 0 hq⟩
end
end Go.Proofs.YtgegjjfjhpokpaaGreatDoor

/- An Ask that is handed in reads as such. -/
namespace Go.Proofs.YtgegjjfjhpokpaaGreatDoor
open Go.RowKit Go.ChangeShapes Go.WideShapes

section
variable {H : Type} {enc : TypeId × Value → H} {w : World} {base : Nat} {spare : Nat → Bool} {held : Bool}

theorem scells : Tryz.prog.cellsOf 3 = 1 ∧ Tryz.prog.cellsOf 22 = 1 ∧ Tryz.prog.cellsOf 24 = 4 ∧ 1 ≤ Tryz.prog.bytesOf 3 :=
  ⟨by kernel_rfl, by kernel_rfl, by kernel_rfl, of_decide_eq_true (by kernel_rfl)⟩
theorem sints_open {fuel : Nat} {cs : List Value} {x : DataW H × List MemPlace} (h : DataW.trod enc Tryz.prog w base spare held fuel 22 cs = some x) (hw : Light Tryz.prog 22 x.1) :
    ∃ a cap, ∃ l : List Int, cs = [.slice a l.length cap] ∧ l.length ≤ reachN ∧ IntsAt w w.heap.size a l := by
  obtain ⟨a, len, cap, n, -, rfl, hlen, hel⟩ := trod_elems Tryz.underlying22 scells.2.2.2 (by rw [scells.1]; decide) h hw
  obtain ⟨l, hl, hq⟩ := row_of (Q := fun i (p : Int) => ∃ b off, a = some ⟨b, off, none⟩ ∧ b < w.heap.size ∧ w.cell? ⟨b, off + i, none⟩ = some (.int .i64 p)) len 0 (fun k hk => by
    obtain ⟨b, off, cs', y, e1, e2, e3, e4, e5, e6⟩ := hel k hk
    obtain ⟨p, rfl, -⟩ := light_int Tryz.underlying3 e5
    rw [scells.1] at e4
    rw [Nat.zero_add]
    have := e4 0 (by decide)
    rw [Nat.mul_one, Nat.add_zero] at this
    exact ⟨p, b, off, e1, e2, this⟩)
  subst hl
  refine ⟨a, cap, l, rfl, hlen, fun k hk => ?_⟩
  obtain ⟨b, off, h1, h2, h3⟩ := hq k hk
  rw [Nat.zero_add] at h3
  exact ⟨b, off, h1, h2, h3⟩
set_option maxRecDepth 20000 in
theorem ask27_open {W : World} {v : Value} {d : DataW H} {ps : List MemPlace} {b0 : Nat} (hval : Value.okWide Tryz.prog W .any b0 24 v) (h : DataW.Trod enc Tryz.prog W base spare held 24 v d ps) (hw : Light Tryz.prog 24 d) :
    ∃ (a b c : Int) (ya : Option Addr) (yc : Nat) (l : List Int), v = .agg #[.int .i64 a, .int .i64 b, .int .i64 c, .slice ya l.length yc] ∧ l.length ≤ reachN ∧ IntsAt W W.heap.size ya l ∧ InI64 a ∧ InI64 b ∧ InI64 c := by
  obtain ⟨cs, rfl, hsz⟩ := okWide_struct Tryz.underlying24 hval
  obtain ⟨fuel, h⟩ := h
  obtain ⟨n, rfl, hl, hf⟩ := trod_fields Tryz.underlying24 h hw
  rw [scells.2.2.1] at hl
  obtain ⟨v0, v1, v2, v3, hcs⟩ := list4 hl
  rw [hcs] at hf
  obtain ⟨y0, h0, -⟩ := hf 0 3 0 1 rfl scells.1
  obtain ⟨y1, h1, -⟩ := hf 1 3 1 1 rfl scells.1
  obtain ⟨y2, h2, -⟩ := hf 2 3 2 1 rfl scells.1
  obtain ⟨y3, h3, w3⟩ := hf 3 22 3 1 rfl scells.2.1
  obtain ⟨p, e0, p0, p1⟩ := light_int Tryz.underlying3 h0
  obtain ⟨q, e1, q0, q1⟩ := light_int Tryz.underlying3 h1
  obtain ⟨r, e2, r0, r1⟩ := light_int Tryz.underlying3 h2
  obtain ⟨ya, yc, l, e3, hlen, hin⟩ := sints_open h3 w3
  simp at e0 e1 e2 e3
  subst e0 e1 e2 e3
  exact ⟨p, q, r, ya, yc, l, congrArg Value.agg (Array.ext' hcs), hlen, hin, ⟨p0, p1⟩, ⟨q0, q1⟩, ⟨r0, r1⟩⟩
end
end Go.Proofs.YtgegjjfjhpokpaaGreatDoor

/- The shutting of a row whose function leaves old memory as it was: what it answers, and that its arguments read as they did. -/
namespace Go.Proofs.YtgegjjfjhpokpaaGreatDoor
open Go.ChangeShapes Go.WideShapes Go.RowKit
section
variable {H : Type} {enc : TypeId × Value → H} {P : Program}

/-- below the heap's old size nothing has turned, a bool is answered: the row's post -/
theorem post_below {f : Func} {s : ChangeSpec} {fresh handsOn again : Bool} {W W' : World} {args : Array Value} {v : Value} {ds gs : List (DataW H)} {before : List MemPlace} (hb : Below W.heap.size W W')
    (hW : DataW.Whole enc P f.params.toList s.vars false W args.toList ds gs before)
    (hres : ∀ (b : Nat) (sp : Nat → Bool) (hd : Bool), DataW.TrodAll enc P W' b sp hd f.resultTypes.toList (v.resultList f.resultTypes.size) (s.fn H (ds ++ gs)).results [])
    (hargs : ∀ sp : Nat → Bool, (∀ p ∈ before, sp p.block = true) → DataW.TrodAll enc P W' 0 sp true f.params.toList args.toList (s.fn H (ds ++ gs)).args before)
    (hvars : ∀ sp : Nat → Bool, DataW.TrodVars enc P W' sp s.vars (s.fn H (ds ++ gs)).vars [])
    (hok : ∀ (j : Nat) (t : TypeId) (r : Value), f.resultTypes[j]? = some t → (v.resultList f.resultTypes.size)[j]? = some r → Value.okWide P W' .any 0 t r) :
    s.post enc P f false fresh handsOn again W args v W' := by
  have hlt := hW.lt
  have hold : ∀ p ∈ before, (fun b => decide (b < W.heap.size)) p.block = true := fun p hp => by simpa using hlt p hp
  refine ⟨ds, gs, before, [], before, [], hW, hres _ _ _, hargs _ hold, hvars _, World.keptBut_mono (fun p hp => ⟨hp, Or.inr (Or.inl hp)⟩) (hb.frame _), fun _ => ?_⟩
  obtain ⟨_, _, _, _, _, hz, hn⟩ := hW
  refine ⟨hok, _, _, ([] ++ before) ++ [], ⟨[] ++ before, [], trodAll_append (hargs _ (fun _ _ => rfl)) (hres _ _ _), hvars _, rfl, ?_, fun h => (Bool.noConfusion h)⟩, ?_⟩
  · intro b off hp
    have hp' : MemPlace.cell b off ∈ before := by simpa using hp
    rw [hb.frozen (p := ⟨b, off, none⟩) (hlt _ hp')]
    exact hz b off hp'
  · intro p hp _
    simpa using hp
end
end Go.Proofs.YtgegjjfjhpokpaaGreatDoor

/- SamplesWhole's tied card: it answers true whatever comes in, which reads as it did; the variables that the row lists hold what the program's text lays. -/
namespace Go.Proofs.YtgegjjfjhpokpaaGreatDoor
open Go.ChangeShapes Go.WideShapes Go.ChangeAt Go.RowKit

theorem swown : ownKnob Tryz.prog.godebug = none := by kernel_rfl
theorem swlaidOut : laidOutB Tryz.prog = true := by kernel_rfl

set_option maxRecDepth 100000 in
theorem sw_tabs {W : World} (h : laidMetH Tryz.prog Rows.samplesWholeRow.laid W) : Lib.Utf8Tabs 1 2 W := by
  rw [MakeChecks.laidMetH_plain Tryz.prog Rows.samplesWholeRow.laid W (by kernel_rfl)] at h
  exact utf8Tabs_of_reads (ρ := Tryz.lays260_ren) { Tryz.lays260 with } ⟨by kernel_rfl, by kernel_rfl, by kernel_rfl, by kernel_rfl, by kernel_rfl, by kernel_rfl, by kernel_rfl⟩
    (Pinned.utf8First_eq ▸ Lib.laidMet.reads h (by simp [Rows.samplesWholeRow, Rows.laid_unicode_utf8_first])) ((show Rows.laid_unicode_utf8_acceptRanges = Lib.acceptData by kernel_rfl) ▸ Lib.laidMet.reads h (by simp [Rows.samplesWholeRow]))

set_option maxRecDepth 20000 in
theorem sw_contract (H : Type) (enc : TypeId × Value → H) (W : World) (base : Nat) (args : Array Value) (ds gs : List (DataW H)) (before : List MemPlace)
    (hval : ∀ (j : Nat) t v, Tryz.f4.params[j]? = some t → args[j]? = some v → Value.okWide Tryz.prog W .any base t v)
    (hW : DataW.Whole enc Tryz.prog Tryz.f4.params.toList Rows.samplesWholeSpec.vars false W args.toList ds gs before)
    (hL : (DataW.weightsEach Tryz.prog (Tryz.f4.params.toList ++ (OpenSpec.ofChange Rows.samplesWholeSpec).bare.plain.varTypes Tryz.prog) (ds ++ gs)).all (· ≤ reachBytes) = true)
    (hT : laidMetH Tryz.prog Rows.samplesWholeRow.laid W) :
    Calls Tryz.prog 4 args W fun e W' => ∃ v, e = .returned v ∧ Rows.samplesWholeSpec.post enc Tryz.prog Tryz.f4 false true false false W args v W' := by
  have hW' := hW
  obtain ⟨p, q, hA0, hV, rfl, hfz, hnd⟩ := hW
  have hA : DataW.TrodAll enc Tryz.prog W 0 (fun _ => true) true Tryz.f4.params.toList args.toList ds p := hA0
  rw [Tryz.params4] at hA hval hL
  obtain ⟨v0, v1, d0, d1, p0, p1, rfl, rfl, rfl, h0, h1⟩ := trodAll_two hA
  obtain ⟨rfl, rfl⟩ := trodVars_none hV
  have hL' : ∀ i t d, (#[46, 24] : Array TypeId).toList[i]? = some t → ([d0, d1] : List _)[i]? = some d → Light Tryz.prog t d := fun i t d ht hd => by
    simp only [List.all_eq_true, decide_eq_true_eq] at hL
    exact light_each ((#[46, 24] : Array TypeId).toList ++ (OpenSpec.ofChange Rows.samplesWholeSpec).bare.plain.varTypes Tryz.prog) ([d0, d1] ++ []) hL i t d (by rw [List.getElem?_append_left (by have := (List.getElem?_eq_some_iff.1 ht).1; exact this)]; exact ht) (by rw [List.append_nil]; exact hd)
  have h0k := h0
  have h1k := h1
  obtain ⟨z0, z1, z2, z3, g, rfl, hG⟩ := gr_open (hval 0 46 v0 rfl rfl) h0 (hL' 0 _ _ rfl rfl)
  obtain ⟨x0, x1, x2, ya, yc, l, rfl, -, hi, w0, -, -⟩ := ask27_open (hval 1 24 v1 rfl rfl) h1 (hL' 1 _ _ rfl rfl)
  clear hA0
  simp only [List.append_nil] at hW'
  refine (whole27_ok g x0 x1 x2 ya yc l W (sw_tabs hT) z0 z1 z2 z3 hG hi w0).mono fun e W' ⟨he, hb⟩ => ?_
  subst he
  have hlt := hW'.lt
  refine ⟨_, rfl, post_below hb hW' (fun _ _ _ => trodAll_cons_mk (shut_bool Tryz.underlying4 _) trodAll_mk0) (fun sp hsp => ?_) (fun _ => rfl) (ok_one (by kernel_rfl) rfl (okWide_bool_mk Tryz.underlying4 _))⟩
  have h3 := trodAll_mk2 (WideElems.Trod_stays swlaidOut (by kernel_rfl) (of_decide_eq_true (by kernel_rfl)) h0k (fun y hy => hb.same (hlt y (by simp [hy]))) (fun y hy => hsp y (by simp [hy]))) (WideElems.Trod_stays swlaidOut (by kernel_rfl) (of_decide_eq_true (by kernel_rfl)) h1k (fun y hy => hb.same (hlt y (by simp [hy]))) (fun y hy => hsp y (by simp [hy])))
  first
    | exact h3
    | (simp only [List.append_nil, List.append_assoc] at h3 ⊢; exact h3)
    | simpa using h3

theorem sw_lays (os : Os) (args : Array Value) : laidMet Tryz.prog Rows.samplesWholeRow.laid ((World.laidAll Tryz.prog os Rows.samplesWholeRow.laid).forCall (fun _ _ => 0) ⟨#[], args, []⟩).memory :=
  laidMet_laidAll _ (by kernel_rfl) (by kernel_rfl)
theorem sw_reads (os : Os) {H : Type} (enc : TypeId × Value → H) : ∃ places, DataW.whole enc Tryz.prog ((World.laidAll Tryz.prog os Rows.samplesWholeRow.laid).forCall (fun _ _ => 0) ⟨#[], #[.agg #[.string .empty, .int .i64 0, .int .i64 0, .slice none 0 0], .agg #[.int .i64 0, .int .i64 0, .int .i64 0, .slice none 0 0]], []⟩).memory Tryz.f4.params.toList Rows.samplesWholeSpec.vars false (#[.agg #[.string .empty, .int .i64 0, .int .i64 0, .slice none 0 0], .agg #[.int .i64 0, .int .i64 0, .int .i64 0, .slice none 0 0]] : Array Value).toList 8 = some ([.agg [.lit (.string []), .agg [.lit (.int .i64 0), .lit (.int .i64 0)], .nil], .agg [.lit (.int .i64 0), .lit (.int .i64 0), .lit (.int .i64 0), .nil]], [], places) :=
  ⟨[], by kernel_rfl⟩

set_option maxRecDepth 100000 in
theorem sw_lifted (os : Os) (started : os.Started) (H : Type) (enc : TypeId × Value → H) (F : Stop.Interp) :
    ReturnsInHanded {} Tryz.checked os 4 .any ((OpenSpec.ofChange Rows.samplesWholeSpec).preRow enc Tryz.prog Tryz.f4 Rows.samplesWholeRow.domain false Rows.samplesWholeRow.laid) (((OpenSpec.ofChange Rows.samplesWholeSpec).at F).post enc Tryz.prog Tryz.f4 false true false false) := by
  obtain ⟨places, hx⟩ := sw_reads os enc
  have hok : Input.okWideB Tryz.prog ((World.laidAll Tryz.prog os Rows.samplesWholeRow.laid).forCall (fun _ _ => 0) ⟨#[], #[.agg #[.string .empty, .int .i64 0, .int .i64 0, .slice none 0 0], .agg #[.int .i64 0, .int .i64 0, .int .i64 0, .slice none 0 0]], []⟩) 4 ⟨#[], #[.agg #[.string .empty, .int .i64 0, .int .i64 0, .slice none 0 0], .agg #[.int .i64 0, .int .i64 0, .int .i64 0, .slice none 0 0]], []⟩ = true := by kernel_rfl
  refine returnsInHanded_of_row (C := Tryz.checked) (s := OpenSpec.ofChange Rows.samplesWholeSpec) swown started (by kernel_rfl) Tryz.func4
    ⟨World.laidAll Tryz.prog os Rows.samplesWholeRow.laid, fun _ _ => 0, ⟨#[], #[.agg #[.string .empty, .int .i64 0, .int .i64 0, .slice none 0 0], .agg #[.int .i64 0, .int .i64 0, .int .i64 0, .slice none 0 0]], []⟩, World.laidAll_os _ _ _, World.shaped_of_ZipB (by kernel_rfl) (by kernel_rfl), (Input.okWide_of_okWideB (base := 0) hok).1, (Input.okWide_of_okWideB hok).2,
      OpenSpec.preRow_of_cond 8 hx (by kernel_rfl) (fun k hk => by cases hk) (by kernel_rfl) (sw_lays os _), by
        simp only [Assume.holds]
        exact ⟨by simp, by simp, fun _ => Modest.zero, by simp, by simp⟩⟩ ?_
  intro W base args ds gs before hval hW _ _ hw hT _ _
  exact sw_contract H enc W base args ds gs before hval hW hw hT

theorem sw_row : Rows.SamplesWholeSaid :=
  OpenClaim.holds_of_cond 4 Tryz.f4 rfl rfl rfl rfl rfl rfl rfl ⟨rfl, rfl, rfl, rfl, rfl⟩ rfl rfl rfl rfl rfl (by kernel_rfl) Tryz.func4 (by kernel_rfl)
    (of_decide_eq_true (by kernel_rfl)) (by unfold Func.isWrapper; first | (rw [if_pos (by decide +kernel)]; kernel_rfl) | (rw [if_neg (by decide +kernel)]; exact ⟨rfl, rfl⟩))
    (fun os started H enc _ F => by rw [OpenClaim.pre_eq_preRow]; exact sw_lifted os started H enc F)

theorem sw_plain (f : FuncId) (fn : Func) (hf : Tryz.pinned.checked.prog.funcNamed "harbinger/harbingerlaw27.SamplesWhole" = some f) (hfn : Tryz.pinned.checked.prog.funcs[f]? = some fn) :
    false = Tryz.pinned.checked.prog.looks [] ∧ ∀ (j : Nat) t, fn.params[j]? = some t → Tryz.pinned.checked.prog.wantsStandIn t = false := by
  obtain rfl : f = 4 := Option.some.inj ((show Tryz.prog.funcNamed "harbinger/harbingerlaw27.SamplesWhole" = some 4 by kernel_rfl).symm.trans hf) |>.symm
  obtain rfl : fn = Tryz.f4 := (Option.some.inj (Tryz.func4.symm.trans hfn)).symm
  refine ⟨by kernel_rfl, fun j t ht => ?_⟩
  rw [Tryz.params4] at ht
  have hm : t ∈ ([46, 24] : List TypeId) := by simpa using Array.mem_of_getElem? ht
  simp only [List.mem_cons, List.not_mem_nil, or_false] at hm
  rcases hm with rfl | rfl
  · exact (show Tryz.prog.wantsStandIn 46 = false by kernel_rfl)
  · exact (show Tryz.prog.wantsStandIn 24 = false by kernel_rfl)

/-- WHAT IS ASKED: SamplesWhole's card. -/
theorem samplesWhole_card : Rows.SamplesWholeCardSaid :=
  Claim7.holds_tied_plain_at .later [] _ _ _ _ sw_row (fun _ h => by cases h) (by kernel_rfl) (fun _ h => by cases h) samplesWhole_row_tie rfl ⟨rfl, rfl⟩ (by kernel_rfl) rfl sw_plain (by kernel_rfl)
end Go.Proofs.YtgegjjfjhpokpaaGreatDoor
