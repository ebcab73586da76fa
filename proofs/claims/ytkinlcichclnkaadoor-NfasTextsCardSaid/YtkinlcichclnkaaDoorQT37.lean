/- SameNums and SameRanges, of lists that are one. -/
import Derived.Test.YtkinlcichclnkaaDoorQT36
import Derived.Test.YtkinlcichclnkaaDoorQT7
import Derived.Test.YtkinlcichclnkaaDoorQT10
namespace Go.Proofs.YtkinlcichclnkaaDoor
open Go.RowKit

theorem grew_drewN8 (W : World) (n : Nat) : Grew W (W.drewN n) := by
  induction n with
  | zero => exact Below.refl _ _
  | succ n ih => exact Below.trans ih ⟨rfl, rfl, rfl, Nat.le_refl _, fun _ _ => rfl⟩
theorem loose_le {w : World} {base e size n : Nat} {v : Value} {xs : List Value} (h : looseRow w base e size v n xs) : n ≤ maxLen := by
  rcases h.2 with ⟨_, h0⟩ | ⟨g, cap, cur, h1, h2, h3, h4, h5, h6⟩
  · omega
  · omega
theorem rgs_at {w : World} {lim : Nat} {v : Value} {l : List (Int × Int)} {i : Nat} (h : looseRow w lim 58 2 v l.length (rgVs l)) (hi : i < l.length) : ∃ g cap, v = .slice (some ⟨g, 0, none⟩) l.length cap ∧ g < w.heap.size ∧ w.cell? ⟨g, i * 2, none⟩ = some (.int .i32 l[i].1) ∧ w.cell? ⟨g, i * 2 + 1, none⟩ = some (.int .i32 l[i].2) := by
  rcases h.2 with ⟨_, h0⟩ | ⟨g, cap, cur, h1, h2, h3, h4⟩
  · omega
  · have hx : l[i]? = some l[i] := List.getElem?_eq_getElem hi
    refine ⟨g, cap, h1, (Array.getElem?_eq_some_iff.1 h3).1, ?_, ?_⟩
    · refine looseRow_cells h (g := g) (by rw [h1]; rfl) (i * 2) _ ?_
      have := fmap_get rgF 2 rgF_len l i 0 (by omega)
      rw [hx] at this
      exact this
    · refine looseRow_cells h (g := g) (by rw [h1]; rfl) (i * 2 + 1) _ ?_
      have := fmap_get rgF 2 rgF_len l i 1 (by omega)
      rw [hx] at this
      exact this
set_option maxHeartbeats 1000000 in
set_option maxRecDepth 20000 in
theorem nsameI_ok (l : List Int) (W : World) (v u : Value) (hv : looseRow W 0 3 1 v l.length (intVs l)) (hu : looseRow W 0 3 1 u l.length (intVs l)) :
    Calls Tryd.prog 22 #[v, u] W fun e W' => e = .returned (.bool true) ∧ Grew W W' := by
  have hl := loose_le hv
  unfold maxLen at hl
  have HV := Lib.hid hv
  have HU := Lib.hid hu
  obtain ⟨a, ca, rfl⟩ := loose_form hv
  obtain ⟨b, cb, rfl⟩ := loose_form hu
  clear hv hu
  go_enter Tryd.func22, Tryd.ntmps22
  have hne : ((l.length : Int) != (l.length : Int)) = false := by simp
  go_wp2
  go_loopw [5] (fun i wr => ∃ (j : Nat), i = .int .i64 j ∧ j ≤ l.length ∧ Hid (Grew W wr)) (fun i _ => l.length - (intOf i).toNat)
  case atStart => exact ⟨0, rfl, by omega, Grew.refl W⟩
  case round =>
    obtain ⟨j, rfl, hj, hbw⟩ := hrel
    by_cases hlt : j < l.length
    · obtain ⟨g1, c1, e1, l1, d1⟩ := ints_at ((But.of_grew (F := fun _ => False) hbw.out).row HV.out fun _ _ e => e) hlt
      obtain ⟨g2, c2, e2, l2, d2⟩ := ints_at ((But.of_grew (F := fun _ => False) hbw.out).row HU.out fun _ _ e => e) hlt
      simp only [Value.slice.injEq, true_and] at e1 e2
      obtain ⟨rfl, rfl⟩ := e1
      obtain ⟨rfl, rfl⟩ := e2
      have hne2 : (l[j] != l[j]) = false := by simp
      go_wp2_with fail
      refine wp_region_hav_lit follows (by kernel_rfl) ?_
      repeat (first
        | (refine HavG.skip (fun _ => rfl) ?_; simp only [Act.put, List.setIfInBounds_toArray, List.set_cons_zero, List.set_cons_succ])
        | (refine HavG.val (fun _ => rfl) ?_ (fun x w hw _ => ?_) ?_; rotate_left; (focus (have hc := hw.cells; clear hw; go_simp; first | done | rfl)); simp only [Act.put, List.setIfInBounds_toArray, List.set_cons_zero, List.set_cons_succ]))
      refine HavG.tail (by kernel_rfl) (by kernel_rfl) (fun x w2 hw _ => ?_)
      have HW := Lib.hid hw
      clear hw
      go_wp2_with fail
      go_round
      case rel => exact ⟨j + 1, by go_num, by omega, hbw.out.trans HW.out⟩
      case measure => simp [intOf]; omega
    · go_wp2_with fail
      go_ret
      exact ⟨rfl, hbw.out⟩
theorem nsameNums_ok (l : List Int) (W : World) (v u : Value) (hv : looseRow W 0 3 1 v l.length (intVs l)) (hu : looseRow W 0 3 1 u l.length (intVs l)) :
    Calls Tryd.prog 8 #[v, u] W fun e W' => e = .returned (.bool true) ∧ Grew W W' := by
  have HS := Lib.hid (nsameI_ok l W v u hv hu)
  obtain ⟨a, ca, rfl⟩ := loose_form hv
  obtain ⟨b, cb, rfl⟩ := loose_form hu
  clear hv hu
  go_enter Tryd.func8, Tryd.ntmps8
  go_wp2_with (go_at_call 22; refine HS.out.mono ?_; rintro e w' ⟨rfl, hb⟩)
  go_ret
  exact ⟨rfl, hb⟩
set_option maxHeartbeats 1000000 in
set_option maxRecDepth 20000 in
theorem nsameR_ok (l : List (Int × Int)) (W : World) (v u : Value) (hv : looseRow W 0 58 2 v l.length (rgVs l)) (hu : looseRow W 0 58 2 u l.length (rgVs l)) :
    Calls Tryd.prog 23 #[v, u] W fun e W' => e = .returned (.bool true) ∧ Grew W W' := by
  have hl := loose_le hv
  unfold maxLen at hl
  have HV := Lib.hid hv
  have HU := Lib.hid hu
  obtain ⟨a, ca, rfl⟩ := loose_form hv
  obtain ⟨b, cb, rfl⟩ := loose_form hu
  clear hv hu
  go_enter Tryd.func23, Tryd.ntmps23
  have hne : ((l.length : Int) != (l.length : Int)) = false := by simp
  go_wp2
  go_loopw [5] (fun i wr => ∃ (j : Nat), i = .int .i64 j ∧ j ≤ l.length ∧ Hid (Grew W wr)) (fun i _ => l.length - (intOf i).toNat)
  case atStart => exact ⟨0, rfl, by omega, Grew.refl W⟩
  case round =>
    obtain ⟨j, rfl, hj, hbw⟩ := hrel
    by_cases hlt : j < l.length
    · obtain ⟨g1, c1, e1, l1, d1, d1'⟩ := rgs_at ((But.of_grew (F := fun _ => False) hbw.out).row HV.out fun _ _ e => e) hlt
      obtain ⟨g2, c2, e2, l2, d2, d2'⟩ := rgs_at ((But.of_grew (F := fun _ => False) hbw.out).row HU.out fun _ _ e => e) hlt
      simp only [Value.slice.injEq, true_and] at e1 e2
      obtain ⟨rfl, rfl⟩ := e1
      obtain ⟨rfl, rfl⟩ := e2
      generalize l[j] = y at *
      obtain ⟨y1, y2⟩ := y
      have q1 : ((y1 : Int) == (y1 : Int)) = true := beq_self_eq_true _
      have q2 : ((y2 : Int) == (y2 : Int)) = true := beq_self_eq_true _
      go_wp2_with fail
      go_quiet (fail)
      go_wp2_with fail
      go_round
      case rel => exact ⟨j + 1, by go_num, by omega, hbw.out.trans (grew_drewN8 _ _)⟩
      case measure => simp [intOf]; omega
    · go_wp2_with fail
      go_ret
      exact ⟨rfl, hbw.out⟩
theorem nsameRanges_ok (l : List (Int × Int)) (W : World) (v u : Value) (hv : looseRow W 0 58 2 v l.length (rgVs l)) (hu : looseRow W 0 58 2 u l.length (rgVs l)) :
    Calls Tryd.prog 9 #[v, u] W fun e W' => e = .returned (.bool true) ∧ Grew W W' := by
  have HS := Lib.hid (nsameR_ok l W v u hv hu)
  obtain ⟨a, ca, rfl⟩ := loose_form hv
  obtain ⟨b, cb, rfl⟩ := loose_form hu
  clear hv hu
  go_enter Tryd.func9, Tryd.ntmps9
  go_wp2_with (go_at_call 23; refine HS.out.mono ?_; rintro e w' ⟨rfl, hb⟩)
  go_ret
  exact ⟨rfl, hb⟩
end Go.Proofs.YtkinlcichclnkaaDoor

/- some, one, step, holds of chapter 8's statements: rows of bools. -/
namespace Go.Proofs.YtkinlcichclnkaaDoor
open Go.RowKit

/-- a row of bools -/
def BRow (W : World) (v : Value) (l : List Bool) : Prop := looseRow W 0 4 1 v l.length (l.map .bool)
theorem BRow.grew {W W' : World} {v : Value} {l : List Bool} (h : BRow W v l) (hg : Grew W W') : BRow W' v l := (But.of_grew (F := fun _ => False) hg).row h fun _ _ e => e
theorem brow_at {w : World} {v : Value} {l : List Bool} {i : Nat} (h : BRow w v l) (hi : i < l.length) : ∃ g cap, v = .slice (some ⟨g, 0, none⟩) l.length cap ∧ g < w.heap.size ∧ w.cell? ⟨g, i, none⟩ = some (.bool l[i]) := by
  rcases h.2 with ⟨_, h0⟩ | ⟨g, cap, cur, h1, h2, h3, h4⟩
  · omega
  · refine ⟨g, cap, h1, (Array.getElem?_eq_some_iff.1 h3).1, ?_⟩
    refine looseRow_cells h (g := g) (by rw [h1]; rfl) i _ ?_
    rw [List.getElem?_map, List.getElem?_eq_getElem hi]
    rfl
theorem brow_form {w : World} {v : Value} {l : List Bool} (h : BRow w v l) : ∃ a c, v = .slice a l.length c := loose_form h
theorem owns_bools {w : World} {b : Nat} {l : List Bool} (h : Owns w b (l.map .bool) 4) (hl : l.length ≤ 1000000) : BRow w (.slice (some ⟨b, 0, none⟩) l.length l.length) l := by
  have hz : (l.map Value.bool).length = l.length := List.length_map ..
  exact ⟨by rw [hz]; omega, .inr ⟨b, l.length, (l.map Value.bool).toArray, rfl, Nat.zero_le _, h, Nat.le_refl _, by unfold maxLen; omega, by rw [List.size_toArray, hz]; omega, by simp [hz, List.take_of_length_le]⟩⟩
/-- runes -/
def RunesAt (W : World) (lim : Nat) (a : Option Addr) (l : List Int) : Prop := ∀ i (h : i < l.length), ∃ b off, a = some ⟨b, off, none⟩ ∧ b < lim ∧ W.cell? ⟨b, off + i, none⟩ = some (.int .i32 l[i])
theorem RunesAt.keep {W W' : World} {lim : Nat} {a : Option Addr} {l : List Int} (h : RunesAt W lim a l) (hb : Below lim W W') : RunesAt W' lim a l := fun i hi => by
  obtain ⟨b, off, h1, h2, h3⟩ := h i hi
  exact ⟨b, off, h1, h2, (hb.cell h2).trans h3⟩
theorem RunesAt.mono {W : World} {lim lim' : Nat} {a : Option Addr} {l : List Int} (h : RunesAt W lim a l) (hl : lim ≤ lim') : RunesAt W lim' a l := fun i hi => by
  obtain ⟨b, off, h1, h2, h3⟩ := h i hi
  exact ⟨b, off, h1, Nat.lt_of_lt_of_le h2 hl, h3⟩
def holdsB (set : List (Int × Int)) (r : Int) : Bool := set.any fun p => decide (p.1 ≤ r) && decide (r ≤ p.2)
theorem holdsB_iff (set : List (Int × Int)) (r : Int) : holdsB set r = true ↔ holdsR set r := by
  unfold holdsB holdsR
  rw [List.any_eq_true]
  simp
theorem any_take {α : Type} (q : α → Bool) (l : List α) {j : Nat} (h : j < l.length) : (l.take (j + 1)).any q = ((l.take j).any q || q l[j]) := by
  rw [List.take_succ_eq_append_getElem h, List.any_append]
  simp
set_option maxHeartbeats 1000000 in
set_option maxRecDepth 20000 in
theorem holds8_ok (set : List (Int × Int)) (r : Int) (hl : set.length ≤ 9223372036854775807) (W : World) (a : Option Addr) (c : Nat) (hA : RangesAt W W.heap.size a 0 set) :
    Calls Tryd.prog 11 #[.slice a set.length c, .int .i32 r] W fun e W' => e = .returned (.bool (holdsB set r)) ∧ Grew W W' := by
  have HA := Lib.hid hA
  clear hA
  go_enter Tryd.func11, Tryd.ntmps11
  go_wp2
  go_loopw [5] (fun i wr => ∃ (j : Nat), i = .int .i64 j ∧ j ≤ set.length ∧ wr = W ∧ Hid ((set.take j).any (fun p => decide (p.1 ≤ r) && decide (r ≤ p.2)) = false)) (fun i _ => set.length - (intOf i).toNat)
  case atStart => exact ⟨0, rfl, by omega, rfl, rfl⟩
  case round =>
    obtain ⟨j, rfl, hj, rfl, HF⟩ := hrel
    by_cases hlt : j < set.length
    · obtain ⟨b, off, rfl, hb, c0, c1⟩ := HA.out.getS hlt
      simp only [Nat.zero_add] at c0 c1
      have hst := any_take (fun p : Int × Int => decide (p.1 ≤ r) && decide (r ≤ p.2)) set hlt
      rw [HF.out, Bool.false_or] at hst
      have HST := Lib.hid hst
      have hmem := List.getElem_mem hlt
      have HMEM := Lib.hid hmem
      clear hst hmem
      by_cases h1 : set[j].1 ≤ r
      · by_cases h2 : r ≤ set[j].2
        · have hres : holdsB set r = true := by
            unfold holdsB
            rw [List.any_eq_true]
            exact ⟨_, HMEM.out, by simp [h1, h2]⟩
          have HRES := Lib.hid hres
          have d1 : decide (set[j].1 ≤ r) = true := decide_eq_true h1
          have d2 : decide (r ≤ set[j].2) = true := decide_eq_true h2
          clear hres
          go_wp2_with fail
          go_ret
          exact ⟨ret_bool HRES.out.symm, Grew.refl _⟩
        · have d1 : decide (set[j].1 ≤ r) = true := decide_eq_true h1
          have d2 : decide (r ≤ set[j].2) = false := decide_eq_false h2
          have hn : Hid ((set.take (j + 1)).any (fun p => decide (p.1 ≤ r) && decide (r ≤ p.2)) = false) := Lib.hid (by rw [HST.out, d2, Bool.and_false])
          go_wp2_with fail
          go_round
          case rel => exact ⟨j + 1, by go_num, by omega, trivial, hn⟩
          case measure => simp [intOf]; omega
      · have d1 : decide (set[j].1 ≤ r) = false := decide_eq_false h1
        have hn : Hid ((set.take (j + 1)).any (fun p => decide (p.1 ≤ r) && decide (r ≤ p.2)) = false) := Lib.hid (by rw [HST.out, d1, Bool.false_and])
        go_wp2_with fail
        go_round
        case rel => exact ⟨j + 1, by go_num, by omega, trivial, hn⟩
        case measure => simp [intOf]; omega
    · have hres : holdsB set r = false := by
        have := HF.out
        rw [List.take_of_length_le (by omega)] at this
        exact this
      have HRES := Lib.hid hres
      clear hres
      go_wp2_with fail
      go_ret
      exact ⟨ret_bool HRES.out.symm, Grew.refl _⟩
set_option maxHeartbeats 1000000 in
set_option maxRecDepth 20000 in
theorem some8_ok (l : List Bool) (hl : l.length ≤ 1000000) (W : World) (v : Value) (hv : BRow W v l) :
    Calls Tryd.prog 24 #[v] W fun e W' => e = .returned (.bool (l.any id)) ∧ Grew W W' := by
  have HV := Lib.hid hv
  obtain ⟨a, c, rfl⟩ := brow_form hv
  clear hv
  go_enter Tryd.func24, Tryd.ntmps24
  go_wp2
  go_loopw [3] (fun i wr => ∃ (j : Nat), i = .int .i64 j ∧ j ≤ l.length ∧ wr = W ∧ Hid ((l.take j).any id = false)) (fun i _ => l.length - (intOf i).toNat)
  case atStart => exact ⟨0, rfl, by omega, rfl, rfl⟩
  case round =>
    obtain ⟨j, rfl, hj, rfl, HF⟩ := hrel
    by_cases hlt : j < l.length
    · obtain ⟨g, cap, e, hg, c0⟩ := brow_at HV.out hlt
      simp only [Value.slice.injEq, true_and] at e
      obtain ⟨rfl, rfl⟩ := e
      have hst := any_take id l hlt
      rw [HF.out, Bool.false_or, id] at hst
      have HST := Lib.hid hst
      have HMEM := Lib.hid (List.getElem_mem hlt)
      obtain ⟨x, hx⟩ : ∃ x, l[j] = x := ⟨_, rfl⟩
      rw [hx] at c0 HST HMEM
      clear hst hx
      cases x
      · go_wp2_with fail
        go_round
        case rel => exact ⟨j + 1, by go_num, by omega, trivial, HST⟩
        case measure => simp [intOf]; omega
      · have hres : l.any id = true := List.any_eq_true.2 ⟨true, HMEM.out, rfl⟩
        have HRES := Lib.hid hres
        clear hres
        go_wp2_with fail
        go_ret
        exact ⟨ret_bool HRES.out.symm, Grew.refl _⟩
    · have hres : l.any id = false := by
        have := HF.out
        rw [List.take_of_length_le (by omega)] at this
        exact this
      have HRES := Lib.hid hres
      clear hres
      go_wp2_with fail
      go_ret
      exact ⟨ret_bool HRES.out.symm, Grew.refl _⟩
/-- one of both holds -/
def oneB (a b : List Bool) : List Bool := (List.range a.length).map fun i => a.getD i false || b.getD i false
theorem oneB_len (a b : List Bool) : (oneB a b).length = a.length := by unfold oneB; rw [List.length_map, List.length_range]
/-- the first j are written -/
def part1 (f : Nat → Bool) (n j : Nat) : List Bool := (List.range n).map fun i => decide (i < j) && f i
theorem part1_len (f : Nat → Bool) (n j : Nat) : (part1 f n j).length = n := by unfold part1; rw [List.length_map, List.length_range]
theorem part1_zero (f : Nat → Bool) (n : Nat) : part1 f n 0 = List.replicate n false := by
  apply List.ext_getElem (by simp [part1])
  intro i h1 h2
  simp [part1]
theorem part1_next (f : Nat → Bool) (n j : Nat) : (part1 f n j).set j (f j) = part1 f n (j + 1) := by
  apply List.ext_getElem (by simp [part1])
  intro i h1 h2
  rw [List.getElem_set]
  by_cases e : j = i
  · subst e; simp [part1]
  · rw [if_neg e]
    have : (decide (i < j + 1)) = decide (i < j) := by
      by_cases h : i < j
      · rw [decide_eq_true h, decide_eq_true (by omega)]
      · rw [decide_eq_false h, decide_eq_false (by omega)]
    simp [part1, this]
theorem part1_all (f : Nat → Bool) (n : Nat) : part1 f n n = (List.range n).map f := by
  unfold part1
  refine List.map_congr_left fun i hi => ?_
  rw [decide_eq_true (List.mem_range.1 hi), Bool.true_and]
theorem part1_skip (f : Nat → Bool) (n j : Nat) (h : f j = false) : part1 f n (j + 1) = part1 f n j := by
  unfold part1
  refine List.map_congr_left fun i hi => ?_
  by_cases e : i = j
  · subst e; rw [h]; simp
  · have : (decide (i < j + 1)) = decide (i < j) := by
      by_cases h : i < j
      · rw [decide_eq_true h, decide_eq_true (by omega)]
      · rw [decide_eq_false h, decide_eq_false (by omega)]
    rw [this]
theorem map_boolN (l : List Bool) (i : Nat) (x : Bool) : (l.map Value.bool).set i (.bool x) = (l.set i x).map Value.bool := by rw [List.map_set]
set_option maxHeartbeats 2000000 in
set_option maxRecDepth 20000 in
theorem one8_ok (l m : List Bool) (hlm : m.length = l.length) (hl : l.length ≤ 1000) (W : World) (v u : Value) (hv : BRow W v l) (hu : BRow W u m) :
    Calls Tryd.prog 25 #[v, u] W fun e W' => ∃ x, e = .returned x ∧ BRow W' x (oneB l m) ∧ Grew W W' := by
  have HV := Lib.hid hv
  have HU := Lib.hid hu
  obtain ⟨a, ca, rfl⟩ := brow_form hv
  obtain ⟨b, cb, rfl⟩ := brow_form hu
  clear hv hu
  have hmb := make_bools l.length (by unfold reachN; omega) W
  obtain ⟨w1, hw1⟩ : ∃ w1, W.alloc (.cells (List.replicate l.length (.bool false)).toArray 4) = w1 := ⟨_, rfl⟩
  rw [hw1] at hmb
  obtain ⟨q, hq⟩ : ∃ q, W.heap.size = q := ⟨_, rfl⟩
  have G1 := Lib.hid (show Grew W w1 from hw1 ▸ grew_alloc W _)
  have O1 := Lib.hid (show Owns w1 q ((part1 (fun i => l.getD i false || m.getD i false) l.length 0).map .bool) 4 by
    rw [part1_zero, List.map_replicate, ← hq, ← hw1]
    exact Owns.alloc W _ _)
  have HQ := Lib.hid hq
  rw [hq] at hmb
  clear hw1 hq
  have HLM := Lib.hid hlm
  rw [hlm]
  obtain ⟨n, hn⟩ : ∃ n, l.length = n := ⟨_, rfl⟩
  have HN := Lib.hid hn
  rw [hn] at hmb hl O1 ⊢
  clear hlm hn
  go_enter Tryd.func25, Tryd.ntmps25
  go_wp2_with fail
  go_loopw [6] (fun i wr => ∃ (j : Nat), i = .int .i64 j ∧ j ≤ n ∧ Hid (But (fun k => k = q) w1 wr) ∧ Hid (Owns wr q ((part1 (fun i => l.getD i false || m.getD i false) n j).map .bool) 4)) (fun i _ => n - (intOf i).toNat)
  case atStart => exact ⟨0, rfl, by omega, But.refl _ _, O1.out⟩
  case round =>
    obtain ⟨j, rfl, hj, BR, OR⟩ := hrel
    by_cases hlt : j < n
    · have hjl : j < l.length := by rw [HN.out]; exact hlt
      have hjm : j < m.length := by rw [HLM.out]; exact hjl
      obtain ⟨g1, c1, e1, l1, d1⟩ := brow_at HV.out hjl
      obtain ⟨g2, c2, e2, l2, d2⟩ := brow_at HU.out hjm
      rw [HLM.out] at e2
      simp only [HN.out, Value.slice.injEq, true_and] at e1 e2
      obtain ⟨rfl, rfl⟩ := e1
      obtain ⟨rfl, rfl⟩ := e2
      have k1 : wr.cell? ⟨g1, j, none⟩ = some (.bool l[j]) := by
        rw [World.cell?_of_block (BR.out.block g1 (Nat.lt_of_lt_of_le l1 G1.out.size) (by have := HQ.out; omega)), G1.out.cells _ _ l1]
        exact d1
      have k2 : wr.cell? ⟨g2, j, none⟩ = some (.bool m[j]) := by
        rw [World.cell?_of_block (BR.out.block g2 (Nat.lt_of_lt_of_le l2 G1.out.size) (by have := HQ.out; omega)), G1.out.cells _ _ l2]
        exact d2
      have m1 : g1 < wr.heap.size := Nat.lt_of_lt_of_le (Nat.lt_of_lt_of_le l1 G1.out.size) BR.out.size
      have m2 : g2 < wr.heap.size := Nat.lt_of_lt_of_le (Nat.lt_of_lt_of_le l2 G1.out.size) BR.out.size
      have hlen : ((part1 (fun i => l.getD i false || m.getD i false) n j).map Value.bool).length = n := by rw [List.length_map, part1_len]
      obtain ⟨z, t0⟩ : ∃ z, wr.cell? ⟨q, j, none⟩ = some z := ⟨_, OR.out.cell_at (i := j) (List.getElem?_eq_getElem (by rw [hlen]; exact hlt))⟩
      have t1 := OR.out.free j
      have t2 := OR.out.lt
      have hset : ∀ x, x = (l.getD j false || m.getD j false) → But (fun k => k = q) w1 (wr.setCell ⟨q, j, none⟩ (.bool x)) ∧ Owns (wr.setCell ⟨q, j, none⟩ (.bool x)) q ((part1 (fun i => l.getD i false || m.getD i false) n (j + 1)).map .bool) 4 := fun x hx => by
        refine ⟨BR.out.trans (set_but OR.out) fun _ _ e => e, ?_⟩
        have := OR.out.set j (.bool x)
        rw [map_boolN, hx, part1_next (fun i => l.getD i false || m.getD i false) n j] at this
        exact hx ▸ this
      have HSET := Lib.hid hset
      have g3 : l.getD j false = l[j] := by rw [List.getD_eq_getElem?_getD, List.getElem?_eq_getElem hjl]; rfl
      have g4 : m.getD j false = m[j] := by rw [List.getD_eq_getElem?_getD, List.getElem?_eq_getElem hjm]; rfl
      have HG3 := Lib.hid g3
      have HG4 := Lib.hid g4
      generalize l[j] = x at *
      generalize m[j] = y at *
      clear hset hlen g3 g4 d1 d2 l1 l2 hjl hjm
      cases x <;> cases y
      all_goals
        go_wp2_with fail
        exact ⟨⟨j + 1, by go_num, by omega, (HSET.out _ (by rw [HG3.out, HG4.out]; rfl)).1, (HSET.out _ (by rw [HG3.out, HG4.out]; rfl)).2⟩, by simp [intOf]; omega⟩
    · obtain rfl : j = n := by omega
      go_wp2_with fail
      go_ret
      refine ⟨_, rfl, ?_, Below.trans G1.out (BR.out.below G1.out.size fun k e => by have := HQ.out; omega)⟩
      have h2 := OR.out
      rw [part1_all] at h2
      have := owns_bools h2 (by rw [List.length_map, List.length_range]; omega)
      rw [List.length_map, List.length_range] at this
      unfold oneB
      rw [HN.out]
      exact this
/-- over a rune of a set -/
def stepF (l : List Int) (set : List (Int × Int)) (inn : List Bool) (k : Nat) : Bool := match k with
  | 0 => false
  | k + 1 => inn.getD k false && holdsB set (l.getD k 0)
def stepB (l : List Int) (set : List (Int × Int)) (inn : List Bool) : List Bool := (List.range inn.length).map (stepF l set inn)
theorem stepB_len (l : List Int) (set : List (Int × Int)) (inn : List Bool) : (stepB l set inn).length = inn.length := by unfold stepB; rw [List.length_map, List.length_range]
set_option maxHeartbeats 2000000 in
set_option maxRecDepth 20000 in
theorem step8_ok (l : List Int) (set : List (Int × Int)) (inn : List Bool) (hin : inn.length = l.length + 1) (hl : l.length ≤ 1000) (hs : set.length ≤ 1000000) (W : World) (v : Value) (la : Option Addr) (lc : Nat) (sa : Option Addr) (sc : Nat) (hv : BRow W v inn) (hL : RunesAt W W.heap.size la l) (hA : RangesAt W W.heap.size sa 0 set) :
    Calls Tryd.prog 27 #[v, .slice la l.length lc, .slice sa set.length sc] W fun e W' => ∃ x, e = .returned x ∧ BRow W' x (stepB l set inn) ∧ Grew W W' := by
  have HV := Lib.hid hv
  obtain ⟨a, ca, rfl⟩ := brow_form hv
  clear hv
  have hmb := make_bools inn.length (by unfold reachN; omega) W
  obtain ⟨w1, hw1⟩ : ∃ w1, W.alloc (.cells (List.replicate inn.length (.bool false)).toArray 4) = w1 := ⟨_, rfl⟩
  rw [hw1] at hmb
  obtain ⟨q, hq⟩ : ∃ q, W.heap.size = q := ⟨_, rfl⟩
  have G1 := Lib.hid (show Grew W w1 from hw1 ▸ grew_alloc W _)
  have O1 := Lib.hid (show Owns w1 q ((part1 (stepF l set inn) inn.length 1).map .bool) 4 by
    rw [part1_skip _ _ 0 rfl, part1_zero, List.map_replicate, ← hq, ← hw1]
    exact Owns.alloc W _ _)
  have HQ := Lib.hid hq
  have HL := Lib.hid hL
  have HA := Lib.hid hA
  have HST : Hid (stepB l set inn = part1 (stepF l set inn) inn.length inn.length) := Lib.hid (part1_all _ _).symm
  rw [hq] at hmb
  clear hw1 hq hL hA
  obtain ⟨n, hn⟩ : ∃ n, l.length = n := ⟨_, rfl⟩
  have HN := Lib.hid hn
  have HIN := Lib.hid hin
  rw [hin, hn] at hmb O1 HST ⊢
  rw [hn] at hl
  have hmb2 := hmb
  rw [show ((n + 1 : Nat) : Int) = (n : Int) + 1 from rfl] at hmb2
  clear hin hn
  go_enter Tryd.func27, Tryd.ntmps27
  go_wp2_with fail
  go_loopw [8] (fun i wr => ∃ (j : Nat), i = .int .i64 j ∧ j ≤ n ∧ Hid (But (fun k => q ≤ k) w1 wr) ∧ Hid (Owns wr q ((part1 (stepF l set inn) (n + 1) (j + 1)).map .bool) 4)) (fun i _ => n - (intOf i).toNat)
  case atStart => exact ⟨0, rfl, by omega, But.refl _ _, O1.out⟩
  case round =>
    obtain ⟨j, rfl, hj, BR, OR⟩ := hrel
    by_cases hlt : j < n
    · have hji : j < inn.length := by rw [HIN.out, HN.out]; omega
      have hjl : j < l.length := by rw [HN.out]; exact hlt
      obtain ⟨g1, c1, e1, l1, d1⟩ := brow_at HV.out hji
      rw [HIN.out, HN.out] at e1
      simp only [Value.slice.injEq, true_and] at e1
      obtain ⟨rfl, rfl⟩ := e1
      obtain ⟨rb, ro, rfl, hrb, d2⟩ := HL.out j hjl
      have BW : Below W.heap.size W wr := Below.trans G1.out (BR.out.below G1.out.size fun k e => by have := HQ.out; omega)
      have k1 : wr.cell? ⟨g1, j, none⟩ = some (.bool inn[j]) := (BW.cell (p := ⟨g1, j, none⟩) l1).trans d1
      have k2 : wr.cell? ⟨rb, ro + j, none⟩ = some (.int .i32 l[j]) := (BW.cell (p := ⟨rb, ro + j, none⟩) hrb).trans d2
      have m1 : g1 < wr.heap.size := Nat.lt_of_lt_of_le l1 BW.size
      have m2 : rb < wr.heap.size := Nat.lt_of_lt_of_le hrb BW.size
      have HHO := Lib.hid (holds8_ok set l[j] (by omega) wr sa sc ((HA.out.keep BW).mono BW.size))
      have hf : stepF l set inn (j + 1) = (inn[j] && holdsB set l[j]) := by
        show (inn.getD j false && holdsB set (l.getD j 0)) = _
        rw [List.getD_eq_getElem?_getD, List.getElem?_eq_getElem hji, List.getD_eq_getElem?_getD, List.getElem?_eq_getElem hjl]
        rfl
      have HF := Lib.hid hf
      generalize l[j] = r at *
      obtain ⟨x, hx⟩ : ∃ x, inn[j] = x := ⟨_, rfl⟩
      rw [hx] at k1 HF
      clear hx hf d1 d2 l1 hrb hji hjl BW
      cases x
      · have hn2 : Hid (part1 (stepF l set inn) (n + 1) (j + 1) = part1 (stepF l set inn) (n + 1) (j + 1 + 1)) := Lib.hid (part1_skip _ _ _ (by rw [HF.out]; rfl)).symm
        go_wp2_with fail
        exact ⟨⟨j + 1, by go_num, by omega, BR.out, by rw [← hn2.out]; exact OR.out⟩, by simp [intOf]; omega⟩
      · go_wp2_with fail
        refine HHO.out.mono ?_
        rintro e w2 ⟨rfl, hg2⟩
        have OR2 := Lib.hid (OR.out.keep hg2)
        have BR2 := Lib.hid (BR.out.trans (But.of_grew hg2) fun k hk e => e)
        obtain ⟨y, hy⟩ : ∃ y, holdsB set r = y := ⟨_, rfl⟩
        have HY := Lib.hid hy
        rw [hy]
        clear hy hg2 k1 k2 m1 m2
        cases y
        · have hn2 : Hid (part1 (stepF l set inn) (n + 1) (j + 1) = part1 (stepF l set inn) (n + 1) (j + 1 + 1)) := Lib.hid (part1_skip _ _ _ (by rw [HF.out, HY.out]; rfl)).symm
          go_wp2_with fail
          exact ⟨⟨j + 1, by go_num, by omega, BR2.out, by rw [← hn2.out]; exact OR2.out⟩, by simp [intOf]; omega⟩
        · have hlen : ((part1 (stepF l set inn) (n + 1) (j + 1)).map Value.bool).length = n + 1 := by rw [List.length_map, part1_len]
          obtain ⟨z, t0⟩ : ∃ z, w2.cell? ⟨q, j + 1, none⟩ = some z := ⟨_, OR2.out.cell_at (i := j + 1) (List.getElem?_eq_getElem (by rw [hlen]; omega))⟩
          have t1 := OR2.out.free (j + 1)
          have t2 := OR2.out.lt
          have h9 := OR2.out.set (j + 1) (.bool true)
          have hff : stepF l set inn (j + 1) = true := by rw [HF.out, HY.out]; rfl
          rw [map_boolN, ← hff, part1_next (stepF l set inn) (n + 1) (j + 1), hff] at h9
          have OR3 := Lib.hid h9
          have BR3 := Lib.hid (BR2.out.trans (set_but (i := j + 1) (v := .bool true) OR2.out) fun k _ e => by rw [e]; exact Nat.le_refl _)
          clear hlen h9 hff
          go_wp2_with fail
          exact ⟨⟨j + 1, by go_num, by omega, BR3.out, OR3.out⟩, by simp [intOf]; omega⟩
    · obtain rfl : j = n := by omega
      go_wp2_with fail
      go_ret
      refine ⟨_, rfl, ?_, Below.trans G1.out (BR.out.below G1.out.size fun k e => by have := HQ.out; omega)⟩
      have h2 := OR.out
      rw [← HST.out] at h2
      have := owns_bools h2 (by rw [stepB_len, HIN.out, HN.out]; omega)
      rw [stepB_len, HIN.out, HN.out] at this
      exact this
end Go.Proofs.YtkinlcichclnkaaDoor
