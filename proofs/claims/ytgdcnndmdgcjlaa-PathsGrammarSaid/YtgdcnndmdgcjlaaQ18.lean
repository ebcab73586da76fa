/- The rows of nulls.Reach in memory. -/
import Derived.OrdersIn
import Derived.RangeFuncCalls
import Derived.RangeFuncLeaves
import Derived.Test.YtgdcnndmdgcjlaaQ17
import Derived.Test.YtgdcnndmdgcjlaaQ1
namespace Go.Proofs.Ytgdcnndmdgcjlaa
open Go.RowKit
theorem info_bools : (Try.prog.info? 31).map (fun i => (i.zero, i.size, i.bytes)) = some (some (.slice none 0 0), 1, 24) := by kernel_rfl
theorem made_ones (z : Value) (n : Nat) : madeCells #[z] n = (List.replicate n z).toArray := by
  apply Array.toList_inj.1
  rw [toList_madeCells_one]
theorem make_rows (n : Nat) (hn : n ≤ 1048576) (u : World) : (Instr.makeSlice 77 (.int .i64 (n : Int)) (.int .i64 (n : Int))).run Try.prog u =
    .ok (.slice (some ⟨u.heap.size, 0, none⟩) n n) (u.alloc (.cells (List.replicate n (.slice none 0 0)).toArray 31)) := by
  obtain ⟨i0, hi, hz0, hz1, hz2⟩ := info_parts info_bools
  have h := run_make (P := Try.prog) u 77 31 i0 (.slice none 0 0) Try.underlying77 hi hz0 .i64 .i64 (n : Int) (n : Int) (by omega) (Int.le_refl _) (by rw [hz2]; omega) (by omega)
  rw [Int.toNat_natCast, hz1, Nat.mul_one] at h
  rw [h, ← made_ones]
  rfl
def rowsL (f : Nat → Nat) (n j : Nat) : List Value := (List.range n).map fun k => if k < j then .slice (some ⟨f k, 0, none⟩) n n else .slice none 0 0
theorem rowsL_at (f : Nat → Nat) (n j k : Nat) (hk : k < n) : (rowsL f n j)[k]? = some (if k < j then .slice (some ⟨f k, 0, none⟩) n n else .slice none 0 0) := by
  simp [rowsL, hk]
theorem rowsL_zero (f : Nat → Nat) (n : Nat) : rowsL f n 0 = List.replicate n (.slice none 0 0) := by
  apply List.ext_getElem (by simp [rowsL])
  intro i h1 h2
  simp [rowsL]
theorem rowsL_next (f : Nat → Nat) (n j t : Nat) : (rowsL f n j).set j (.slice (some ⟨t, 0, none⟩) n n) = rowsL (fun k => if k = j then t else f k) n (j + 1) := by
  apply List.ext_getElem (by simp [rowsL])
  intro i h1 h2
  have hi : i < n := by simpa [rowsL] using h2
  rw [List.getElem_set]
  split
  · rename_i e; subst e; simp [rowsL]
  · rename_i e
    simp only [rowsL, List.getElem_map, List.getElem_range]
    have : ¬ i = j := fun x => e x.symm
    by_cases h : i < j
    · have h' : i < j + 1 := by omega
      simp [h, h', this]
    · have h' : ¬ i < j + 1 := by omega
      simp [h, h']
structure Mat (W : World) (B ob rb n j : Nat) (f : Nat → Nat) (row : Nat → List Bool) : Prop where
  o : Owns W ob [.slice (some ⟨rb, 0, none⟩) n n] 77
  r : Owns W rb (rowsL f n j) 31
  rows : ∀ i, i < j → Owns W (f i) ((row i).map .bool) 4
  len : ∀ i, i < j → (row i).length = n
  inj : ∀ i k, i < j → k < j → i ≠ k → f i ≠ f k
  lo : ∀ i, i < j → B ≤ f i
  ob_lt : ob < B
  rb_lt : rb < B
  ne : ob ≠ rb
  jn : j ≤ n
theorem Mat.keep {W W' : World} {B ob rb n j : Nat} {f : Nat → Nat} {row : Nat → List Bool} (h : Mat W B ob rb n j f row) (hg : Grew W W') : Mat W' B ob rb n j f row :=
  ⟨h.o.keep hg, h.r.keep hg, fun i hi => (h.rows i hi).keep hg, h.len, h.inj, h.lo, h.ob_lt, h.rb_lt, h.ne, h.jn⟩
theorem Mat.next {W W' : World} {B ob rb n j t : Nat} {f : Nat → Nat} {row : Nat → List Bool} {l : List Bool} (h : Mat W B ob rb n j f row) (hg : Upd t (W.setCell ⟨rb, j, none⟩ (.slice (some ⟨t, 0, none⟩) n n)) W') (ht : Owns W' t (l.map .bool) 4) (hl : l.length = n)
    (hB : B ≤ t) (hnew : ∀ i, i < j → f i ≠ t) (hj : j < n) : Mat W' B ob rb n (j + 1) (fun k => if k = j then t else f k) (fun k => if k = j then l else row k) := by
  have hb : rb < B := h.rb_lt
  have ho : ob < B := h.ob_lt
  refine ⟨(h.o.other (by simpa using fun e => h.ne e.symm) _).upd hg (by omega), ?_, fun i hi => ?_, fun i hi => ?_, fun i k hi hk hne => ?_, fun i hi => ?_, ho, hb, h.ne, by omega⟩
  · have := (h.r.set j (.slice (some ⟨t, 0, none⟩) n n)).upd hg (by omega)
    rwa [rowsL_next] at this
  · by_cases e : i = j
    · subst e; simpa using ht
    · have hi' : i < j := by omega
      have h1 := h.lo i hi'
      have := ((h.rows i hi').other (a := ⟨rb, j, none⟩) (by show rb ≠ f i; omega) (.slice (some ⟨t, 0, none⟩) n n)).upd hg (hnew i hi')
      simpa [e] using this
  · by_cases e : i = j
    · subst e; simpa using hl
    · simpa [e] using h.len i (by omega)
  · by_cases e : i = j
    · subst e
      have : ¬ k = i := fun x => hne x.symm
      simp only [if_true, this, if_false]
      exact fun x => hnew k (by omega) x.symm
    · by_cases e2 : k = j
      · subst e2
        simp only [e, if_false, if_true]
        exact hnew i (by omega)
      · simp only [e, e2, if_false]
        exact h.inj i k (by omega) (by omega) hne
  · by_cases e : i = j
    · subst e; simpa using hB
    · simpa [e] using h.lo i (by omega)
theorem Mat.put {W : World} {B ob rb n : Nat} {f : Nat → Nat} {M : List (List Bool)} (h : Mat W B ob rb n n f (fun i => M.getD i [])) (hs : Square n M) {i k : Nat} (hi : i < n) (b : Bool) :
    Mat (W.setCell ⟨f i, k, none⟩ (.bool b)) B ob rb n n f (fun j => (set2 M i k b).getD j []) := by
  have h1 := h.lo i hi
  have hb : rb < B := h.rb_lt
  have ho : ob < B := h.ob_lt
  have hget : ∀ j, (set2 M i k b).getD j [] = if j = i then (M.getD i []).set k b else M.getD j [] := by
    intro j
    unfold set2
    by_cases e : j = i
    · subst e; simp [List.getD_eq_getElem?_getD, hs.1, hi]
    · simp only [List.getD_eq_getElem?_getD, List.getElem?_set_ne (fun x => e x.symm), e, if_false]
  refine ⟨h.o.other (by show f i ≠ ob; omega) _, h.r.other (by show f i ≠ rb; omega) _, fun j hj => ?_, fun j hj => ?_, h.inj, h.lo, ho, hb, h.ne, h.jn⟩
  · rw [hget]
    by_cases e : j = i
    · subst e
      simp only [if_true]
      have := (h.rows j hj).set k (.bool b)
      rwa [← List.map_set] at this
    · simp only [e, if_false]
      exact (h.rows j hj).other (by show f i ≠ f j; exact h.inj i j hi hj (fun x => e x.symm)) _
  · rw [hget]
    split
    · rename_i e; subst e; simpa using h.len j hj
    · exact h.len j hj
theorem Mat.cell {W : World} {B ob rb n : Nat} {f : Nat → Nat} {M : List (List Bool)} (h : Mat W B ob rb n n f (fun i => M.getD i [])) {i k : Nat} (hi : i < n) (hk : k < n) : W.cell? ⟨f i, k, none⟩ = some (.bool (at2 M i k)) := by
  have h1 := h.rows i hi
  have h2 := h.len i hi
  refine h1.cell_at ?_
  unfold at2
  rw [List.getElem?_map, List.getElem?_eq_getElem (by omega), List.getD_eq_getElem?_getD (l := M.getD i []), List.getElem?_eq_getElem (by omega)]
  rfl
theorem Mat.row {W : World} {B ob rb n j : Nat} {f : Nat → Nat} {row : Nat → List Bool} (h : Mat W B ob rb n j f row) {i : Nat} (hi : i < j) : W.cell? ⟨rb, i, none⟩ = some (.slice (some ⟨f i, 0, none⟩) n n) := by
  have := h.jn
  rw [h.r.cell, rowsL_at _ _ _ _ (by omega), if_pos hi]
theorem Mat.congr {W : World} {B ob rb n j : Nat} {f : Nat → Nat} {row row' : Nat → List Bool} (h : Mat W B ob rb n j f row) (he : ∀ i, i < j → row i = row' i) : Mat W B ob rb n j f row' :=
  ⟨h.o, h.r, fun i hi => by rw [← he i hi]; exact h.rows i hi, fun i hi => by rw [← he i hi]; exact h.len i hi, h.inj, h.lo, h.ob_lt, h.rb_lt, h.ne, h.jn⟩
end Go.Proofs.Ytgdcnndmdgcjlaa

/- nulls.Reach. -/
namespace Go.Proofs.Ytgdcnndmdgcjlaa
open Go.RowKit
def ReachIs (g : Gr) (W : World) (e : Ending) (W' : World) : Prop :=
  ∃ B ob rb f es M, e = .returned (.slice (some ⟨rb, 0, none⟩) g.rules.length g.rules.length) ∧ g.IsEmpty es ∧ IsReach (g.Once es) g.rules.length M ∧
    Mat W' B ob rb g.rules.length g.rules.length f (fun i => M.getD i []) ∧ W.heap.size ≤ B ∧ W.heap.size ≤ rb ∧ Below W.heap.size W W'
set_option maxHeartbeats 16000000 in
set_option maxRecDepth 20000 in
theorem nreach_ok (g : Gr) (W : World) (v0 v1 v2 v3 : Value) (hn : g.rules.length ≤ 1048576) (hG : GrAt W W.heap.size (some v0) (some v1) (some v2) (some v3) g) :
    Calls Try.prog 72 #[.agg #[v0, v1, v2, v3]] W fun e W' => ReachIs g W e W' := by
  have hG' := hG
  obtain ⟨q1, q2, q3, q4, q5, q6, ra, rc, q7, q8, q9⟩ := hG'
  obtain rfl := Option.some.inj q1
  obtain rfl := Option.some.inj q3
  obtain rfl := Option.some.inj q4
  obtain rfl := Option.some.inj q7
  clear q1 q3 q4 q5 q6 q7
  have hgr := grew_alloc W (.cells #[.string g.name, .int .i64 g.bound, .int .i64 g.states, .slice ra g.rules.length rc] 57)
  have hK := Lib.hid (known_ok g _ _ _ _ _ ((hG.keep hgr).mono hgr.size))
  have hOg := Owns.alloc W [.string g.name, .int .i64 g.bound, .int .i64 g.states, .slice ra g.rules.length rc] 57
  have hmk := make_rows g.rules.length hn
  have hmb := make_bools g.rules.length q8
  have HGR := Lib.hid hgr
  have HOG := Lib.hid hOg
  have HR := Lib.hid q9
  clear hgr hOg q9 hG
  unfold reachN at q8 q2
  go_enter Try.func72, Try.ntmps72
  go_wp2_with fail
  refine hK.out.mono ?_
  rintro e w1 ⟨ab, eb, es, rfl, hes, hask0, hb1⟩
  have hsz1 : W.heap.size < w1.heap.size := by have := hb1.size; simp at this; omega
  have hbx : w1.cell? ⟨W.heap.size, 3, none⟩ = some (.slice ra g.rules.length rc) := by rw [Grew.cells hb1 _ _ HOG.out.lt]; exact HOG.out.cell_at rfl
  have hask : AskOwn w1 (W.heap.size + 1) ab eb g es := by simpa using hask0
  have HES := Lib.hid hes
  have HASK := Lib.hid hask
  have HB1 := Lib.hid hb1
  clear hes hask hask0 hb1 hK
  go_wp2_with fail
  have hal1 := Owns.alloc w1 (List.replicate g.rules.length (.slice none 0 0)) 31
  rw [List.toArray_replicate] at hal1
  have hal2 := Owns.alloc (w1.alloc (.cells (Array.replicate g.rules.length (.slice none 0 0)) 31)) [.slice (some ⟨w1.heap.size, 0, none⟩) g.rules.length g.rules.length] 77
  have hgA := (grew_alloc w1 (.cells (Array.replicate g.rules.length (.slice none 0 0)) 31)).trans (grew_alloc (w1.alloc (.cells (Array.replicate g.rules.length (.slice none 0 0)) 31)) (.cells #[.slice (some ⟨w1.heap.size, 0, none⟩) g.rules.length g.rules.length] 77))
  have hszA : ((w1.alloc (.cells (Array.replicate g.rules.length (.slice none 0 0)) 31)).alloc (.cells #[.slice (some ⟨w1.heap.size, 0, none⟩) g.rules.length g.rules.length] 77)).heap.size = w1.heap.size + 1 + 1 := by simp
  have e1 : (w1.alloc (.cells (Array.replicate g.rules.length (.slice none 0 0)) 31)).heap.size = w1.heap.size + 1 := by simp
  rw [e1] at hal2
  clear e1
  have hal1' := hal1.keep (grew_alloc (w1.alloc (.cells (Array.replicate g.rules.length (.slice none 0 0)) 31)) (.cells #[.slice (some ⟨w1.heap.size, 0, none⟩) g.rules.length g.rules.length] 77))
  have HA1 := Lib.hid hal1'
  have HA2 := Lib.hid hal2
  have HGA := Lib.hid hgA
  have HSZ := Lib.hid hszA
  clear hal1 hal1' hal2 hgA hszA
  have hbx2 : Hid (((w1.alloc (.cells (Array.replicate g.rules.length (.slice none 0 0)) 31)).alloc (.cells #[.slice (some ⟨w1.heap.size, 0, none⟩) g.rules.length g.rules.length] 77)).cell? ⟨W.heap.size, 3, none⟩ = some (.slice ra g.rules.length rc)) := by
    unfold Hid; rw [HGA.out.cells _ _ hsz1]; exact hbx
  have hask := HASK.out
  have hal := hask.ask.al
  have hel := hask.ask.bl
  clear hask
  generalize (w1.alloc (.cells (Array.replicate g.rules.length (.slice none 0 0)) 31)).alloc (.cells #[.slice (some ⟨w1.heap.size, 0, none⟩) g.rules.length g.rules.length] 77) = w2 at *
  go_loopw [19] (fun c wr => ∃ (j : Nat) (f : Nat → Nat) (row : Nat → List Bool), c = .int .i64 j ∧ j ≤ g.rules.length ∧ Hid (Mat wr (w1.heap.size + 1 + 1) (w1.heap.size + 1) w1.heap.size g.rules.length j f row) ∧ Hid (∀ k, k < j → row k = g.onceRow es k) ∧
    Hid (AskOwn wr (W.heap.size + 1) ab eb g es) ∧ Hid (Below W.heap.size W wr) ∧ w1.heap.size + 1 + 1 ≤ wr.heap.size ∧ Hid (wr.cell? ⟨W.heap.size, 3, none⟩ = some (.slice ra g.rules.length rc))) (fun c _ => g.rules.length - (intOf c).toNat)
  case atStart =>
    refine ⟨0, fun _ => 0, fun _ => [], rfl, by omega, ⟨HA2.out, by rw [rowsL_zero]; exact HA1.out, fun i hi => absurd hi (by omega), fun i hi => absurd hi (by omega), fun i k hi => absurd hi (by omega), fun i hi => absurd hi (by omega), by omega, by omega, by omega, by omega⟩, fun k hk => absurd hk (by omega), HASK.out.keep HGA.out, ?_, by rw [HSZ.out]; exact Nat.le_refl _, hbx2⟩
    exact (HGR.out.trans HB1.out).trans (HGA.out.mono (Nat.le_refl _))
  case round =>
    clear hbx hbx2 HA1 HA2 HGA HSZ HASK
    obtain ⟨j, f, row, rfl, hj, hmat, hrow, hask, hbw, hszr, hbx⟩ := hrel
    by_cases hlt : j < g.rules.length
    · obtain ⟨b, off, rfl, hb, hrule⟩ := (HR.out.keep hbw.out).get hlt
      simp only [Nat.zero_add] at hrule
      obtain ⟨u2, u3, u4, u5, u6, e0, e1, e2, e3, e4, e5, e6, e7, e8, e9, hrule, hnode⟩ := hrule.vals
      obtain ⟨bk, bnm, btx, bsa, bsl, bsc, bna, bnl, bnc, rfl, rfl, rfl, rfl, rfl⟩ := hnode.forms
      have HN := Lib.hid hnode
      clear hrule hnode
      have hg1 := grew_alloc wr (.cells #[.int .i64 (j : Int)] 3)
      have ho1 := Owns.alloc wr [.int .i64 (j : Int)] 3
      have hg2 := grew_alloc (wr.alloc (.cells #[.int .i64 (j : Int)] 3)) (.cells #[.string g.rules[j].name, .int .u8 g.rules[j].sort, .int .u8 bk, .string bnm, .string btx, .slice bsa bsl bsc, .slice bna bnl bnc, .int .i64 g.rules[j].p0, .int .i64 g.rules[j].p1, .int .i64 g.rules[j].p2] 108)
      have ho2 := Owns.alloc (wr.alloc (.cells #[.int .i64 (j : Int)] 3)) [.string g.rules[j].name, .int .u8 g.rules[j].sort, .int .u8 bk, .string bnm, .string btx, .slice bsa bsl bsc, .slice bna bnl bnc, .int .i64 g.rules[j].p0, .int .i64 g.rules[j].p1, .int .i64 g.rules[j].p2] 108
      have e1 : (wr.alloc (.cells #[.int .i64 (j : Int)] 3)).heap.size = wr.heap.size + 1 := by simp
      rw [e1] at ho2
      clear e1
      have HO1 := Lib.hid (ho1.keep hg2)
      have HG3 := Lib.hid (hg1.trans hg2)
      have r0 := ho2.cell_at (i := 0) rfl
      have r1 := ho2.cell_at (i := 1) rfl
      have r2 := ho2.cell_at (i := 2) rfl
      have r3 := ho2.cell_at (i := 3) rfl
      have r4 := ho2.cell_at (i := 4) rfl
      have r5 := ho2.cell_at (i := 5) rfl
      have r6 := ho2.cell_at (i := 6) rfl
      have r7 := ho2.cell_at (i := 7) rfl
      have r8 := ho2.cell_at (i := 8) rfl
      have r9 := ho2.cell_at (i := 9) rfl
      have rl := ho2.lt
      have HO2 := Lib.hid ho2
      have hszz : ((wr.alloc (.cells #[.int .i64 (j : Int)] 3)).alloc (.cells #[.string g.rules[j].name, .int .u8 g.rules[j].sort, .int .u8 bk, .string bnm, .string btx, .slice bsa bsl bsc, .slice bna bnl bnc, .int .i64 g.rules[j].p0, .int .i64 g.rules[j].p1, .int .i64 g.rules[j].p2] 108)).heap.size = wr.heap.size + 1 + 1 := by simp
      have HSZZ := Lib.hid hszz
      clear ho1 ho2 hg1 hg2 hszz
      go_wp2_with fail
      clear e0 e1 e2 e3 e4 e5 e6 e7 e8 e9
      generalize (wr.alloc (.cells #[.int .i64 (j : Int)] 3)).alloc (.cells #[.string g.rules[j].name, .int .u8 g.rules[j].sort, .int .u8 bk, .string bnm, .string btx, .slice bsa bsl bsc, .slice bna bnl bnc, .int .i64 g.rules[j].p0, .int .i64 g.rules[j].p1, .int .i64 g.rules[j].p2] 108) = w3 at *
      have hmat3 := hmat.out.keep HG3.out
      have ro := hmat3.o.cell_at (i := 0) rfl
      have ri := HO1.out.cell_at (i := 0) rfl
      have rol := hmat3.o.lt
      have ril := HO1.out.lt
      have rb3 : w3.cell? ⟨W.heap.size, 3, none⟩ = some (.slice (some ⟨b, off, none⟩) g.rules.length rc) := by rw [HG3.out.cells _ _ (by omega)]; exact hbx.out
      have rbl : W.heap.size < w3.heap.size := by have := HG3.out.size; omega
      have HM3 := Lib.hid hmat3
      clear hmat3
      refine wp_region_hav_lit follows (by kernel_rfl) ?_
      repeat (first
        | (refine HavG.skip (fun _ => rfl) ?_; simp only [Act.put, List.setIfInBounds_toArray, List.set_cons_zero, List.set_cons_succ])
        | (refine HavG.val (fun _ => rfl) ?_ (fun x w hw _ => ?_) ?_; rotate_left; (focus (have hc := hw.cells; clear hw; go_simp; first | done | rfl)); simp only [Act.put, List.setIfInBounds_toArray, List.set_cons_zero, List.set_cons_succ]))
      refine HavG.any (fun _ => rfl) (fun v w => ∃ t, v = .slice (some ⟨t, 0, none⟩) g.rules.length g.rules.length ∧ w3.heap.size ≤ t ∧ Owns w t (List.replicate g.rules.length (.bool false)) 4) ?_ (fun x w hw _ => ?_) ?_
      · rintro v w w' hg ⟨t, h1, h2, h3⟩
        exact ⟨t, h1, h2, h3.keep hg⟩
      · have HW := Lib.hid hw
        clear hw
        go_simp
        refine ⟨grew_alloc _ _, HW.out.size, ?_⟩
        have := Owns.alloc w (List.replicate g.rules.length (.bool false)) 4
        simpa using this
      simp only [Act.put, List.setIfInBounds_toArray, List.set_cons_zero, List.set_cons_succ]
      repeat (first
        | (refine HavG.skip (fun _ => rfl) ?_; simp only [Act.put, List.setIfInBounds_toArray, List.set_cons_zero, List.set_cons_succ])
        | (refine HavG.val (fun _ => rfl) ?_ (fun x w hw _ => ?_) ?_; rotate_left; (focus (have hc := hw.cells; clear hw; go_simp; first | done | rfl)); simp only [Act.put, List.setIfInBounds_toArray, List.set_cons_zero, List.set_cons_succ]))
      refine HavG.tail (by kernel_rfl) (by kernel_rfl) (fun x w hw hx => ?_)
      have hx' := hx _ (List.mem_append_right _ (List.mem_singleton.2 rfl))
      clear hx
      dsimp only at hx'
      generalize x (0 + 1 + 1 + 1 + 1 + 1) = y at *
      obtain ⟨t, rfl, htl, hot⟩ := hx'
      have hmw := HM3.out.keep hw
      have hcr : w.cell? ⟨w1.heap.size, j, none⟩ = some (.slice none 0 0) := by rw [hmw.r.cell, rowsL_at _ _ _ _ hlt]; simp
      have hfr := hmw.r.free j
      have hwz := hw.size
      have HW := Lib.hid hw
      have HMW := Lib.hid hmw
      have HOT := Lib.hid hot
      clear hw hmw hot
      go_wp2_with fail
      have hup : Upd w1.heap.size w (w.setCell ⟨w1.heap.size, j, none⟩ (.slice (some ⟨t, 0, none⟩) g.rules.length g.rules.length)) := (Upd.refl _ _).setCell _ _
      have hup3 : Upd w1.heap.size w3 (w.setCell ⟨w1.heap.size, j, none⟩ (.slice (some ⟨t, 0, none⟩) g.rules.length g.rules.length)) := (HW.out.upd _).trans hup
      have hsz4 := hup3.size
      have hne1 : wr.heap.size + 1 ≠ w1.heap.size := by omega
      have hne2 : wr.heap.size ≠ w1.heap.size := by omega
      have hne3 : w1.heap.size + 1 ≠ w1.heap.size := by omega
      have hne4 : t ≠ w1.heap.size := by omega
      have s0 := hup3.cell rl hne1 0
      have s1 := hup3.cell rl hne1 1
      have s2 := hup3.cell rl hne1 2
      have s3 := hup3.cell rl hne1 3
      have s4 := hup3.cell rl hne1 4
      have s5 := hup3.cell rl hne1 5
      have s6 := hup3.cell rl hne1 6
      have s7 := hup3.cell rl hne1 7
      have s8 := hup3.cell rl hne1 8
      have s9 := hup3.cell rl hne1 9
      rw [r0] at s0
      rw [r1] at s1
      rw [r2] at s2
      rw [r3] at s3
      rw [r4] at s4
      rw [r5] at s5
      rw [r6] at s6
      rw [r7] at s7
      rw [r8] at s8
      rw [r9] at s9
      have so := hup3.cell rol hne3 0
      rw [ro] at so
      have si := hup3.cell ril hne2 0
      rw [ri] at si
      have sr : (w.setCell ⟨w1.heap.size, j, none⟩ (.slice (some ⟨t, 0, none⟩) g.rules.length g.rules.length)).cell? ⟨w1.heap.size, j, none⟩ = some (.slice (some ⟨t, 0, none⟩) g.rules.length g.rules.length) := by
        rw [(HMW.out.r.set j _).cell]
        simp [rowsL, hlt]
      have sb := hup3.cell rbl (show W.heap.size ≠ w1.heap.size by omega) 3
      rw [rb3] at sb
      have ST := Lib.hid (HOT.out.upd hup hne4)
      have hask4 := (hask.out.keep HG3.out).upd hup3 (by omega) (by omega) (by omega)
      have HK4 := Lib.hid hask4
      have HRW := Lib.hid (RowAt.mk (i := j) (l := List.replicate g.rules.length false) so si sr (by simpa using ST.out) (by simp) hlt (by unfold reachN; omega) (by omega) (by omega) (by omega))
      have HUP := Lib.hid hup
      have HUP3 := Lib.hid hup3
      have rl4 : wr.heap.size + 1 < (w.setCell ⟨w1.heap.size, j, none⟩ (.slice (some ⟨t, 0, none⟩) g.rules.length g.rules.length)).heap.size := by omega
      have ol4 : w1.heap.size + 1 < (w.setCell ⟨w1.heap.size, j, none⟩ (.slice (some ⟨t, 0, none⟩) g.rules.length g.rules.length)).heap.size := by omega
      have il4 : wr.heap.size < (w.setCell ⟨w1.heap.size, j, none⟩ (.slice (some ⟨t, 0, none⟩) g.rules.length g.rules.length)).heap.size := by omega
      have HN4 := Lib.hid ((HN.out.keep ((HG3.out.mono (by omega)).trans (hup3.below (show W.heap.size ≤ w1.heap.size by omega) (by omega)))).mono (show W.heap.size ≤ W.heap.size + 1 by omega))
      have HNX := Lib.hid (fun (W' : World) (l : List Bool) hu ho hl => HMW.out.next (W' := W') (t := t) (l := l) hu ho hl (by omega) (fun i hi e => by have := (HM3.out.rows i hi).lt; omega) hlt)
      clear hup hup3 r0 r1 r2 r3 r4 r5 r6 r7 r8 r9 ro ri hcr hfr hask4 sr hmk hmb
      generalize w.setCell ⟨w1.heap.size, j, none⟩ (.slice (some ⟨t, 0, none⟩) g.rules.length g.rules.length) = w4 at *
      refine wp_region_hav_lit follows (by kernel_rfl) ?_
      repeat (first
        | (refine HavG.skip (fun _ => rfl) ?_; simp only [Act.put, List.setIfInBounds_toArray, List.set_cons_zero, List.set_cons_succ])
        | (refine HavG.val (fun _ => rfl) ?_ (fun x w hw _ => ?_) ?_; rotate_left; (focus (have hc := hw.cells; clear hw; go_simp; first | done | rfl)); simp only [Act.put, List.setIfInBounds_toArray, List.set_cons_zero, List.set_cons_succ]))
      refine HavG.det (fun _ => rfl) (.bool g.rules[j].token) (fun x w5 hw _ => ?_) ?_
      · have HW5 := Lib.hid hw
        clear hw
        go_simp
        refine (token_ok g.rules[j] _ _ _ _ _ _ _ _ _ _ _ rfl).mono ?_
        rintro e w6 ⟨rfl, hb6⟩
        exact ⟨rfl, hb6⟩
      simp only [Act.put, List.setIfInBounds_toArray, List.set_cons_zero, List.set_cons_succ]
      repeat (first
        | (refine HavG.skip (fun _ => rfl) ?_; simp only [Act.put, List.setIfInBounds_toArray, List.set_cons_zero, List.set_cons_succ])
        | (refine HavG.val (fun _ => rfl) ?_ (fun x w hw _ => ?_) ?_; rotate_left; (focus (have hc := hw.cells; clear hw; go_simp; first | done | rfl)); simp only [Act.put, List.setIfInBounds_toArray, List.set_cons_zero, List.set_cons_succ]))
      refine HavG.tail (by kernel_rfl) (by kernel_rfl) (fun x w5 hw _ => ?_)
      have hS := Lib.hid (reaches_ok g es g.rules[j].token g.rules[j].body w5 (W.heap.size + 1) ab eb (w1.heap.size + 1) wr.heap.size w1.heap.size t j (List.replicate g.rules.length false) _ _ _ _ _ (HK4.out.keep hw) (HN4.out.keep (hw.mono (by omega))) (HRW.out.keep hw) (by omega) (by omega) (by omega))
      have HW5 := Lib.hid hw
      have hw5z := hw.size
      clear hw
      go_wp2_with (go_at_call 83; refine hS.out.mono ?_; rintro e w6 ⟨rfl, hu6, ho6, hl6⟩; have HU6 := Lib.hid hu6; have HO6 := Lib.hid ho6; have HL6 := Lib.hid hl6; clear hu6 ho6 hl6)
      have hu46 : Upd t w4 w6 := (HW5.out.upd t).trans HU6.out
      have hz6 := hu46.size
      refine ⟨⟨j + 1, _, _, by go_num, by omega, HNX.out w6 _ hu46 HO6.out HL6.out, fun k hk => ?_, HK4.out.upd hu46 (by omega) (by omega) (by omega), ?_, by omega, ?_⟩, by simp [intOf]; omega⟩
      · split
        · rename_i e
          subst e
          simp [Gr.onceRow, hlt]
        · exact hrow.out k (by omega)
      · have a1 : Below W.heap.size wr w3 := HG3.out.mono (by omega)
        have a2 : Below W.heap.size w3 w4 := HUP3.out.below (by omega) (by omega)
        have a3 : Below W.heap.size w4 w6 := hu46.below (by omega) (by omega)
        exact ((hbw.out.trans a1).trans a2).trans a3
      · unfold Hid
        rw [hu46.cell (by omega) (by omega)]
        exact sb
    · have hjn : j = g.rules.length := by omega
      subst hjn
      have hmat0 := hmat.out
      have ho := hmat0.o.cell_at (i := 0) rfl
      have HM0 := Lib.hid hmat0
      clear hmat0
      go_wp2_with fail
      have hM0 : Mat wr (w1.heap.size + 1 + 1) (w1.heap.size + 1) w1.heap.size g.rules.length g.rules.length f (fun i => (g.onceM es).getD i []) := HM0.out.congr fun i hi => by
        rw [hrow.out i hi]
        simp [Gr.onceM, hi]
      have HM1 := Lib.hid hM0
      have HBW := Lib.hid hbw.out
      clear hM0 HM0 hmat hrow hask hbx hbw ho hmk hmb HR hj
      have hL := Lib.hid (Round.start (O := g.Once es) (onceM_square g es) (fun a b => Iff.rfl))
      go_loopw [41] (fun c wx => ∃ (q : Nat) (M : List (List Bool)), c = .int .i64 q ∧ q ≤ g.rules.length ∧ Hid (Mat wx (w1.heap.size + 1 + 1) (w1.heap.size + 1) w1.heap.size g.rules.length g.rules.length f (fun i => M.getD i [])) ∧ Hid (Round (g.Once es) g.rules.length M q 0 0) ∧ Hid (Below W.heap.size W wx)) (fun c _ => g.rules.length - (intOf c).toNat)
      case atStart => exact ⟨0, _, rfl, by omega, HM1.out, hL.out, HBW.out⟩
      case round =>
        clear HM1 hL HBW
        obtain ⟨q, M, rfl, hq, hM, hRo, hBw⟩ := hrel
        by_cases hqn : q < g.rules.length
        · have ho := hM.out.o.cell_at (i := 0) rfl
          obtain ⟨wq, rfl⟩ : ∃ wq : World, wq = wr := ⟨_, rfl⟩
          go_wp2_with fail
          clear ho
          go_loopw [46] (fun c wx => ∃ (i : Nat) (M : List (List Bool)), c = .int .i64 i ∧ i ≤ g.rules.length ∧ Hid (Mat wx (w1.heap.size + 1 + 1) (w1.heap.size + 1) w1.heap.size g.rules.length g.rules.length f (fun i => M.getD i [])) ∧ Hid (Round (g.Once es) g.rules.length M q i 0) ∧ Hid (Below W.heap.size W wx)) (fun c _ => g.rules.length - (intOf c).toNat)
          case atStart => exact ⟨0, _, rfl, by omega, hM.out, hRo.out, hBw.out⟩
          case round =>
            clear hM hRo hBw
            obtain ⟨i, M, rfl, hi, hM, hRo, hBw⟩ := hrel
            by_cases hin : i < g.rules.length
            · have ho := hM.out.o.cell_at (i := 0) rfl
              obtain ⟨wi, rfl⟩ : ∃ wi : World, wi = wr := ⟨_, rfl⟩
              go_wp2_with fail
              clear ho
              go_loopw [51] (fun c wx => ∃ (k : Nat) (M : List (List Bool)), c = .int .i64 k ∧ k ≤ g.rules.length ∧ Hid (Mat wx (w1.heap.size + 1 + 1) (w1.heap.size + 1) w1.heap.size g.rules.length g.rules.length f (fun i => M.getD i [])) ∧ Hid (Round (g.Once es) g.rules.length M q i k) ∧ Hid (Below W.heap.size W wx)) (fun c _ => g.rules.length - (intOf c).toNat)
              case atStart => exact ⟨0, _, rfl, by omega, hM.out, hRo.out, hBw.out⟩
              case round =>
                clear hM hRo hBw
                obtain ⟨k, M, rfl, hk, hM, hRo, hBw⟩ := hrel
                by_cases hkn : k < g.rules.length
                · have ho := hM.out.o.cell_at (i := 0) rfl
                  have hol := hM.out.o.lt
                  have hrl := hM.out.r.lt
                  have h1 := hM.out.row hin
                  have h2 := hM.out.row hqn
                  have h3 := hM.out.cell hin hkn
                  have h4 := hM.out.cell hin hqn
                  have h5 := hM.out.cell hqn hkn
                  have hl1 := (hM.out.rows i hin).lt
                  have hl2 := (hM.out.rows q hqn).lt
                  have hlo := hM.out.lo i hin
                  obtain ⟨ba, hba⟩ : ∃ ba, ba = at2 M i k := ⟨_, rfl⟩
                  obtain ⟨bb, hbb⟩ : ∃ bb, bb = at2 M i q := ⟨_, rfl⟩
                  obtain ⟨bc, hbc⟩ : ∃ bc, bc = at2 M q k := ⟨_, rfl⟩
                  rw [← hba] at h3
                  rw [← hbb] at h4
                  rw [← hbc] at h5
                  have hst := hRo.out.step hqn hin hkn
                  rw [← hba, ← hbb, ← hbc] at hst
                  have HST := Lib.hid hst
                  have hRs0 := hRo.out.1
                  clear hba hbb hbc hst hRo
                  go_wp2_with fail
                  refine wp_region_hav_lit follows (by kernel_rfl) ?_
                  have hRs := Lib.hid hRs0
                  clear hRs0
                  cases ba
                  · cases bb
                    · repeat (first
                        | (refine HavG.skip (fun _ => rfl) ?_; simp only [Act.put, List.setIfInBounds_toArray, List.set_cons_zero, List.set_cons_succ])
                        | (refine HavG.val (fun _ => rfl) ?_ (fun x w hw _ => ?_) ?_; rotate_left; (focus (have hc := hw.cells; clear hw; go_simp; first | done | rfl)); simp only [Act.put, List.setIfInBounds_toArray, List.set_cons_zero, List.set_cons_succ]))
                      refine HavG.tail (by kernel_rfl) (by kernel_rfl) (fun x w hw _ => ?_)
                      have hc := hw.cells
                      have hfr : w.frozen? ⟨f i, k, none⟩ = false := ((hM.out.keep hw).rows i hin).free k
                      have HW := Lib.hid hw
                      clear hw
                      go_wp2_with fail
                      exact ⟨⟨k + 1, _, by go_num, by omega, (hM.out.keep HW.out).put hRs.out hin _, HST.out, (hBw.out.trans (HW.out.mono (by have := hBw.out.size; omega))).setCell (by show W.heap.size ≤ f i; omega) _⟩, by simp [intOf]; omega⟩
                    · repeat (first
                        | (refine HavG.skip (fun _ => rfl) ?_; simp only [Act.put, List.setIfInBounds_toArray, List.set_cons_zero, List.set_cons_succ])
                        | (refine HavG.val (fun _ => rfl) ?_ (fun x w hw _ => ?_) ?_; rotate_left; (focus (have hc := hw.cells; clear hw; go_simp; first | done | rfl)); simp only [Act.put, List.setIfInBounds_toArray, List.set_cons_zero, List.set_cons_succ]))
                      refine HavG.tail (by kernel_rfl) (by kernel_rfl) (fun x w hw _ => ?_)
                      have hc := hw.cells
                      have hfr : w.frozen? ⟨f i, k, none⟩ = false := ((hM.out.keep hw).rows i hin).free k
                      have HW := Lib.hid hw
                      clear hw
                      go_wp2_with fail
                      exact ⟨⟨k + 1, _, by go_num, by omega, (hM.out.keep HW.out).put hRs.out hin _, HST.out, (hBw.out.trans (HW.out.mono (by have := hBw.out.size; omega))).setCell (by show W.heap.size ≤ f i; omega) _⟩, by simp [intOf]; omega⟩
                  · repeat (first
                      | (refine HavG.skip (fun _ => rfl) ?_; simp only [Act.put, List.setIfInBounds_toArray, List.set_cons_zero, List.set_cons_succ])
                      | (refine HavG.val (fun _ => rfl) ?_ (fun x w hw _ => ?_) ?_; rotate_left; (focus (have hc := hw.cells; clear hw; go_simp; first | done | rfl)); simp only [Act.put, List.setIfInBounds_toArray, List.set_cons_zero, List.set_cons_succ]))
                    refine HavG.tail (by kernel_rfl) (by kernel_rfl) (fun x w hw _ => ?_)
                    have hc := hw.cells
                    have hfr : w.frozen? ⟨f i, k, none⟩ = false := ((hM.out.keep hw).rows i hin).free k
                    have HW := Lib.hid hw
                    clear hw
                    go_wp2_with fail
                    exact ⟨⟨k + 1, _, by go_num, by omega, (hM.out.keep HW.out).put hRs.out hin _, HST.out, (hBw.out.trans (HW.out.mono (by have := hBw.out.size; omega))).setCell (by show W.heap.size ≤ f i; omega) _⟩, by simp [intOf]; omega⟩
                · have hkk : k = g.rules.length := by omega
                  subst hkk
                  go_wp2_with fail
                  exact ⟨⟨i + 1, M, by go_num, by omega, hM.out, hRo.out.row, hBw.out⟩, by simp [intOf]; omega⟩
            · have hii : i = g.rules.length := by omega
              subst hii
              go_wp2_with fail
              exact ⟨⟨q + 1, M, by go_num, by omega, hM.out, hRo.out.next, hBw.out⟩, by simp [intOf]; omega⟩
        · have hqq : q = g.rules.length := by omega
          subst hqq
          have ho := hM.out.o.cell_at (i := 0) rfl
          go_wp2_with fail
          go_ret
          exact ⟨_, _, _, f, es, M, rfl, HES.out, hRo.out.done (fun i k h => at2_lt (onceM_square g es) h), hM.out, by omega, by omega, hBw.out⟩
end Go.Proofs.Ytgdcnndmdgcjlaa

/- nulls.Empty. -/
namespace Go.Proofs.Ytgdcnndmdgcjlaa
open Go.RowKit
def EmptyIs (g : Gr) (W : World) (e : Ending) (W' : World) : Prop :=
  ∃ eb es, e = .returned (.slice (some ⟨eb, 0, none⟩) g.rules.length g.rules.length) ∧ g.IsEmpty es ∧ Owns W' eb (es.map .bool) 4 ∧ W.heap.size ≤ eb ∧ Below W.heap.size W W'
set_option maxRecDepth 20000 in
theorem empty_ok (g : Gr) (W : World) (v0 v1 v2 v3 : Value) (hG : GrAt W W.heap.size (some v0) (some v1) (some v2) (some v3) g) :
    Calls Try.prog 71 #[.agg #[v0, v1, v2, v3]] W fun e W' => EmptyIs g W e W' := by
  have hgr := grew_alloc W (.cells #[v0, v1, v2, v3] 57)
  have hK := Lib.hid (known_ok g _ _ _ _ _ ((hG.keep hgr).mono hgr.size))
  have HGR := Lib.hid hgr
  clear hgr hG
  go_enter Try.func71, Try.ntmps71
  go_wp2_with fail
  refine hK.out.mono ?_
  rintro e w1 ⟨ab, eb, es, rfl, hes, hask, hb1⟩
  have ha := hask.ask.ea
  have hle := hask.le
  have HES := Lib.hid hes
  have HO := Lib.hid hask.oe
  have HB := Lib.hid (HGR.out.trans hb1)
  simp at hle
  clear hes hask hb1
  go_wp2_with fail
  go_ret
  exact ⟨eb, es, rfl, HES.out, HO.out, by omega, HB.out⟩
end Go.Proofs.Ytgdcnndmdgcjlaa

/- nulls.May: whether a node may be empty in a rule's body. -/
namespace Go.Proofs.Ytgdcnndmdgcjlaa
open Go.RowKit
set_option maxHeartbeats 4000000 in
set_option maxRecDepth 20000 in
theorem nmay_ok (g : Gr) (es : List Bool) (hes : g.IsEmpty es) (i : Nat) (hi : i < g.rules.length) (n : Nd) (W : World) (v0 v1 v2 v3 u0 u1 u2 u3 u4 : Value) (hG : GrAt W W.heap.size (some v0) (some v1) (some v2) (some v3) g)
    (hN : NodeAt W W.heap.size (some u0) (some u1) (some u2) (some u3) (some u4) n) :
    Calls Try.prog 94 #[.agg #[v0, v1, v2, v3], .int .i64 (i : Int), .agg #[u0, u1, u2, u3, u4]] W fun e W' => e = .returned (.bool (g.may es g.rules[i].token n)) ∧ Below W.heap.size W W' := by
  have hG' := hG
  obtain ⟨q1, q2, q3, q4, q5, q6, ra, rc, q7, q8, q9⟩ := hG'
  obtain rfl := Option.some.inj q1
  obtain rfl := Option.some.inj q3
  obtain rfl := Option.some.inj q4
  obtain rfl := Option.some.inj q7
  clear q1 q3 q4 q5 q6 q7
  have hgr1 := grew_alloc W (.cells #[.string g.name, .int .i64 g.bound, .int .i64 g.states, .slice ra g.rules.length rc] 57)
  have hO1 := Owns.alloc W [.string g.name, .int .i64 g.bound, .int .i64 g.states, .slice ra g.rules.length rc] 57
  have hgr2 := grew_alloc (W.alloc (.cells #[.string g.name, .int .i64 g.bound, .int .i64 g.states, .slice ra g.rules.length rc] 57)) (.cells #[u0, u1, u2, u3, u4] 104)
  have hO2 := Owns.alloc (W.alloc (.cells #[.string g.name, .int .i64 g.bound, .int .i64 g.states, .slice ra g.rules.length rc] 57)) [u0, u1, u2, u3, u4] 104
  have hsz : (W.alloc (.cells #[.string g.name, .int .i64 g.bound, .int .i64 g.states, .slice ra g.rules.length rc] 57)).heap.size = W.heap.size + 1 := by simp
  rw [hsz] at hO2
  have hO1' := hO1.keep hgr2
  have hgr := hgr1.trans hgr2
  have b0 := hO1'.cell_at (i := 0) rfl
  have b1 := hO1'.cell_at (i := 1) rfl
  have b2 := hO1'.cell_at (i := 2) rfl
  have b3 := hO1'.cell_at (i := 3) rfl
  have n0 := hO2.cell_at (i := 0) rfl
  have n1 := hO2.cell_at (i := 1) rfl
  have n2 := hO2.cell_at (i := 2) rfl
  have n3 := hO2.cell_at (i := 3) rfl
  have n4 := hO2.cell_at (i := 4) rfl
  obtain ⟨rb, ro, rfl, hrb, hrule⟩ := (q9.keep hgr).get hi
  simp only [Nat.zero_add] at hrule
  obtain ⟨w2, w3, w4, w5, w6, s0, s1, s2, s3, s4, s5, s6, s7, s8, s9, -, -⟩ := hrule.vals
  have hb1 := hO1'.lt
  have hb2 := hO2.lt
  have hle := hgr.size
  have HGR := Lib.hid hgr
  have HG := Lib.hid ((hG.keep hgr).mono hgr.size)
  have HN := Lib.hid ((hN.keep hgr).mono hgr.size)
  have HES := Lib.hid hes
  clear hG hN hgr hgr1 hgr2 hO1 hO2 hO1' hrule q9 hes hsz
  have hrb2 : rb < ((W.alloc (.cells #[.string g.name, .int .i64 g.bound, .int .i64 g.states, .slice (some ⟨rb, ro, none⟩) g.rules.length rc] 57)).alloc (.cells #[u0, u1, u2, u3, u4] 104)).heap.size := by omega
  unfold reachN at q8 q2
  go_enter Try.func94, Try.ntmps94
  go_wp2_with fail
  generalize (W.alloc (.cells #[.string g.name, .int .i64 g.bound, .int .i64 g.states, .slice (some ⟨rb, ro, none⟩) g.rules.length rc] 57)).alloc (.cells #[u0, u1, u2, u3, u4] 104) = wa at *
  refine wp_region_hav_lit follows (by kernel_rfl) ?_
  repeat (first
    | (refine HavG.skip (fun _ => rfl) ?_; simp only [Act.put, List.setIfInBounds_toArray, List.set_cons_zero, List.set_cons_succ])
    | (refine HavG.val (fun _ => rfl) ?_ (fun x w hw _ => ?_) ?_; rotate_left; (focus (have hc := hw.cells; clear hw; go_simp; first | done | rfl)); simp only [Act.put, List.setIfInBounds_toArray, List.set_cons_zero, List.set_cons_succ]))
  refine HavG.any (fun _ => rfl) (fun v w => ∃ ab eb, v = .pointer (some ⟨ab, 0, none⟩) ∧ AskAt w ab eb g es) ?_ (fun x w hw _ => ?_) ?_
  · rintro v w w' hg ⟨ab, eb, h1, h2⟩
    exact ⟨ab, eb, h1, h2.keep hg⟩
  · have HW := Lib.hid hw
    clear hw
    go_simp
    refine (known_ok g w _ _ _ _ ((HG.out.keep HW.out).mono HW.out.size)).mono ?_
    rintro e w' ⟨ab, eb, es', rfl, hes', hown, hb⟩
    have := hes'.unique HES.out
    subst this
    exact ⟨hb, ab, rfl, eb, hown.ask⟩
  simp only [Act.put, List.setIfInBounds_toArray, List.set_cons_zero, List.set_cons_succ]
  repeat (first
    | (refine HavG.skip (fun _ => rfl) ?_; simp only [Act.put, List.setIfInBounds_toArray, List.set_cons_zero, List.set_cons_succ])
    | (refine HavG.val (fun _ => rfl) ?_ (fun x w hw _ => ?_) ?_; rotate_left; (focus (have hc := hw.cells; clear hw; go_simp; first | done | rfl)); simp only [Act.put, List.setIfInBounds_toArray, List.set_cons_zero, List.set_cons_succ]))
  refine HavG.det (fun _ => rfl) (.bool g.rules[i].token) (fun x w hw _ => ?_) ?_
  · have HW := Lib.hid hw
    clear hw
    go_simp
    refine (token_ok g.rules[i] _ _ _ _ _ _ _ _ _ _ _ rfl).mono ?_
    rintro e w' ⟨rfl, hb⟩
    exact ⟨rfl, hb⟩
  simp only [Act.put, List.setIfInBounds_toArray, List.set_cons_zero, List.set_cons_succ]
  repeat (first
    | (refine HavG.skip (fun _ => rfl) ?_; simp only [Act.put, List.setIfInBounds_toArray, List.set_cons_zero, List.set_cons_succ])
    | (refine HavG.val (fun _ => rfl) ?_ (fun x w hw _ => ?_) ?_; rotate_left; (focus (have hc := hw.cells; clear hw; go_simp; first | done | rfl)); simp only [Act.put, List.setIfInBounds_toArray, List.set_cons_zero, List.set_cons_succ]))
  obtain ⟨bm, hbm⟩ : ∃ bm, bm = g.may es g.rules[i].token n := ⟨_, rfl⟩
  have HBM := Lib.hid hbm
  clear hbm
  refine HavG.det (fun _ => rfl) (.bool bm) (fun x w hw hd => ?_) ?_
  · obtain ⟨ab, eb, hxe, hask⟩ := hd _ (List.mem_append_right _ (List.mem_singleton.2 rfl)) (by kernel_rfl)
    dsimp only at hxe
    clear hd
    generalize x (0 + 1) = yv at *
    subst hxe
    have HW := Lib.hid hw
    have HA := Lib.hid hask
    clear hw hask
    go_simp
    rw [HBM.out]
    refine (may_ok g es g.rules[i].token n _ ab eb _ _ _ _ _ HA.out ((HN.out.keep HW.out).mono HW.out.size)).mono ?_
    rintro e w' ⟨rfl, hb⟩
    exact ⟨rfl, hb⟩
  simp only [Act.put, List.setIfInBounds_toArray, List.set_cons_zero, List.set_cons_succ]
  repeat (first
    | (refine HavG.skip (fun _ => rfl) ?_; simp only [Act.put, List.setIfInBounds_toArray, List.set_cons_zero, List.set_cons_succ])
    | (refine HavG.val (fun _ => rfl) ?_ (fun x w hw _ => ?_) ?_; rotate_left; (focus (have hc := hw.cells; clear hw; go_simp; first | done | rfl)); simp only [Act.put, List.setIfInBounds_toArray, List.set_cons_zero, List.set_cons_succ]))
  refine HavG.tail (by kernel_rfl) (by kernel_rfl) (fun x w hw _ => ?_)
  have HW := Lib.hid hw
  clear hw
  go_wp2_with fail
  go_ret
  exact ⟨ret_bool HBM.out, HGR.out.trans HW.out⟩
end Go.Proofs.Ytgdcnndmdgcjlaa

/- checks.rule's third question of a node: is it a loop of what may be empty? -/
namespace Go.Proofs.Ytgdcnndmdgcjlaa
open Go.RowKit
theorem loopBad_nil (g : Gr) (es : List Bool) (r : Rl) (k : Int) (nm tx : ByteArray) (set : List (Int × Int)) : g.loopBad es r (.mk k nm tx set []) = false := by
  unfold Gr.loopBad
  simp [Nd.subs]
theorem loopBad_cons (g : Gr) (es : List Bool) (r : Rl) (k : Int) (nm tx : ByteArray) (set : List (Int × Int)) (s : Nd) (l : List Nd) : g.loopBad es r (.mk k nm tx set (s :: l)) = ((k == 3 || k == 4) && g.may es r.token s) := rfl
set_option maxHeartbeats 2000000 in
set_option maxRecDepth 20000 in
theorem rule3_ok (g : Gr) (es : List Bool) (hes : g.IsEmpty es) (i : Nat) (hi : i < g.rules.length) (n : Nd) (W : World) (cb pc pi : Nat) (v0 v1 v2 v3 v4 : Value) (hG : GrCell W cb g) (hp : W.cell? ⟨pc, 0, none⟩ = some (.pointer (some ⟨cb, 0, none⟩)))
    (hI : W.cell? ⟨pi, 0, none⟩ = some (.int .i64 (i : Int))) (hN : NodeAt W W.heap.size (some v0) (some v1) (some v2) (some v3) (some v4) n) :
    Calls Try.prog 93 (#[.agg #[v0, v1, v2, v3, v4]] ++ #[.pointer (some ⟨pc, 0, none⟩), .pointer (some ⟨pi, 0, none⟩)]) W fun e W' => e = .returned (.bool (g.loopBad es g.rules[i] n)) ∧ Grew W W' := by
  obtain ⟨k, nm, tx, set, subs⟩ := n
  rw [NodeAt] at hN
  obtain ⟨hk, h1, h2, h3, h4, h5, ⟨sa, sc, h6, -, -⟩, na, nc, h7, h8, h9⟩ := hN
  obtain rfl := Option.some.inj h3
  obtain rfl := Option.some.inj h4
  obtain rfl := Option.some.inj h5
  obtain rfl := Option.some.inj h6
  obtain rfl := Option.some.inj h7
  clear h3 h4 h5 h6 h7 hk
  unfold reachN at h1 h2 h8
  have hgr := grew_alloc W (.cells #[.int .u8 k, .string nm, .string tx, .slice sa set.length sc, .slice na subs.length nc] 104)
  have ho := Owns.alloc W [.int .u8 k, .string nm, .string tx, .slice sa set.length sc, .slice na subs.length nc] 104
  have hpl := lt_of_cell hp
  have hil := lt_of_cell hI
  have hp' : (W.alloc (.cells #[.int .u8 k, .string nm, .string tx, .slice sa set.length sc, .slice na subs.length nc] 104)).cell? ⟨pc, 0, none⟩ = some (.pointer (some ⟨cb, 0, none⟩)) := by rw [hgr.cells _ _ hpl]; exact hp
  have hI' : (W.alloc (.cells #[.int .u8 k, .string nm, .string tx, .slice sa set.length sc, .slice na subs.length nc] 104)).cell? ⟨pi, 0, none⟩ = some (.int .i64 (i : Int)) := by rw [hgr.cells _ _ hil]; exact hI
  obtain ⟨hcl, g0, g1, g2, g3, d0, d1, d2, d3, hGA⟩ := hG.grew hgr
  have b0 := ho.cell_at (i := 0) rfl
  have b4 := ho.cell_at (i := 4) rfl
  have bl := ho.lt
  have hpl' : pc < (W.alloc (.cells #[.int .u8 k, .string nm, .string tx, .slice sa set.length sc, .slice na subs.length nc] 104)).heap.size := by have := hgr.size; omega
  have hil' : pi < (W.alloc (.cells #[.int .u8 k, .string nm, .string tx, .slice sa set.length sc, .slice na subs.length nc] 104)).heap.size := by have := hgr.size; omega
  have HGR := Lib.hid hgr
  have HG := Lib.hid hGA
  have H9 := Lib.hid ((h9.keep hgr).mono hgr.size)
  clear hgr ho hp hG hI hGA h9
  simp only [List.append_toArray, List.cons_append, List.nil_append]
  cases subs with
  | nil =>
    rw [loopBad_nil]
    by_cases hk3 : k = 3
    · subst hk3
      go_enter Try.func93, Try.ntmps93
      go_wp2_with fail
      refine wp_region_hav_lit follows (by kernel_rfl) ?_
      repeat (first
        | (refine HavG.skip (fun _ => rfl) ?_; simp only [Act.put, List.setIfInBounds_toArray, List.set_cons_zero, List.set_cons_succ])
        | (refine HavG.val (fun _ => rfl) ?_ (fun x w hw _ => ?_) ?_; rotate_left; (focus (have hc := hw.cells; clear hw; go_simp; first | done | rfl)); simp only [Act.put, List.setIfInBounds_toArray, List.set_cons_zero, List.set_cons_succ]))
      refine HavG.tail (by kernel_rfl) (by kernel_rfl) (fun x w hw _ => ?_)
      go_wp2
      go_ret
      exact ⟨rfl, HGR.out.trans hw⟩
    · by_cases hk4 : k = 4
      · subst hk4
        go_enter Try.func93, Try.ntmps93
        go_wp2_with fail
        refine wp_region_hav_lit follows (by kernel_rfl) ?_
        repeat (first
          | (refine HavG.skip (fun _ => rfl) ?_; simp only [Act.put, List.setIfInBounds_toArray, List.set_cons_zero, List.set_cons_succ])
          | (refine HavG.val (fun _ => rfl) ?_ (fun x w hw _ => ?_) ?_; rotate_left; (focus (have hc := hw.cells; clear hw; go_simp; first | done | rfl)); simp only [Act.put, List.setIfInBounds_toArray, List.set_cons_zero, List.set_cons_succ]))
        refine HavG.tail (by kernel_rfl) (by kernel_rfl) (fun x w hw _ => ?_)
        go_wp2
        go_ret
        exact ⟨rfl, HGR.out.trans hw⟩
      · have e3 : (k == 3) = false := beq_eq_false_iff_ne.2 hk3
        have e4 : (k == 4) = false := beq_eq_false_iff_ne.2 hk4
        go_enter Try.func93, Try.ntmps93
        go_wp2_with fail
        refine wp_region_hav_lit follows (by kernel_rfl) ?_
        repeat (first
          | (refine HavG.skip (fun _ => rfl) ?_; simp only [Act.put, List.setIfInBounds_toArray, List.set_cons_zero, List.set_cons_succ])
          | (refine HavG.val (fun _ => rfl) ?_ (fun x w hw _ => ?_) ?_; rotate_left; (focus (have hc := hw.cells; clear hw; go_simp; first | done | rfl)); simp only [Act.put, List.setIfInBounds_toArray, List.set_cons_zero, List.set_cons_succ]))
        refine HavG.tail (by kernel_rfl) (by kernel_rfl) (fun x w hw _ => ?_)
        go_wp2
        go_ret
        exact ⟨rfl, HGR.out.trans hw⟩
  | cons s l =>
    rw [loopBad_cons]
    rw [NodesAt] at H9
    obtain ⟨⟨sb, so, rfl, hsb, hs⟩, -⟩ := H9.out
    clear H9
    simp only [Nat.zero_mul, Nat.add_zero] at hs
    obtain ⟨u0, u1, u2, u3, u4, q0, q1, q2, q3, q4, hs⟩ := hs.vals
    have HM := Lib.hid (fun w (hw : Grew (W.alloc (.cells #[.int .u8 k, .string nm, .string tx, .slice sa set.length sc, .slice (some ⟨sb, so, none⟩) (s :: l).length nc] 104)) w) => nmay_ok g es hes i hi s w g0 g1 g2 g3 u0 u1 u2 u3 u4 ((HG.out.keep hw).mono hw.size) ((hs.keep hw).mono hw.size))
    clear hs HG
    have hpos : 0 < (s :: l).length := by simp
    generalize g.may es g.rules[i].token s = mb at *
    generalize (s :: l).length = ln at *
    by_cases hk3 : k = 3
    · subst hk3
      go_enter Try.func93, Try.ntmps93
      go_wp2_with fail
      generalize W.alloc (.cells #[.int .u8 3, .string nm, .string tx, .slice sa set.length sc, .slice (some ⟨sb, so, none⟩) ln nc] 104) = w1 at *
      refine wp_region_hav_lit follows (by kernel_rfl) ?_
      repeat (first
        | (refine HavG.skip (fun _ => rfl) ?_; simp only [Act.put, List.setIfInBounds_toArray, List.set_cons_zero, List.set_cons_succ])
        | (refine HavG.val (fun _ => rfl) ?_ (fun x w hw _ => ?_) ?_; rotate_left; (focus (have hc := hw.cells; clear hw; go_simp; first | done | rfl)); simp only [Act.put, List.setIfInBounds_toArray, List.set_cons_zero, List.set_cons_succ]))
      refine HavG.det (fun _ => rfl) (.bool mb) (fun x w hw _ => ?_) ?_
      · have HW := Lib.hid hw
        clear hw
        go_simp
        refine (HM.out _ HW.out).mono ?_
        rintro e w' ⟨rfl, hb⟩
        exact ⟨rfl, hb⟩
      simp only [Act.put, List.setIfInBounds_toArray, List.set_cons_zero, List.set_cons_succ]
      repeat (first
        | (refine HavG.skip (fun _ => rfl) ?_; simp only [Act.put, List.setIfInBounds_toArray, List.set_cons_zero, List.set_cons_succ])
        | (refine HavG.val (fun _ => rfl) ?_ (fun x w hw _ => ?_) ?_; rotate_left; (focus (have hc := hw.cells; clear hw; go_simp; first | done | rfl)); simp only [Act.put, List.setIfInBounds_toArray, List.set_cons_zero, List.set_cons_succ]))
      refine HavG.tail (by kernel_rfl) (by kernel_rfl) (fun x w hw _ => ?_)
      go_wp2
      go_ret
      exact ⟨by simp, HGR.out.trans hw⟩
    · by_cases hk4 : k = 4
      · subst hk4
        go_enter Try.func93, Try.ntmps93
        go_wp2_with fail
        generalize W.alloc (.cells #[.int .u8 4, .string nm, .string tx, .slice sa set.length sc, .slice (some ⟨sb, so, none⟩) ln nc] 104) = w1 at *
        refine wp_region_hav_lit follows (by kernel_rfl) ?_
        repeat (first
          | (refine HavG.skip (fun _ => rfl) ?_; simp only [Act.put, List.setIfInBounds_toArray, List.set_cons_zero, List.set_cons_succ])
          | (refine HavG.val (fun _ => rfl) ?_ (fun x w hw _ => ?_) ?_; rotate_left; (focus (have hc := hw.cells; clear hw; go_simp; first | done | rfl)); simp only [Act.put, List.setIfInBounds_toArray, List.set_cons_zero, List.set_cons_succ]))
        refine HavG.det (fun _ => rfl) (.bool mb) (fun x w hw _ => ?_) ?_
        · have HW := Lib.hid hw
          clear hw
          go_simp
          refine (HM.out _ HW.out).mono ?_
          rintro e w' ⟨rfl, hb⟩
          exact ⟨rfl, hb⟩
        simp only [Act.put, List.setIfInBounds_toArray, List.set_cons_zero, List.set_cons_succ]
        repeat (first
          | (refine HavG.skip (fun _ => rfl) ?_; simp only [Act.put, List.setIfInBounds_toArray, List.set_cons_zero, List.set_cons_succ])
          | (refine HavG.val (fun _ => rfl) ?_ (fun x w hw _ => ?_) ?_; rotate_left; (focus (have hc := hw.cells; clear hw; go_simp; first | done | rfl)); simp only [Act.put, List.setIfInBounds_toArray, List.set_cons_zero, List.set_cons_succ]))
        refine HavG.tail (by kernel_rfl) (by kernel_rfl) (fun x w hw _ => ?_)
        go_wp2
        go_ret
        exact ⟨by simp, HGR.out.trans hw⟩
      · have e3 : (k == 3) = false := beq_eq_false_iff_ne.2 hk3
        have e4 : (k == 4) = false := beq_eq_false_iff_ne.2 hk4
        go_enter Try.func93, Try.ntmps93
        go_wp2_with fail
        refine wp_region_hav_lit follows (by kernel_rfl) ?_
        repeat (first
          | (refine HavG.skip (fun _ => rfl) ?_; simp only [Act.put, List.setIfInBounds_toArray, List.set_cons_zero, List.set_cons_succ])
          | (refine HavG.val (fun _ => rfl) ?_ (fun x w hw _ => ?_) ?_; rotate_left; (focus (have hc := hw.cells; clear hw; go_simp; first | done | rfl)); simp only [Act.put, List.setIfInBounds_toArray, List.set_cons_zero, List.set_cons_succ]))
        refine HavG.tail (by kernel_rfl) (by kernel_rfl) (fun x w hw _ => ?_)
        go_wp2
        go_ret
        exact ⟨by simp [e3, e4], HGR.out.trans hw⟩
end Go.Proofs.Ytgdcnndmdgcjlaa

/- checks.rule's second question of a node: does it name a rule of a sort that may not be named there? -/
namespace Go.Proofs.Ytgdcnndmdgcjlaa
open Go.RowKit
def RuleBox (W : World) (pr : Nat) (r : Rl) : Prop := ∃ v2 v3 v4 v5 v6, Owns W pr [.string r.name, .int .u8 r.sort, v2, v3, v4, v5, v6, .int .i64 r.p0, .int .i64 r.p1, .int .i64 r.p2] 108
theorem RuleBox.grew {W W' : World} {pr : Nat} {r : Rl} (h : RuleBox W pr r) (hg : Grew W W') : RuleBox W' pr r := by
  obtain ⟨v2, v3, v4, v5, v6, h⟩ := h
  exact ⟨v2, v3, v4, v5, v6, h.keep hg⟩
set_option maxHeartbeats 2000000 in
set_option maxRecDepth 20000 in
theorem rule2_ok (g : Gr) (r : Rl) (n : Nd) (W : World) (cb pc pr : Nat) (v0 v1 v2 v3 v4 : Value) (hG : GrCell W cb g) (hp : W.cell? ⟨pc, 0, none⟩ = some (.pointer (some ⟨cb, 0, none⟩))) (hR : RuleBox W pr r) (hN : NodeAt W W.heap.size (some v0) (some v1) (some v2) (some v3) (some v4) n) :
    Calls Try.prog 91 (#[.agg #[v0, v1, v2, v3, v4]] ++ #[.pointer (some ⟨pc, 0, none⟩), .pointer (some ⟨pr, 0, none⟩)]) W fun e W' => e = .returned (.bool (g.sortBad r n)) ∧ Grew W W' := by
  obtain ⟨k, nm, tx, set, subs⟩ := n
  rw [NodeAt] at hN
  obtain ⟨hk, h1, h2, h3, h4, h5, ⟨sa, sc, h6, -, -⟩, na, nc, h7, -, -⟩ := hN
  obtain rfl := Option.some.inj h3
  obtain rfl := Option.some.inj h4
  obtain rfl := Option.some.inj h5
  obtain rfl := Option.some.inj h6
  obtain rfl := Option.some.inj h7
  clear h3 h4 h5 h6 h7 hk
  unfold reachN at h1 h2
  have hgr := grew_alloc W (.cells #[.int .u8 k, .string nm, .string tx, .slice sa set.length sc, .slice na subs.length nc] 104)
  have ho := Owns.alloc W [.int .u8 k, .string nm, .string tx, .slice sa set.length sc, .slice na subs.length nc] 104
  have hpl := lt_of_cell hp
  have hp' : (W.alloc (.cells #[.int .u8 k, .string nm, .string tx, .slice sa set.length sc, .slice na subs.length nc] 104)).cell? ⟨pc, 0, none⟩ = some (.pointer (some ⟨cb, 0, none⟩)) := by rw [hgr.cells _ _ hpl]; exact hp
  obtain ⟨hcl, g0, g1, g2, g3, d0, d1, d2, d3, hGA⟩ := hG.grew hgr
  obtain ⟨u2, u3, u4, u5, u6, hrb⟩ := hR.grew hgr
  have b0 := ho.cell_at (i := 0) rfl
  have b1 := ho.cell_at (i := 1) rfl
  have b2 := ho.cell_at (i := 2) rfl
  have b3 := ho.cell_at (i := 3) rfl
  have b4 := ho.cell_at (i := 4) rfl
  have bl := ho.lt
  have hpl' : pc < (W.alloc (.cells #[.int .u8 k, .string nm, .string tx, .slice sa set.length sc, .slice na subs.length nc] 104)).heap.size := by have := hgr.size; omega
  have r0 := hrb.cell_at (i := 0) rfl
  have r1 := hrb.cell_at (i := 1) rfl
  have r2 := hrb.cell_at (i := 2) rfl
  have r3 := hrb.cell_at (i := 3) rfl
  have r4 := hrb.cell_at (i := 4) rfl
  have r5 := hrb.cell_at (i := 5) rfl
  have r6 := hrb.cell_at (i := 6) rfl
  have r7 := hrb.cell_at (i := 7) rfl
  have r8 := hrb.cell_at (i := 8) rfl
  have r9 := hrb.cell_at (i := 9) rfl
  have rl := hrb.lt
  have HNm := Lib.hid (fun w => names_ok (.mk k nm tx set subs) w (.int .u8 k) (.string nm) (.string tx) (.slice sa set.length sc) (.slice na subs.length nc) rfl)
  have HSo := Lib.hid (fun o w => sorted_ok r (.mk k nm tx set subs) o w (.string r.name) (.int .u8 r.sort) u2 u3 u4 u5 u6 (.int .i64 r.p0) (.int .i64 r.p1) (.int .i64 r.p2) (.int .u8 k) (.string nm) (.string tx) (.slice sa set.length sc) (.slice na subs.length nc) rfl rfl)
  have HF := Lib.hid (fun w hg' => find_ok g nm w g0 g1 g2 g3 hg')
  have hfin : Hid (g.sortBad r (.mk k nm tx set subs) = ((Nd.mk k nm tx set subs).isName && (decide (0 ≤ g.find nm) && !sortedB r (.mk k nm tx set subs) (g.sortAt (g.find nm))))) := rfl
  have HG := Lib.hid hGA
  have HGR := Lib.hid hgr
  generalize hisn : (Nd.mk k nm tx set subs).isName = isn at *
  clear hGA hgr ho hp hG hisn hrb hR
  simp only [List.append_toArray, List.cons_append, List.nil_append]
  rcases ixOf_cases g.rules (fun r => sameB r.name nm) with ⟨hi, _⟩ | ⟨j, hj, hi, _, _⟩
  · change g.find nm = -1 at hi
    rw [hi] at HF hfin
    clear hi
    go_enter Try.func91, Try.ntmps91
    go_wp2_with fail
    generalize W.alloc (.cells #[.int .u8 k, .string nm, .string tx, .slice sa set.length sc, .slice na subs.length nc] 104) = w1 at *
    refine wp_region_hav_lit follows (by kernel_rfl) ?_
    repeat (first
      | (refine HavG.skip (fun _ => rfl) ?_; simp only [Act.put, List.setIfInBounds_toArray, List.set_cons_zero, List.set_cons_succ])
      | (refine HavG.val (fun _ => rfl) ?_ (fun x w hw _ => ?_) ?_; rotate_left; (focus (have hc := hw.cells; clear hw; go_simp; first | done | rfl)); simp only [Act.put, List.setIfInBounds_toArray, List.set_cons_zero, List.set_cons_succ]))
    refine HavG.det (fun _ => rfl) (.int .i64 (-1)) (fun x w hw _ => ?_) ?_
    · have HW := Lib.hid hw
      clear hw
      go_simp
      refine (HF.out _ ((HG.out.keep HW.out).mono HW.out.size)).mono ?_
      rintro e w' ⟨rfl, hb⟩
      exact ⟨rfl, hb⟩
    simp only [Act.put, List.setIfInBounds_toArray, List.set_cons_zero, List.set_cons_succ]
    repeat (first
      | (refine HavG.skip (fun _ => rfl) ?_; simp only [Act.put, List.setIfInBounds_toArray, List.set_cons_zero, List.set_cons_succ])
      | (refine HavG.val (fun _ => rfl) ?_ (fun x w hw _ => ?_) ?_; rotate_left; (focus (have hc := hw.cells; clear hw; go_simp; first | done | rfl)); simp only [Act.put, List.setIfInBounds_toArray, List.set_cons_zero, List.set_cons_succ]))
    refine HavG.tail (by kernel_rfl) (by kernel_rfl) (fun x w hw _ => ?_)
    have hc1 := hw.cells
    have HW1 := Lib.hid hw
    have hwz := hw.size
    clear hw
    go_wp2_with fail
    cases isn
    · refine wp_region_hav_lit follows (by kernel_rfl) ?_
      repeat (first
        | (refine HavG.skip (fun _ => rfl) ?_; simp only [Act.put, List.setIfInBounds_toArray, List.set_cons_zero, List.set_cons_succ])
        | (refine HavG.val (fun _ => rfl) ?_ (fun x w hw _ => ?_) ?_; rotate_left; (focus (have hc := (HW1.out.trans hw).cells; clear hw; go_simp; first | done | rfl)); simp only [Act.put, List.setIfInBounds_toArray, List.set_cons_zero, List.set_cons_succ]))
      refine HavG.det (fun _ => rfl) (.bool false) (fun x w hw _ => ?_) ?_
      · have HW := Lib.hid hw
        clear hw
        go_simp
        refine (HNm.out _).mono ?_
        rintro e w' ⟨rfl, hb⟩
        exact ⟨rfl, hb⟩
      simp only [Act.put, List.setIfInBounds_toArray, List.set_cons_zero, List.set_cons_succ]
      repeat (first
        | (refine HavG.skip (fun _ => rfl) ?_; simp only [Act.put, List.setIfInBounds_toArray, List.set_cons_zero, List.set_cons_succ])
        | (refine HavG.val (fun _ => rfl) ?_ (fun x w hw _ => ?_) ?_; rotate_left; (focus (have hc := (HW1.out.trans hw).cells; clear hw; go_simp; first | done | rfl)); simp only [Act.put, List.setIfInBounds_toArray, List.set_cons_zero, List.set_cons_succ]))
      refine HavG.tail (by kernel_rfl) (by kernel_rfl) (fun x w hw _ => ?_)
      go_wp2
      go_ret
      exact ⟨by rw [hfin.out]; rfl, HGR.out.trans (HW1.out.trans hw)⟩
    · refine wp_region_hav_lit follows (by kernel_rfl) ?_
      repeat (first
        | (refine HavG.skip (fun _ => rfl) ?_; simp only [Act.put, List.setIfInBounds_toArray, List.set_cons_zero, List.set_cons_succ])
        | (refine HavG.val (fun _ => rfl) ?_ (fun x w hw _ => ?_) ?_; rotate_left; (focus (have hc := (HW1.out.trans hw).cells; clear hw; go_simp; first | done | rfl)); simp only [Act.put, List.setIfInBounds_toArray, List.set_cons_zero, List.set_cons_succ]))
      refine HavG.det (fun _ => rfl) (.bool true) (fun x w hw _ => ?_) ?_
      · have HW := Lib.hid hw
        clear hw
        go_simp
        refine (HNm.out _).mono ?_
        rintro e w' ⟨rfl, hb⟩
        exact ⟨rfl, hb⟩
      simp only [Act.put, List.setIfInBounds_toArray, List.set_cons_zero, List.set_cons_succ]
      repeat (first
        | (refine HavG.skip (fun _ => rfl) ?_; simp only [Act.put, List.setIfInBounds_toArray, List.set_cons_zero, List.set_cons_succ])
        | (refine HavG.val (fun _ => rfl) ?_ (fun x w hw _ => ?_) ?_; rotate_left; (focus (have hc := (HW1.out.trans hw).cells; clear hw; go_simp; first | done | rfl)); simp only [Act.put, List.setIfInBounds_toArray, List.set_cons_zero, List.set_cons_succ]))
      refine HavG.tail (by kernel_rfl) (by kernel_rfl) (fun x w hw _ => ?_)
      go_wp2
      go_ret
      exact ⟨by rw [hfin.out]; rfl, HGR.out.trans (HW1.out.trans hw)⟩
  · change g.find nm = (j : Int) at hi
    rw [hi, sortAt_nat g j hj] at hfin
    rw [hi] at HF
    clear hi
    have hG' := HG.out
    obtain ⟨q1, q2, q3, q4, q5, q6, ra, rc, q7, q8, q9⟩ := hG'
    obtain rfl := Option.some.inj q1
    obtain rfl := Option.some.inj q3
    obtain rfl := Option.some.inj q4
    obtain rfl := Option.some.inj q7
    obtain ⟨rb, rof, rfl, hrb, hrule⟩ := q9.get hj
    simp only [Nat.zero_add] at hrule
    obtain ⟨-, -, e1, hs, -⟩ := hrule
    unfold reachN at q8 q2
    clear q1 q3 q4 q5 q6 q7 q9
    generalize g.rules[j].sort = srt at *
    have HSo' := Lib.hid (HSo.out srt)
    generalize sortedB r (Nd.mk k nm tx set subs) srt = sb at *
    clear HSo
    go_enter Try.func91, Try.ntmps91
    go_wp2_with fail
    generalize W.alloc (.cells #[.int .u8 k, .string nm, .string tx, .slice sa set.length sc, .slice na subs.length nc] 104) = w1 at *
    refine wp_region_hav_lit follows (by kernel_rfl) ?_
    repeat (first
      | (refine HavG.skip (fun _ => rfl) ?_; simp only [Act.put, List.setIfInBounds_toArray, List.set_cons_zero, List.set_cons_succ])
      | (refine HavG.val (fun _ => rfl) ?_ (fun x w hw _ => ?_) ?_; rotate_left; (focus (have hc := hw.cells; clear hw; go_simp; first | done | rfl)); simp only [Act.put, List.setIfInBounds_toArray, List.set_cons_zero, List.set_cons_succ]))
    refine HavG.det (fun _ => rfl) (.int .i64 (j : Int)) (fun x w hw _ => ?_) ?_
    · have HW := Lib.hid hw
      clear hw
      go_simp
      refine (HF.out _ ((HG.out.keep HW.out).mono HW.out.size)).mono ?_
      rintro e w' ⟨rfl, hb⟩
      exact ⟨rfl, hb⟩
    simp only [Act.put, List.setIfInBounds_toArray, List.set_cons_zero, List.set_cons_succ]
    repeat (first
      | (refine HavG.skip (fun _ => rfl) ?_; simp only [Act.put, List.setIfInBounds_toArray, List.set_cons_zero, List.set_cons_succ])
      | (refine HavG.val (fun _ => rfl) ?_ (fun x w hw _ => ?_) ?_; rotate_left; (focus (have hc := hw.cells; clear hw; go_simp; first | done | rfl)); simp only [Act.put, List.setIfInBounds_toArray, List.set_cons_zero, List.set_cons_succ]))
    refine HavG.tail (by kernel_rfl) (by kernel_rfl) (fun x w hw _ => ?_)
    have hc1 := hw.cells
    have HW1 := Lib.hid hw
    have hwz := hw.size
    clear hw
    go_wp2_with fail
    cases isn
    · refine wp_region_hav_lit follows (by kernel_rfl) ?_
      repeat (first
        | (refine HavG.skip (fun _ => rfl) ?_; simp only [Act.put, List.setIfInBounds_toArray, List.set_cons_zero, List.set_cons_succ])
        | (refine HavG.val (fun _ => rfl) ?_ (fun x w hw _ => ?_) ?_; rotate_left; (focus (have hc := (HW1.out.trans hw).cells; clear hw; go_simp; first | done | rfl)); simp only [Act.put, List.setIfInBounds_toArray, List.set_cons_zero, List.set_cons_succ]))
      refine HavG.det (fun _ => rfl) (.bool false) (fun x w hw _ => ?_) ?_
      · have HW := Lib.hid hw
        clear hw
        go_simp
        refine (HNm.out _).mono ?_
        rintro e w' ⟨rfl, hb⟩
        exact ⟨rfl, hb⟩
      simp only [Act.put, List.setIfInBounds_toArray, List.set_cons_zero, List.set_cons_succ]
      repeat (first
        | (refine HavG.skip (fun _ => rfl) ?_; simp only [Act.put, List.setIfInBounds_toArray, List.set_cons_zero, List.set_cons_succ])
        | (refine HavG.val (fun _ => rfl) ?_ (fun x w hw _ => ?_) ?_; rotate_left; (focus (have hc := (HW1.out.trans hw).cells; clear hw; go_simp; first | done | rfl)); simp only [Act.put, List.setIfInBounds_toArray, List.set_cons_zero, List.set_cons_succ]))
      refine HavG.tail (by kernel_rfl) (by kernel_rfl) (fun x w hw _ => ?_)
      go_wp2
      go_ret
      exact ⟨by rw [hfin.out]; rfl, HGR.out.trans (HW1.out.trans hw)⟩
    · refine wp_region_hav_lit follows (by kernel_rfl) ?_
      repeat (first
        | (refine HavG.skip (fun _ => rfl) ?_; simp only [Act.put, List.setIfInBounds_toArray, List.set_cons_zero, List.set_cons_succ])
        | (refine HavG.val (fun _ => rfl) ?_ (fun x w hw _ => ?_) ?_; rotate_left; (focus (have hc := (HW1.out.trans hw).cells; clear hw; go_simp; first | done | rfl)); simp only [Act.put, List.setIfInBounds_toArray, List.set_cons_zero, List.set_cons_succ]))
      refine HavG.det (fun _ => rfl) (.bool true) (fun x w hw _ => ?_) ?_
      · have HW := Lib.hid hw
        clear hw
        go_simp
        refine (HNm.out _).mono ?_
        rintro e w' ⟨rfl, hb⟩
        exact ⟨rfl, hb⟩
      simp only [Act.put, List.setIfInBounds_toArray, List.set_cons_zero, List.set_cons_succ]
      repeat (first
        | (refine HavG.skip (fun _ => rfl) ?_; simp only [Act.put, List.setIfInBounds_toArray, List.set_cons_zero, List.set_cons_succ])
        | (refine HavG.val (fun _ => rfl) ?_ (fun x w hw _ => ?_) ?_; rotate_left; (focus (have hc := (HW1.out.trans hw).cells; clear hw; go_simp; first | done | rfl)); simp only [Act.put, List.setIfInBounds_toArray, List.set_cons_zero, List.set_cons_succ]))
      refine HavG.det (fun _ => rfl) (.bool sb) (fun x w hw _ => ?_) ?_
      · have HW := Lib.hid hw
        clear hw
        go_simp
        refine (HSo'.out _).mono ?_
        rintro e w' ⟨rfl, hb⟩
        exact ⟨rfl, hb⟩
      simp only [Act.put, List.setIfInBounds_toArray, List.set_cons_zero, List.set_cons_succ]
      repeat (first
        | (refine HavG.skip (fun _ => rfl) ?_; simp only [Act.put, List.setIfInBounds_toArray, List.set_cons_zero, List.set_cons_succ])
        | (refine HavG.val (fun _ => rfl) ?_ (fun x w hw _ => ?_) ?_; rotate_left; (focus (have hc := (HW1.out.trans hw).cells; clear hw; go_simp; first | done | rfl)); simp only [Act.put, List.setIfInBounds_toArray, List.set_cons_zero, List.set_cons_succ]))
      refine HavG.tail (by kernel_rfl) (by kernel_rfl) (fun x w hw _ => ?_)
      go_wp2
      all_goals
        go_ret
        exact ⟨by rw [hfin.out]; have : decide (0 ≤ (j : Int)) = true := decide_eq_true (by omega); simp [*], HGR.out.trans (HW1.out.trans hw)⟩
end Go.Proofs.Ytgdcnndmdgcjlaa

/- The rule for a statement whose order Go leaves open (Hav), for a round of a range over a function. No program in sight. -/
namespace Go.Proofs.Ytgdcnndmdgcjlaa
open Go.RowKit
section
variable {P : Program} {ops : Array Oper} {Q : Exit → Act → World → Prop} {l n : Nat}
theorem uponIn_of_upon {o : Oper} {a : Act} {K : Act → World → Prop} {r : Result Next} (h : o.upon P a K Q r) : o.uponIn (Fence.wide.inRound l) n P a K Q r := by
  cases r with
  | halt x w =>
    cases x <;> first
      | exact h
      | exact h.elim
  | ok m w =>
    cases m <;> first
      | exact h
      | exact h.elim
      | exact ⟨fun h => (by cases h), CallsIn.inRound l (callsIn_wide.2 h)⟩
      | exact ⟨fun h => (by cases h), fun c cs _ => let ⟨v, w', r, s⟩ := h c cs; ⟨v, w', r, stepsIn_wide.2 s⟩⟩
def noDefer (ops : Array Oper) : Bool := ops.toList.all fun o => match o.op with | .defer _ => false | _ => true
theorem wpOpIn_of {i : Nat} {K K' : Act → World → Prop} {a : Act} {w : World} (hnd : noDefer ops = true) (hQ : ¬ LetsOut Q) (hK : ∀ a w, K a w → K' a w) (h : wpOp P ops Q i K a w) : wpOpIn (Fence.wide.inRound l) n P ops Q i K' a w := by
  have h' := wpOp_mono hK h
  clear h hK
  unfold wpOp at h'
  unfold wpOpIn
  cases ho : ops[i]? with
  | none => simpa [ho] using h'
  | some o =>
    simp only [ho] at h'
    have hd : ∀ c, o.op ≠ .defer c := fun c hc => by
      have hm : o ∈ ops.toList := by
        have := Array.mem_of_getElem? ho
        simpa using this
      have := List.all_eq_true.1 hnd o hm
      rw [hc] at this
      cases this
    simp only
    split
    · rename_i hw
      rw [if_pos hw] at h'
      rcases h' with h' | ⟨_, h'⟩
      · refine ⟨fun _ _ => trivial, ?_⟩
        rw [Oper.semAt_eq _ _ _ hd]
        exact uponIn_of_upon h'
      · exact absurd h' hQ
    · rename_i hw
      rw [if_neg hw] at h'
      exact ⟨fun _ _ => trivial, h'⟩
theorem wpAnyIn_of {md : Region.Mode} (hnd : noDefer ops = true) (hQ : ¬ LetsOut Q) : ∀ (f : Nat) (S : Array Bool) (a : Act) (w : World), wpAny P md ops Q f S a w → wpAnyIn (Fence.wide.inRound l) n P md ops Q f S a w
  | 0, _, _, _, h => h
  | f + 1, _, _, _, h => ⟨h.1, fun i hi => wpOpIn_of hnd hQ (fun a w h' => wpAnyIn_of hnd hQ f _ a w h') (h.2 i hi)⟩
theorem wpAny_hav {a0 : Act} {w : World} (hok : havB ops = true) (h : HavG P ops Q w ops.toList 0 (fun _ => a0) []) : wpAny P .any ops Q ops.size (Array.replicate ops.size false) a0 { w with drawn := w.drawn + 1 } :=
  wpAny_havX grew_rel hok h.toX
theorem wpIn_region_hav {id : Nat} {a0 : Act} {w : World} (hm : P.follows .mixedOrders = true) (hok : havB ops = true) (hnd : noDefer ops = true) (hQ : ¬ LetsOut Q) (h : HavG P ops Q w ops.toList 0 (fun _ => a0) []) : (Code.region id ops true).wpIn (Fence.wide.inRound l) n P Q a0 w :=
  wpIn_region_any hm (wpAnyIn_of hnd hQ _ _ _ _ (wpAny_hav hok h))
theorem wpIn_region_hav_lit {id : Nat} {a0 : Act} {w : World} {os : List Oper} (hm : P.follows .mixedOrders = true) (hok : havB os.toArray = true) (hnd : noDefer os.toArray = true) (hQ : ¬ LetsOut Q) (h : HavG P os.toArray Q w os 0 (fun _ => a0) []) :
    (Code.region id os.toArray true).wpIn (Fence.wide.inRound l) n P Q a0 w :=
  wpIn_region_hav hm hok hnd hQ (by simpa using h)
end
end Go.Proofs.Ytgdcnndmdgcjlaa
