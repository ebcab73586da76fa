/- harbingerlaw06.sound: do all nodes name what they may, and do loops take something? -/
import Derived.Test.YtnopnihdobedcaaMayCall
import Derived.Test.YtnopnihdobedcaaRule3
import Derived.Test.YtnopnihdobedcaaFineLaw
import Derived.Test.YtnopnihdobedcaaOwn
import Derived.Deep.DeepCutAuto
import Derived.Outline
namespace Go.Proofs.Ytnopnihdobedcaa
open Go.RowKit

/-- does a node name what it may? -/
def Gr.nameFine (g : Gr) (r : Rl) (n : Nd) : Bool :=
  !(n.isName && (decide (g.find n.name < 0) || ((n.kind == 5) != (g.sortAt (g.find n.name) == 0)) || g.sortAt (g.find n.name) == 3 || (r.sort == 0 && g.sortAt (g.find n.name) == 2)))
theorem nodeFine_eq (g : Gr) (es : List Bool) (r : Rl) (n : Nd) : g.nodeFine es r n = (g.nameFine r n && !g.loopBad es r n) := rfl
theorem soundL_get (g : Gr) (es : List Bool) (r : Rl) : ∀ l : List Nd, g.soundL es r l = true ↔ ∀ j (h : j < l.length), g.soundN es r l[j] = true
  | [] => by rw [Gr.soundL]; simp
  | n :: l => by
    rw [Gr.soundL, Bool.and_eq_true, soundL_get g es r l]
    constructor
    · rintro ⟨h1, h2⟩ j hj
      cases j with
      | zero => exact h1
      | succ j => exact h2 j (by simpa using hj)
    · intro h
      exact ⟨h 0 (by simp), fun j hj => h (j + 1) (by simpa using hj)⟩
/-- the first j are fine -/
def SoundTo (g : Gr) (es : List Bool) (r : Rl) (l : List Nd) (j : Nat) : Prop := ∀ i (h : i < l.length), i < j → g.soundN es r l[i] = true
def NameIs (g : Gr) (r : Rl) (n : Nd) : Prop := g.nameFine r n = true

set_option maxHeartbeats 8000000 in
set_option maxRecDepth 20000 in
theorem sound6_ok (g : Gr) (es : List Bool) (hes : g.IsEmpty es) (i : Nat) (hi : i < g.rules.length) : ∀ (n : Nd) (W : World) (v0 v1 v2 v3 u0 u1 u2 u3 u4 : Value), GrAt W W.heap.size (some v0) (some v1) (some v2) (some v3) g →
    NodeAt W W.heap.size (some u0) (some u1) (some u2) (some u3) (some u4) n →
    Calls Try.prog 20 #[.agg #[v0, v1, v2, v3], .int .i64 (i : Int), .agg #[u0, u1, u2, u3, u4]] W fun e W' => e = .returned (.bool (g.soundN es g.rules[i] n)) ∧ Below W.heap.size W W' := by
  refine Nd.ind ?_
  intro k nm tx set subs ih W v0 v1 v2 v3 u0 u1 u2 u3 u4 hG hN
  have hsn : Hid (g.soundN es g.rules[i] (.mk k nm tx set subs) = (g.nameFine g.rules[i] (.mk k nm tx set subs) && !g.loopBad es g.rules[i] (.mk k nm tx set subs) && g.soundL es g.rules[i] subs)) := by
    unfold Hid
    rw [Gr.soundN, nodeFine_eq]
  have hG' := hG
  obtain ⟨q1, q2, q3, q4, q5, q6, ra, rc, q7, q8, q9⟩ := hG'
  obtain rfl := Option.some.inj q1
  obtain rfl := Option.some.inj q3
  obtain rfl := Option.some.inj q4
  obtain rfl := Option.some.inj q7
  rw [NodeAt] at hN
  obtain ⟨hk, h1, h2, h3, h4, h5, ⟨sa, sc, h6, -, -⟩, na, nc, h7, h8, h9⟩ := hN
  obtain rfl := Option.some.inj h3
  obtain rfl := Option.some.inj h4
  obtain rfl := Option.some.inj h5
  obtain rfl := Option.some.inj h6
  obtain rfl := Option.some.inj h7
  clear h3 h4 h5 h6 h7 hk q1 q3 q4 q5 q6 q7
  unfold reachN at h1 h2 h8 q2 q8
  have hg1 := grew_alloc W (.cells #[.string g.name, .int .i64 g.bound, .int .i64 g.states, .slice ra g.rules.length rc] 26)
  have hg2 := grew_alloc (W.alloc (.cells #[.string g.name, .int .i64 g.bound, .int .i64 g.states, .slice ra g.rules.length rc] 26)) (.cells #[.int .u8 k, .string nm, .string tx, .slice sa set.length sc, .slice na subs.length nc] 36)
  have o1 := (Owns.alloc W [.string g.name, .int .i64 g.bound, .int .i64 g.states, .slice ra g.rules.length rc] 26).keep hg2
  have o2 := Owns.alloc (W.alloc (.cells #[.string g.name, .int .i64 g.bound, .int .i64 g.states, .slice ra g.rules.length rc] 26)) [.int .u8 k, .string nm, .string tx, .slice sa set.length sc, .slice na subs.length nc] 36
  rw [World.size_alloc] at o2
  have hg := hg1.trans hg2
  have HO1 := Lib.hid o1
  have HO2 := Lib.hid o2
  have HGR := Lib.hid hg
  have HG := Lib.hid ((hG.keep hg).mono hg.size)
  have H9 := Lib.hid ((h9.keep hg).mono hg.size)
  have HIH := Lib.hid ih
  have HQ9 := Lib.hid ((q9.keep hg).mono hg.size)
  clear hg1 hg2 o1 o2 hg hG h9 ih q9
  go_enter Try.func20, Try.ntmps20
  go_upto_region 1 with fail
  generalize (W.alloc (.cells #[.string g.name, .int .i64 g.bound, .int .i64 g.states, .slice ra g.rules.length rc] 26)).alloc (.cells #[.int .u8 k, .string nm, .string tx, .slice sa set.length sc, .slice na subs.length nc] 36) = w1 at *
  have b0 := HO2.out.cell_at (i := 0) rfl
  have b1 := HO2.out.cell_at (i := 1) rfl
  have b4 := HO2.out.cell_at (i := 4) rfl
  have bl := HO2.out.lt
  have d0 := HO1.out.cell_at (i := 0) rfl
  have d1 := HO1.out.cell_at (i := 1) rfl
  have d2 := HO1.out.cell_at (i := 2) rfl
  have d3 := HO1.out.cell_at (i := 3) rfl
  have dl := HO1.out.lt
  go_cut [16] (fun s16 wx => s16 = .bool (k == 5 || k == 6) ∧ wx = w1)
  case first =>
    by_cases h5 : k = 5
    · subst h5
      go_wp2_with fail
      go_meet
      exact ⟨rfl, rfl⟩
    · have e5 : (k == 5) = false := beq_eq_false_iff_ne.2 h5
      by_cases h6 : k = 6
      · subst h6
        go_wp2_with fail
        go_meet
        exact ⟨rfl, rfl⟩
      · have e6 : (k == 6) = false := beq_eq_false_iff_ne.2 h6
        go_wp2_with fail
        go_meet
        exact ⟨by rw [e5, e6]; rfl, rfl⟩
  case rest =>
    obtain ⟨rfl, rfl⟩ := hcut
    go_upto_if 16 with fail
    obtain ⟨w1, rfl⟩ : ∃ z, z = wc := ⟨_, rfl⟩
    go_cut [7] (fun s7 wx => NameIs g g.rules[i] (.mk k nm tx set subs) ∧ Grew w1 wx)
    case first =>
      by_cases h5 : k = 5
      · subst h5
        rcases ixOf_cases g.rules (fun r => sameB r.name nm) with ⟨hf, _⟩ | ⟨j, hj, hf, _, _⟩
        · change g.find nm = -1 at hf
          have hnf : Hid (g.nameFine g.rules[i] (.mk 5 nm tx set subs) = false) := by
            unfold Hid Gr.nameFine
            simp only [Nd.name, Nd.kind, Nd.isName, hf]
            rfl
          have HF := Lib.hid (find_ok g nm w1 _ _ _ _ HG.out)
          go_wp2_with fail
          rw [hf] at HF
          refine HF.out.mono ?_
          rintro e w2 ⟨rfl, hw2b⟩
          have hw2 : Grew w1 w2 := hw2b
          clear hw2b
          have HW2 := Lib.hid hw2
          have hc2 := hw2.cells
          have hz2 := hw2.size
          clear hw2
          go_wp2_with fail
          refine wp_region_hav_lit follows (by kernel_rfl) ?_
          repeat (first
            | (refine HavG.skip (fun _ => rfl) ?_; simp only [Act.put, List.setIfInBounds_toArray, List.set_cons_zero, List.set_cons_succ])
            | (refine HavG.val (fun _ => rfl) ?_ (fun x w hw _ => ?_) ?_; rotate_left; (focus (have hc := (HW2.out.trans hw).cells; clear hw; go_simp; first | done | rfl)); simp only [Act.put, List.setIfInBounds_toArray, List.set_cons_zero, List.set_cons_succ]))
          refine HavG.tail (by kernel_rfl) (by kernel_rfl) (fun x wz hw _ => ?_)
          have HW3 := Lib.hid (HW2.out.trans hw)
          clear hw
          go_wp2_with fail
          go_ret
          exact ⟨ret_bool (by rw [hsn.out, hnf.out]; rfl), HGR.out.trans HW3.out⟩
        · change g.find nm = (j : Int) at hf
          obtain ⟨rb, ro, hre, hrb, hrj⟩ := HQ9.out.get hj
          obtain ⟨rb', ro', hre', -, hri⟩ := HQ9.out.get hi
          rw [hre] at hre'
          obtain ⟨rfl, rfl⟩ : rb = rb' ∧ ro = ro' := by
            have := Option.some.inj hre'
            injection this with h1 h2
            exact ⟨h1, h2⟩
          obtain rfl := hre
          simp only [Nat.zero_add] at hrj hri
          obtain ⟨-, -, ej, -, -⟩ := hrj
          obtain ⟨-, -, ei, -, -⟩ := hri
          have hnf0 : g.nameFine g.rules[i] (.mk 5 nm tx set subs) = !((true != (g.rules[j].sort == 0)) || g.rules[j].sort == 3 || (g.rules[i].sort == 0 && g.rules[j].sort == 2)) := by
            unfold Gr.nameFine
            have hj0 : decide ((j : Int) < 0) = false := decide_eq_false (by omega)
            simp only [Nd.name, Nd.kind, Nd.isName, hf, sortAt_nat g j hj, hj0]
            simp
          clear hre'
          have HNF := Lib.hid hnf0
          clear hnf0
          generalize g.rules[j].sort = sj at *
          have HEI := Lib.hid ei
          cases h0 : (sj == 0)
          · have n0 : ¬ sj = 0 := by simpa using h0
            cases h3 : (sj == 3)
            · have n3 : ¬ sj = 3 := by simpa using h3
              cases h2' : (sj == 2)
              · cases hi0 : (g.rules[i].sort == 0)
                · have hnf : Hid (g.nameFine g.rules[i] (.mk 5 nm tx set subs) = false) := by unfold Hid; rw [HNF.out]; simp [*]
                  have HF := Lib.hid (find_ok g nm w1 _ _ _ _ HG.out)
                  go_wp2_with fail
                  rw [hf] at HF
                  refine HF.out.mono ?_
                  rintro e w2 ⟨rfl, hw2b⟩
                  have hw2 : Grew w1 w2 := hw2b
                  clear hw2b
                  have HW2 := Lib.hid hw2
                  have hc2 := hw2.cells
                  have hz2 := hw2.size
                  clear hw2
                  go_wp2_with fail
                  refine wp_region_hav_lit follows (by kernel_rfl) ?_
                  repeat (first
                    | (refine HavG.skip (fun _ => rfl) ?_; simp only [Act.put, List.setIfInBounds_toArray, List.set_cons_zero, List.set_cons_succ])
                    | (refine HavG.val (fun _ => rfl) ?_ (fun x w hw _ => ?_) ?_; rotate_left; (focus (have hc := (HW2.out.trans hw).cells; clear hw; go_simp; first | done | rfl)); simp only [Act.put, List.setIfInBounds_toArray, List.set_cons_zero, List.set_cons_succ]))
                  refine HavG.tail (by kernel_rfl) (by kernel_rfl) (fun x wz hw _ => ?_)
                  have HW3 := Lib.hid (HW2.out.trans hw)
                  clear hw
                  go_wp2_with fail
                  go_ret
                  exact ⟨ret_bool (by rw [hsn.out, hnf.out]; rfl), HGR.out.trans HW3.out⟩
                · have hnf : Hid (g.nameFine g.rules[i] (.mk 5 nm tx set subs) = false) := by unfold Hid; rw [HNF.out]; simp [*]
                  have HF := Lib.hid (find_ok g nm w1 _ _ _ _ HG.out)
                  go_wp2_with fail
                  rw [hf] at HF
                  refine HF.out.mono ?_
                  rintro e w2 ⟨rfl, hw2b⟩
                  have hw2 : Grew w1 w2 := hw2b
                  clear hw2b
                  have HW2 := Lib.hid hw2
                  have hc2 := hw2.cells
                  have hz2 := hw2.size
                  clear hw2
                  go_wp2_with fail
                  refine wp_region_hav_lit follows (by kernel_rfl) ?_
                  repeat (first
                    | (refine HavG.skip (fun _ => rfl) ?_; simp only [Act.put, List.setIfInBounds_toArray, List.set_cons_zero, List.set_cons_succ])
                    | (refine HavG.val (fun _ => rfl) ?_ (fun x w hw _ => ?_) ?_; rotate_left; (focus (have hc := (HW2.out.trans hw).cells; clear hw; go_simp; first | done | rfl)); simp only [Act.put, List.setIfInBounds_toArray, List.set_cons_zero, List.set_cons_succ]))
                  refine HavG.tail (by kernel_rfl) (by kernel_rfl) (fun x wz hw _ => ?_)
                  have HW3 := Lib.hid (HW2.out.trans hw)
                  clear hw
                  go_wp2_with fail
                  go_ret
                  exact ⟨ret_bool (by rw [hsn.out, hnf.out]; rfl), HGR.out.trans HW3.out⟩
              · obtain rfl : sj = 2 := by simpa using h2'
                cases hi0 : (g.rules[i].sort == 0)
                · have hnf : Hid (g.nameFine g.rules[i] (.mk 5 nm tx set subs) = false) := by unfold Hid; rw [HNF.out]; simp [*]
                  have HF := Lib.hid (find_ok g nm w1 _ _ _ _ HG.out)
                  go_wp2_with fail
                  rw [hf] at HF
                  refine HF.out.mono ?_
                  rintro e w2 ⟨rfl, hw2b⟩
                  have hw2 : Grew w1 w2 := hw2b
                  clear hw2b
                  have HW2 := Lib.hid hw2
                  have hc2 := hw2.cells
                  have hz2 := hw2.size
                  clear hw2
                  go_wp2_with fail
                  refine wp_region_hav_lit follows (by kernel_rfl) ?_
                  repeat (first
                    | (refine HavG.skip (fun _ => rfl) ?_; simp only [Act.put, List.setIfInBounds_toArray, List.set_cons_zero, List.set_cons_succ])
                    | (refine HavG.val (fun _ => rfl) ?_ (fun x w hw _ => ?_) ?_; rotate_left; (focus (have hc := (HW2.out.trans hw).cells; clear hw; go_simp; first | done | rfl)); simp only [Act.put, List.setIfInBounds_toArray, List.set_cons_zero, List.set_cons_succ]))
                  refine HavG.tail (by kernel_rfl) (by kernel_rfl) (fun x wz hw _ => ?_)
                  have HW3 := Lib.hid (HW2.out.trans hw)
                  clear hw
                  go_wp2_with fail
                  go_ret
                  exact ⟨ret_bool (by rw [hsn.out, hnf.out]; rfl), HGR.out.trans HW3.out⟩
                · have hnf : Hid (g.nameFine g.rules[i] (.mk 5 nm tx set subs) = false) := by unfold Hid; rw [HNF.out]; simp [*]
                  have HF := Lib.hid (find_ok g nm w1 _ _ _ _ HG.out)
                  go_wp2_with fail
                  rw [hf] at HF
                  refine HF.out.mono ?_
                  rintro e w2 ⟨rfl, hw2b⟩
                  have hw2 : Grew w1 w2 := hw2b
                  clear hw2b
                  have HW2 := Lib.hid hw2
                  have hc2 := hw2.cells
                  have hz2 := hw2.size
                  clear hw2
                  go_wp2_with fail
                  refine wp_region_hav_lit follows (by kernel_rfl) ?_
                  repeat (first
                    | (refine HavG.skip (fun _ => rfl) ?_; simp only [Act.put, List.setIfInBounds_toArray, List.set_cons_zero, List.set_cons_succ])
                    | (refine HavG.val (fun _ => rfl) ?_ (fun x w hw _ => ?_) ?_; rotate_left; (focus (have hc := (HW2.out.trans hw).cells; clear hw; go_simp; first | done | rfl)); simp only [Act.put, List.setIfInBounds_toArray, List.set_cons_zero, List.set_cons_succ]))
                  refine HavG.tail (by kernel_rfl) (by kernel_rfl) (fun x wz hw _ => ?_)
                  have HW3 := Lib.hid (HW2.out.trans hw)
                  clear hw
                  go_wp2_with fail
                  go_ret
                  exact ⟨ret_bool (by rw [hsn.out, hnf.out]; rfl), HGR.out.trans HW3.out⟩
            · obtain rfl : sj = 3 := by simpa using h3
              have hnf : Hid (g.nameFine g.rules[i] (.mk 5 nm tx set subs) = false) := by unfold Hid; rw [HNF.out]; simp [*]
              have HF := Lib.hid (find_ok g nm w1 _ _ _ _ HG.out)
              go_wp2_with fail
              rw [hf] at HF
              refine HF.out.mono ?_
              rintro e w2 ⟨rfl, hw2b⟩
              have hw2 : Grew w1 w2 := hw2b
              clear hw2b
              have HW2 := Lib.hid hw2
              have hc2 := hw2.cells
              have hz2 := hw2.size
              clear hw2
              go_wp2_with fail
              refine wp_region_hav_lit follows (by kernel_rfl) ?_
              repeat (first
                | (refine HavG.skip (fun _ => rfl) ?_; simp only [Act.put, List.setIfInBounds_toArray, List.set_cons_zero, List.set_cons_succ])
                | (refine HavG.val (fun _ => rfl) ?_ (fun x w hw _ => ?_) ?_; rotate_left; (focus (have hc := (HW2.out.trans hw).cells; clear hw; go_simp; first | done | rfl)); simp only [Act.put, List.setIfInBounds_toArray, List.set_cons_zero, List.set_cons_succ]))
              refine HavG.tail (by kernel_rfl) (by kernel_rfl) (fun x wz hw _ => ?_)
              have HW3 := Lib.hid (HW2.out.trans hw)
              clear hw
              go_wp2_with fail
              go_ret
              exact ⟨ret_bool (by rw [hsn.out, hnf.out]; rfl), HGR.out.trans HW3.out⟩
          · obtain rfl : sj = 0 := by simpa using h0
            cases hi0 : (g.rules[i].sort == 0)
            · have hnf : Hid (g.nameFine g.rules[i] (.mk 5 nm tx set subs) = true) := by unfold Hid; rw [HNF.out]; simp [*]
              have HF := Lib.hid (find_ok g nm w1 _ _ _ _ HG.out)
              go_wp2_with fail
              rw [hf] at HF
              refine HF.out.mono ?_
              rintro e w2 ⟨rfl, hw2b⟩
              have hw2 : Grew w1 w2 := hw2b
              clear hw2b
              have HW2 := Lib.hid hw2
              have hc2 := hw2.cells
              have hz2 := hw2.size
              clear hw2
              go_wp2_with fail
              refine wp_region_hav_lit follows (by kernel_rfl) ?_
              repeat (first
                | (refine HavG.skip (fun _ => rfl) ?_; simp only [Act.put, List.setIfInBounds_toArray, List.set_cons_zero, List.set_cons_succ])
                | (refine HavG.val (fun _ => rfl) ?_ (fun x w hw _ => ?_) ?_; rotate_left; (focus (have hc := (HW2.out.trans hw).cells; clear hw; go_simp; first | done | rfl)); simp only [Act.put, List.setIfInBounds_toArray, List.set_cons_zero, List.set_cons_succ]))
              refine HavG.tail (by kernel_rfl) (by kernel_rfl) (fun x wz hw _ => ?_)
              have HW3 := Lib.hid (HW2.out.trans hw)
              clear hw
              go_wp2_with fail
              go_meet
              exact ⟨hnf.out, HW3.out⟩
            · have hnf : Hid (g.nameFine g.rules[i] (.mk 5 nm tx set subs) = true) := by unfold Hid; rw [HNF.out]; simp [*]
              have HF := Lib.hid (find_ok g nm w1 _ _ _ _ HG.out)
              go_wp2_with fail
              rw [hf] at HF
              refine HF.out.mono ?_
              rintro e w2 ⟨rfl, hw2b⟩
              have hw2 : Grew w1 w2 := hw2b
              clear hw2b
              have HW2 := Lib.hid hw2
              have hc2 := hw2.cells
              have hz2 := hw2.size
              clear hw2
              go_wp2_with fail
              refine wp_region_hav_lit follows (by kernel_rfl) ?_
              repeat (first
                | (refine HavG.skip (fun _ => rfl) ?_; simp only [Act.put, List.setIfInBounds_toArray, List.set_cons_zero, List.set_cons_succ])
                | (refine HavG.val (fun _ => rfl) ?_ (fun x w hw _ => ?_) ?_; rotate_left; (focus (have hc := (HW2.out.trans hw).cells; clear hw; go_simp; first | done | rfl)); simp only [Act.put, List.setIfInBounds_toArray, List.set_cons_zero, List.set_cons_succ]))
              refine HavG.tail (by kernel_rfl) (by kernel_rfl) (fun x wz hw _ => ?_)
              have HW3 := Lib.hid (HW2.out.trans hw)
              clear hw
              go_wp2_with fail
              go_meet
              exact ⟨hnf.out, HW3.out⟩
      · by_cases h6 : k = 6
        · subst h6
          rcases ixOf_cases g.rules (fun r => sameB r.name nm) with ⟨hf, _⟩ | ⟨j, hj, hf, _, _⟩
          · change g.find nm = -1 at hf
            have hnf : Hid (g.nameFine g.rules[i] (.mk 6 nm tx set subs) = false) := by
              unfold Hid Gr.nameFine
              simp only [Nd.name, Nd.kind, Nd.isName, hf]
              rfl
            have HF := Lib.hid (find_ok g nm w1 _ _ _ _ HG.out)
            go_wp2_with fail
            rw [hf] at HF
            refine HF.out.mono ?_
            rintro e w2 ⟨rfl, hw2b⟩
            have hw2 : Grew w1 w2 := hw2b
            clear hw2b
            have HW2 := Lib.hid hw2
            have hc2 := hw2.cells
            have hz2 := hw2.size
            clear hw2
            go_wp2_with fail
            refine wp_region_hav_lit follows (by kernel_rfl) ?_
            repeat (first
              | (refine HavG.skip (fun _ => rfl) ?_; simp only [Act.put, List.setIfInBounds_toArray, List.set_cons_zero, List.set_cons_succ])
              | (refine HavG.val (fun _ => rfl) ?_ (fun x w hw _ => ?_) ?_; rotate_left; (focus (have hc := (HW2.out.trans hw).cells; clear hw; go_simp; first | done | rfl)); simp only [Act.put, List.setIfInBounds_toArray, List.set_cons_zero, List.set_cons_succ]))
            refine HavG.tail (by kernel_rfl) (by kernel_rfl) (fun x wz hw _ => ?_)
            have HW3 := Lib.hid (HW2.out.trans hw)
            clear hw
            go_wp2_with fail
            go_ret
            exact ⟨ret_bool (by rw [hsn.out, hnf.out]; rfl), HGR.out.trans HW3.out⟩
          · change g.find nm = (j : Int) at hf
            obtain ⟨rb, ro, hre, hrb, hrj⟩ := HQ9.out.get hj
            obtain ⟨rb', ro', hre', -, hri⟩ := HQ9.out.get hi
            rw [hre] at hre'
            obtain ⟨rfl, rfl⟩ : rb = rb' ∧ ro = ro' := by
              have := Option.some.inj hre'
              injection this with h1 h2
              exact ⟨h1, h2⟩
            obtain rfl := hre
            simp only [Nat.zero_add] at hrj hri
            obtain ⟨-, -, ej, -, -⟩ := hrj
            obtain ⟨-, -, ei, -, -⟩ := hri
            have hnf0 : g.nameFine g.rules[i] (.mk 6 nm tx set subs) = !((false != (g.rules[j].sort == 0)) || g.rules[j].sort == 3 || (g.rules[i].sort == 0 && g.rules[j].sort == 2)) := by
              unfold Gr.nameFine
              have hj0 : decide ((j : Int) < 0) = false := decide_eq_false (by omega)
              simp only [Nd.name, Nd.kind, Nd.isName, hf, sortAt_nat g j hj, hj0]
              simp
            clear hre'
            have HNF := Lib.hid hnf0
            clear hnf0
            generalize g.rules[j].sort = sj at *
            have HEI := Lib.hid ei
            cases h0 : (sj == 0)
            · have n0 : ¬ sj = 0 := by simpa using h0
              cases h3 : (sj == 3)
              · have n3 : ¬ sj = 3 := by simpa using h3
                cases h2' : (sj == 2)
                · cases hi0 : (g.rules[i].sort == 0)
                  · have hnf : Hid (g.nameFine g.rules[i] (.mk 6 nm tx set subs) = true) := by unfold Hid; rw [HNF.out]; simp [*]
                    have HF := Lib.hid (find_ok g nm w1 _ _ _ _ HG.out)
                    go_wp2_with fail
                    rw [hf] at HF
                    refine HF.out.mono ?_
                    rintro e w2 ⟨rfl, hw2b⟩
                    have hw2 : Grew w1 w2 := hw2b
                    clear hw2b
                    have HW2 := Lib.hid hw2
                    have hc2 := hw2.cells
                    have hz2 := hw2.size
                    clear hw2
                    go_wp2_with fail
                    refine wp_region_hav_lit follows (by kernel_rfl) ?_
                    repeat (first
                      | (refine HavG.skip (fun _ => rfl) ?_; simp only [Act.put, List.setIfInBounds_toArray, List.set_cons_zero, List.set_cons_succ])
                      | (refine HavG.val (fun _ => rfl) ?_ (fun x w hw _ => ?_) ?_; rotate_left; (focus (have hc := (HW2.out.trans hw).cells; clear hw; go_simp; first | done | rfl)); simp only [Act.put, List.setIfInBounds_toArray, List.set_cons_zero, List.set_cons_succ]))
                    refine HavG.tail (by kernel_rfl) (by kernel_rfl) (fun x wz hw _ => ?_)
                    have HW3 := Lib.hid (HW2.out.trans hw)
                    clear hw
                    go_wp2_with fail
                    go_meet
                    exact ⟨hnf.out, HW3.out⟩
                  · have hnf : Hid (g.nameFine g.rules[i] (.mk 6 nm tx set subs) = true) := by unfold Hid; rw [HNF.out]; simp [*]
                    have HF := Lib.hid (find_ok g nm w1 _ _ _ _ HG.out)
                    go_wp2_with fail
                    rw [hf] at HF
                    refine HF.out.mono ?_
                    rintro e w2 ⟨rfl, hw2b⟩
                    have hw2 : Grew w1 w2 := hw2b
                    clear hw2b
                    have HW2 := Lib.hid hw2
                    have hc2 := hw2.cells
                    have hz2 := hw2.size
                    clear hw2
                    go_wp2_with fail
                    refine wp_region_hav_lit follows (by kernel_rfl) ?_
                    repeat (first
                      | (refine HavG.skip (fun _ => rfl) ?_; simp only [Act.put, List.setIfInBounds_toArray, List.set_cons_zero, List.set_cons_succ])
                      | (refine HavG.val (fun _ => rfl) ?_ (fun x w hw _ => ?_) ?_; rotate_left; (focus (have hc := (HW2.out.trans hw).cells; clear hw; go_simp; first | done | rfl)); simp only [Act.put, List.setIfInBounds_toArray, List.set_cons_zero, List.set_cons_succ]))
                    refine HavG.tail (by kernel_rfl) (by kernel_rfl) (fun x wz hw _ => ?_)
                    have HW3 := Lib.hid (HW2.out.trans hw)
                    clear hw
                    go_wp2_with fail
                    go_meet
                    exact ⟨hnf.out, HW3.out⟩
                · obtain rfl : sj = 2 := by simpa using h2'
                  cases hi0 : (g.rules[i].sort == 0)
                  · have hnf : Hid (g.nameFine g.rules[i] (.mk 6 nm tx set subs) = true) := by unfold Hid; rw [HNF.out]; simp [*]
                    have HF := Lib.hid (find_ok g nm w1 _ _ _ _ HG.out)
                    go_wp2_with fail
                    rw [hf] at HF
                    refine HF.out.mono ?_
                    rintro e w2 ⟨rfl, hw2b⟩
                    have hw2 : Grew w1 w2 := hw2b
                    clear hw2b
                    have HW2 := Lib.hid hw2
                    have hc2 := hw2.cells
                    have hz2 := hw2.size
                    clear hw2
                    go_wp2_with fail
                    refine wp_region_hav_lit follows (by kernel_rfl) ?_
                    repeat (first
                      | (refine HavG.skip (fun _ => rfl) ?_; simp only [Act.put, List.setIfInBounds_toArray, List.set_cons_zero, List.set_cons_succ])
                      | (refine HavG.val (fun _ => rfl) ?_ (fun x w hw _ => ?_) ?_; rotate_left; (focus (have hc := (HW2.out.trans hw).cells; clear hw; go_simp; first | done | rfl)); simp only [Act.put, List.setIfInBounds_toArray, List.set_cons_zero, List.set_cons_succ]))
                    refine HavG.tail (by kernel_rfl) (by kernel_rfl) (fun x wz hw _ => ?_)
                    have HW3 := Lib.hid (HW2.out.trans hw)
                    clear hw
                    go_wp2_with fail
                    go_meet
                    exact ⟨hnf.out, HW3.out⟩
                  · have hnf : Hid (g.nameFine g.rules[i] (.mk 6 nm tx set subs) = false) := by unfold Hid; rw [HNF.out]; simp [*]
                    have HF := Lib.hid (find_ok g nm w1 _ _ _ _ HG.out)
                    go_wp2_with fail
                    rw [hf] at HF
                    refine HF.out.mono ?_
                    rintro e w2 ⟨rfl, hw2b⟩
                    have hw2 : Grew w1 w2 := hw2b
                    clear hw2b
                    have HW2 := Lib.hid hw2
                    have hc2 := hw2.cells
                    have hz2 := hw2.size
                    clear hw2
                    go_wp2_with fail
                    refine wp_region_hav_lit follows (by kernel_rfl) ?_
                    repeat (first
                      | (refine HavG.skip (fun _ => rfl) ?_; simp only [Act.put, List.setIfInBounds_toArray, List.set_cons_zero, List.set_cons_succ])
                      | (refine HavG.val (fun _ => rfl) ?_ (fun x w hw _ => ?_) ?_; rotate_left; (focus (have hc := (HW2.out.trans hw).cells; clear hw; go_simp; first | done | rfl)); simp only [Act.put, List.setIfInBounds_toArray, List.set_cons_zero, List.set_cons_succ]))
                    refine HavG.tail (by kernel_rfl) (by kernel_rfl) (fun x wz hw _ => ?_)
                    have HW3 := Lib.hid (HW2.out.trans hw)
                    clear hw
                    go_wp2_with fail
                    go_ret
                    exact ⟨ret_bool (by rw [hsn.out, hnf.out]; rfl), HGR.out.trans HW3.out⟩
              · obtain rfl : sj = 3 := by simpa using h3
                have hnf : Hid (g.nameFine g.rules[i] (.mk 6 nm tx set subs) = false) := by unfold Hid; rw [HNF.out]; simp [*]
                have HF := Lib.hid (find_ok g nm w1 _ _ _ _ HG.out)
                go_wp2_with fail
                rw [hf] at HF
                refine HF.out.mono ?_
                rintro e w2 ⟨rfl, hw2b⟩
                have hw2 : Grew w1 w2 := hw2b
                clear hw2b
                have HW2 := Lib.hid hw2
                have hc2 := hw2.cells
                have hz2 := hw2.size
                clear hw2
                go_wp2_with fail
                refine wp_region_hav_lit follows (by kernel_rfl) ?_
                repeat (first
                  | (refine HavG.skip (fun _ => rfl) ?_; simp only [Act.put, List.setIfInBounds_toArray, List.set_cons_zero, List.set_cons_succ])
                  | (refine HavG.val (fun _ => rfl) ?_ (fun x w hw _ => ?_) ?_; rotate_left; (focus (have hc := (HW2.out.trans hw).cells; clear hw; go_simp; first | done | rfl)); simp only [Act.put, List.setIfInBounds_toArray, List.set_cons_zero, List.set_cons_succ]))
                refine HavG.tail (by kernel_rfl) (by kernel_rfl) (fun x wz hw _ => ?_)
                have HW3 := Lib.hid (HW2.out.trans hw)
                clear hw
                go_wp2_with fail
                go_ret
                exact ⟨ret_bool (by rw [hsn.out, hnf.out]; rfl), HGR.out.trans HW3.out⟩
            · obtain rfl : sj = 0 := by simpa using h0
              cases hi0 : (g.rules[i].sort == 0)
              · have hnf : Hid (g.nameFine g.rules[i] (.mk 6 nm tx set subs) = false) := by unfold Hid; rw [HNF.out]; simp [*]
                have HF := Lib.hid (find_ok g nm w1 _ _ _ _ HG.out)
                go_wp2_with fail
                rw [hf] at HF
                refine HF.out.mono ?_
                rintro e w2 ⟨rfl, hw2b⟩
                have hw2 : Grew w1 w2 := hw2b
                clear hw2b
                have HW2 := Lib.hid hw2
                have hc2 := hw2.cells
                have hz2 := hw2.size
                clear hw2
                go_wp2_with fail
                refine wp_region_hav_lit follows (by kernel_rfl) ?_
                repeat (first
                  | (refine HavG.skip (fun _ => rfl) ?_; simp only [Act.put, List.setIfInBounds_toArray, List.set_cons_zero, List.set_cons_succ])
                  | (refine HavG.val (fun _ => rfl) ?_ (fun x w hw _ => ?_) ?_; rotate_left; (focus (have hc := (HW2.out.trans hw).cells; clear hw; go_simp; first | done | rfl)); simp only [Act.put, List.setIfInBounds_toArray, List.set_cons_zero, List.set_cons_succ]))
                refine HavG.tail (by kernel_rfl) (by kernel_rfl) (fun x wz hw _ => ?_)
                have HW3 := Lib.hid (HW2.out.trans hw)
                clear hw
                go_wp2_with fail
                go_ret
                exact ⟨ret_bool (by rw [hsn.out, hnf.out]; rfl), HGR.out.trans HW3.out⟩
              · have hnf : Hid (g.nameFine g.rules[i] (.mk 6 nm tx set subs) = false) := by unfold Hid; rw [HNF.out]; simp [*]
                have HF := Lib.hid (find_ok g nm w1 _ _ _ _ HG.out)
                go_wp2_with fail
                rw [hf] at HF
                refine HF.out.mono ?_
                rintro e w2 ⟨rfl, hw2b⟩
                have hw2 : Grew w1 w2 := hw2b
                clear hw2b
                have HW2 := Lib.hid hw2
                have hc2 := hw2.cells
                have hz2 := hw2.size
                clear hw2
                go_wp2_with fail
                refine wp_region_hav_lit follows (by kernel_rfl) ?_
                repeat (first
                  | (refine HavG.skip (fun _ => rfl) ?_; simp only [Act.put, List.setIfInBounds_toArray, List.set_cons_zero, List.set_cons_succ])
                  | (refine HavG.val (fun _ => rfl) ?_ (fun x w hw _ => ?_) ?_; rotate_left; (focus (have hc := (HW2.out.trans hw).cells; clear hw; go_simp; first | done | rfl)); simp only [Act.put, List.setIfInBounds_toArray, List.set_cons_zero, List.set_cons_succ]))
                refine HavG.tail (by kernel_rfl) (by kernel_rfl) (fun x wz hw _ => ?_)
                have HW3 := Lib.hid (HW2.out.trans hw)
                clear hw
                go_wp2_with fail
                go_ret
                exact ⟨ret_bool (by rw [hsn.out, hnf.out]; rfl), HGR.out.trans HW3.out⟩
        · have e5 : (k == 5) = false := beq_eq_false_iff_ne.2 h5
          have e6 : (k == 6) = false := beq_eq_false_iff_ne.2 h6
          have e56 : (k == 5 || k == 6) = false := by rw [e5, e6]; rfl
          rw [e56]
          clear e56
          go_wp2_with fail
          go_meet
          refine ⟨?_, Grew.refl _⟩
          unfold NameIs Gr.nameFine
          simp [Nd.isName, Nd.kind, e5, e6]
    case rest =>
      obtain ⟨hnm, hw2⟩ := hcut
      have HNM := Lib.hid hnm
      have HW2 := Lib.hid hw2
      have hc2 := hw2.cells
      have hz2 := hw2.size
      obtain ⟨w2, rfl⟩ : ∃ z, z = wc := ⟨_, rfl⟩
      clear hnm hw2
      go_upto_region 5 with fail
      go_cut [85] (fun s85 wx => s85 = .bool (g.loopBad es g.rules[i] (.mk k nm tx set subs)) ∧ Grew w1 wx)
      case first =>
        cases subs with
        | nil =>
          have HLB := Lib.hid (loopBad_nil g es g.rules[i] k nm tx set)
          by_cases hk3 : k = 3
          · subst hk3
            refine wp_region_hav_lit follows (by kernel_rfl) ?_
            repeat (first
              | (refine HavG.skip (fun _ => rfl) ?_; simp only [Act.put, List.setIfInBounds_toArray, List.set_cons_zero, List.set_cons_succ])
              | (refine HavG.val (fun _ => rfl) ?_ (fun x w hw _ => ?_) ?_; rotate_left; (focus (have hc := (HW2.out.trans hw).cells; clear hw; go_simp; first | done | rfl)); simp only [Act.put, List.setIfInBounds_toArray, List.set_cons_zero, List.set_cons_succ]))
            refine HavG.tail (by kernel_rfl) (by kernel_rfl) (fun x wz hw _ => ?_)
            have HW3 := Lib.hid (HW2.out.trans hw)
            clear hw
            go_wp2_with fail
            go_meet
            exact ⟨by rw [HLB.out], HW3.out⟩
          · by_cases hk4 : k = 4
            · subst hk4
              refine wp_region_hav_lit follows (by kernel_rfl) ?_
              repeat (first
                | (refine HavG.skip (fun _ => rfl) ?_; simp only [Act.put, List.setIfInBounds_toArray, List.set_cons_zero, List.set_cons_succ])
                | (refine HavG.val (fun _ => rfl) ?_ (fun x w hw _ => ?_) ?_; rotate_left; (focus (have hc := (HW2.out.trans hw).cells; clear hw; go_simp; first | done | rfl)); simp only [Act.put, List.setIfInBounds_toArray, List.set_cons_zero, List.set_cons_succ]))
              refine HavG.tail (by kernel_rfl) (by kernel_rfl) (fun x wz hw _ => ?_)
              have HW3 := Lib.hid (HW2.out.trans hw)
              clear hw
              go_wp2_with fail
              go_meet
              exact ⟨by rw [HLB.out], HW3.out⟩
            · have e3 : (k == 3) = false := beq_eq_false_iff_ne.2 hk3
              have e4 : (k == 4) = false := beq_eq_false_iff_ne.2 hk4
              refine wp_region_hav_lit follows (by kernel_rfl) ?_
              repeat (first
                | (refine HavG.skip (fun _ => rfl) ?_; simp only [Act.put, List.setIfInBounds_toArray, List.set_cons_zero, List.set_cons_succ])
                | (refine HavG.val (fun _ => rfl) ?_ (fun x w hw _ => ?_) ?_; rotate_left; (focus (have hc := (HW2.out.trans hw).cells; clear hw; go_simp; first | done | rfl)); simp only [Act.put, List.setIfInBounds_toArray, List.set_cons_zero, List.set_cons_succ]))
              refine HavG.tail (by kernel_rfl) (by kernel_rfl) (fun x wz hw _ => ?_)
              have HW3 := Lib.hid (HW2.out.trans hw)
              clear hw
              go_wp2_with fail
              go_meet
              exact ⟨by rw [HLB.out], HW3.out⟩
        | cons s l =>
          have HLB := Lib.hid (loopBad_cons g es g.rules[i] k nm tx set s l)
          have h9 := H9.out
          rw [NodesAt] at h9
          obtain ⟨⟨sb, so, rfl, hsb, hs⟩, -⟩ := h9
          simp only [Nat.zero_mul, Nat.add_zero] at hs
          obtain ⟨s0, s1, s2, s3, s4, p0, p1, p2, p3, p4, hs⟩ := hs.vals
          have HM := Lib.hid (fun w (hw : Grew w1 w) => nmay_ok g es hes i hi s w _ _ _ _ s0 s1 s2 s3 s4 ((HG.out.keep hw).mono hw.size) ((hs.keep hw).mono hw.size))
          clear hs
          have hpos : 0 < (s :: l).length := by simp
          generalize g.may es g.rules[i].token s = mb at *
          by_cases hk3 : k = 3
          · subst hk3
            refine wp_region_hav_lit follows (by kernel_rfl) ?_
            repeat (first
              | (refine HavG.skip (fun _ => rfl) ?_; simp only [Act.put, List.setIfInBounds_toArray, List.set_cons_zero, List.set_cons_succ])
              | (refine HavG.val (fun _ => rfl) ?_ (fun x w hw _ => ?_) ?_; rotate_left; (focus (have hc := (HW2.out.trans hw).cells; clear hw; go_simp; first | done | rfl)); simp only [Act.put, List.setIfInBounds_toArray, List.set_cons_zero, List.set_cons_succ]))
            refine HavG.det (fun _ => rfl) (.bool mb) (fun x w hw _ => ?_) ?_
            · have HW := Lib.hid (HW2.out.trans hw)
              clear hw
              go_simp
              refine (HM.out _ HW.out).mono ?_
              rintro e w' ⟨rfl, hb⟩
              exact ⟨rfl, hb⟩
            simp only [Act.put, List.setIfInBounds_toArray, List.set_cons_zero, List.set_cons_succ]
            repeat (first
              | (refine HavG.skip (fun _ => rfl) ?_; simp only [Act.put, List.setIfInBounds_toArray, List.set_cons_zero, List.set_cons_succ])
              | (refine HavG.val (fun _ => rfl) ?_ (fun x w hw _ => ?_) ?_; rotate_left; (focus (have hc := (HW2.out.trans hw).cells; clear hw; go_simp; first | done | rfl)); simp only [Act.put, List.setIfInBounds_toArray, List.set_cons_zero, List.set_cons_succ]))
            refine HavG.tail (by kernel_rfl) (by kernel_rfl) (fun x wz hw _ => ?_)
            have HW3 := Lib.hid (HW2.out.trans hw)
            clear hw
            go_wp2_with fail
            go_meet
            exact ⟨by rw [HLB.out]; simp, HW3.out⟩
          · by_cases hk4 : k = 4
            · subst hk4
              refine wp_region_hav_lit follows (by kernel_rfl) ?_
              repeat (first
                | (refine HavG.skip (fun _ => rfl) ?_; simp only [Act.put, List.setIfInBounds_toArray, List.set_cons_zero, List.set_cons_succ])
                | (refine HavG.val (fun _ => rfl) ?_ (fun x w hw _ => ?_) ?_; rotate_left; (focus (have hc := (HW2.out.trans hw).cells; clear hw; go_simp; first | done | rfl)); simp only [Act.put, List.setIfInBounds_toArray, List.set_cons_zero, List.set_cons_succ]))
              refine HavG.det (fun _ => rfl) (.bool mb) (fun x w hw _ => ?_) ?_
              · have HW := Lib.hid (HW2.out.trans hw)
                clear hw
                go_simp
                refine (HM.out _ HW.out).mono ?_
                rintro e w' ⟨rfl, hb⟩
                exact ⟨rfl, hb⟩
              simp only [Act.put, List.setIfInBounds_toArray, List.set_cons_zero, List.set_cons_succ]
              repeat (first
                | (refine HavG.skip (fun _ => rfl) ?_; simp only [Act.put, List.setIfInBounds_toArray, List.set_cons_zero, List.set_cons_succ])
                | (refine HavG.val (fun _ => rfl) ?_ (fun x w hw _ => ?_) ?_; rotate_left; (focus (have hc := (HW2.out.trans hw).cells; clear hw; go_simp; first | done | rfl)); simp only [Act.put, List.setIfInBounds_toArray, List.set_cons_zero, List.set_cons_succ]))
              refine HavG.tail (by kernel_rfl) (by kernel_rfl) (fun x wz hw _ => ?_)
              have HW3 := Lib.hid (HW2.out.trans hw)
              clear hw
              go_wp2_with fail
              go_meet
              exact ⟨by rw [HLB.out]; simp, HW3.out⟩
            · have e3 : (k == 3) = false := beq_eq_false_iff_ne.2 hk3
              have e4 : (k == 4) = false := beq_eq_false_iff_ne.2 hk4
              refine wp_region_hav_lit follows (by kernel_rfl) ?_
              repeat (first
                | (refine HavG.skip (fun _ => rfl) ?_; simp only [Act.put, List.setIfInBounds_toArray, List.set_cons_zero, List.set_cons_succ])
                | (refine HavG.val (fun _ => rfl) ?_ (fun x w hw _ => ?_) ?_; rotate_left; (focus (have hc := (HW2.out.trans hw).cells; clear hw; go_simp; first | done | rfl)); simp only [Act.put, List.setIfInBounds_toArray, List.set_cons_zero, List.set_cons_succ]))
              refine HavG.tail (by kernel_rfl) (by kernel_rfl) (fun x wz hw _ => ?_)
              have HW3 := Lib.hid (HW2.out.trans hw)
              clear hw
              go_wp2_with fail
              go_meet
              exact ⟨by rw [HLB.out]; rw [e3, e4]; rfl, HW3.out⟩
      case rest =>
        obtain ⟨rfl, hw3⟩ := hcut
        have HW3 := Lib.hid hw3
        obtain ⟨w3, rfl⟩ : ∃ z, z = wc := ⟨_, rfl⟩
        have hc3 := hw3.cells
        have hz3 := hw3.size
        clear hw3 hc2 HW2
        generalize hlb : g.loopBad es g.rules[i] (.mk k nm tx set subs) = lb at *
        clear hlb
        cases lb
        · have hfin : Hid (g.soundN es g.rules[i] (.mk k nm tx set subs) = g.soundL es g.rules[i] subs) := by
            unfold Hid
            have h := HNM.out
            unfold NameIs at h
            rw [hsn.out, h]
            rfl
          go_wp2_with fail
          clear hc3
          go_loopw [8] (fun i' wr => ∃ (j : Nat), i' = .int .i64 j ∧ j ≤ subs.length ∧ Hid (SoundTo g es g.rules[i] subs j) ∧ Hid (Grew w1 wr)) (fun i' _ => subs.length - (intOf i').toNat)
          case atStart => exact ⟨0, rfl, by omega, fun i hi h => absurd h (by omega), HW3.out⟩
          case round =>
            obtain ⟨j, rfl, hj, hst, hwr⟩ := hrel
            have hcr := hwr.out.cells
            have hzr := hwr.out.size
            by_cases hlt : j < subs.length
            · obtain ⟨nb, no, rfl, hnb, hnode⟩ := H9.out.get hlt
              simp only [Nat.zero_add] at hnode
              obtain ⟨s0, s1, s2, s3, s4, p0, p1, p2, p3, p4, hnode⟩ := hnode.vals
              have HS := Lib.hid (fun w (hw : Grew w1 w) => HIH.out j hlt w _ _ _ _ s0 s1 s2 s3 s4 ((HG.out.keep hw).mono hw.size) ((hnode.keep hw).mono hw.size))
              clear hnode
              obtain ⟨t, ht⟩ : ∃ t, t = g.soundN es g.rules[i] subs[j] := ⟨_, rfl⟩
              rw [← ht] at HS
              have HQ := Lib.hid ht
              clear ht
              go_wp2_with fail
              refine wp_region_hav_lit follows (by kernel_rfl) ?_
              repeat (first
                | (refine HavG.skip (fun _ => rfl) ?_; simp only [Act.put, List.setIfInBounds_toArray, List.set_cons_zero, List.set_cons_succ])
                | (refine HavG.val (fun _ => rfl) ?_ (fun x w hw _ => ?_) ?_; rotate_left; (focus (have hc := (hwr.out.trans hw).cells; clear hw; go_simp; first | done | rfl)); simp only [Act.put, List.setIfInBounds_toArray, List.set_cons_zero, List.set_cons_succ]))
              refine HavG.det (fun _ => rfl) (.bool t) (fun x w hw _ => ?_) ?_
              · have HW := Lib.hid (hwr.out.trans hw)
                clear hw
                go_simp
                refine (HS.out _ HW.out).mono ?_
                rintro e w' ⟨rfl, hb⟩
                exact ⟨rfl, hb⟩
              simp only [Act.put, List.setIfInBounds_toArray, List.set_cons_zero, List.set_cons_succ]
              repeat (first
                | (refine HavG.skip (fun _ => rfl) ?_; simp only [Act.put, List.setIfInBounds_toArray, List.set_cons_zero, List.set_cons_succ])
                | (refine HavG.val (fun _ => rfl) ?_ (fun x w hw _ => ?_) ?_; rotate_left; (focus (have hc := (hwr.out.trans hw).cells; clear hw; go_simp; first | done | rfl)); simp only [Act.put, List.setIfInBounds_toArray, List.set_cons_zero, List.set_cons_succ]))
              refine HavG.tail (by kernel_rfl) (by kernel_rfl) (fun x wz hw _ => ?_)
              have HW4 := Lib.hid (hwr.out.trans hw)
              clear hw
              cases t
              · go_wp2_with fail
                go_ret
                refine ⟨ret_bool ?_, HGR.out.trans HW4.out⟩
                rw [hfin.out]
                cases hsl : g.soundL es g.rules[i] subs
                · rfl
                · have := (soundL_get g es g.rules[i] subs).1 hsl j hlt
                  rw [← HQ.out] at this
                  cases this
              · go_wp2_with fail
                exact ⟨⟨j + 1, by go_num, by omega, fun a ha hal => by
                  by_cases e : a = j
                  · subst e; exact HQ.out.symm
                  · exact hst.out a ha (by omega), HW4.out⟩, by simp [intOf]; omega⟩
            · go_wp2_with fail
              go_ret
              refine ⟨ret_bool ?_, HGR.out.trans hwr.out⟩
              rw [hfin.out]
              exact ((soundL_get g es g.rules[i] subs).2 fun a ha => hst.out a ha (by omega)).symm
        · have hfin : Hid (g.soundN es g.rules[i] (.mk k nm tx set subs) = false) := by
            unfold Hid
            rw [hsn.out]
            simp
          go_wp2_with fail
          go_ret
          exact ⟨ret_bool (by rw [hfin.out]), HGR.out.trans HW3.out⟩
end Go.Proofs.Ytnopnihdobedcaa
