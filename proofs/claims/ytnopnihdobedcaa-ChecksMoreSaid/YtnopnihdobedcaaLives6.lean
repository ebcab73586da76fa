/- The chapter's example, as the statements call it. -/
import Derived.Test.YtnopnihdobedcaaCheck
import Derived.Test.YtnopnihdobedcaaLives5a
namespace Go.Proofs.Ytnopnihdobedcaa
open Go.RowKit

def k6a : Gr := ⟨{ data := #[] }, 0, 0, [⟨{ data := #[97] }, 0, g0n 1 { data := #[] } [g0n 2 { data := #[] } [g0n 5 { data := #[98] } []], g0n 5 { data := #[97] } []], 0, 0, 0⟩]⟩
def k6x : Nd := .mk 8 { data := #[] } { data := #[120] } [] []
def k6b : Gr := ⟨{ data := #[] }, 0, 0, [⟨{ data := #[65] }, 1, g0n 3 { data := #[] } [k6x], 0, 0, 0⟩]⟩

theorem k6a_empty {es : List Bool} (h : k6a.IsEmpty es) : es = [false] := by
  refine h.unique ⟨Gr.Sound.start k6a, fun i hi hm => ?_⟩
  have hi' : i < 1 := hi
  obtain rfl : i = 0 := by omega
  have hf : k6a.may [false] (Rl.token ⟨{ data := #[97] }, 0, g0n 1 { data := #[] } [g0n 2 { data := #[] } [g0n 5 { data := #[98] } []], g0n 5 { data := #[97] } []], 0, 0, 0⟩) (g0n 1 { data := #[] } [g0n 2 { data := #[] } [g0n 5 { data := #[98] } []], g0n 5 { data := #[97] } []]) = false := by kernel_rfl
  exact absurd (hf.symm.trans hm) (by decide)
theorem k6b_empty {es : List Bool} (h : k6b.IsEmpty es) : es = [true] := by
  refine h.unique ⟨?_, fun i hi hm => ?_⟩
  · have h0 := (Gr.Sound.start k6b).next (i := 0) (by decide) (by kernel_rfl)
    exact h0
  · have hi' : i < 1 := hi
    obtain rfl : i = 0 := by omega
    rfl
theorem no_rd0 {g : Gr} {N : List (List Bool)} (h : IsReach g.rd0 g.rules.length N) (hn : ∀ i k, ¬ g.rd0 i k) (i k : Nat) : at2 N i k = false := by
  cases hh : at2 N i k
  · rfl
  · have := (h.tc _ _).1 hh
    cases this with
    | one h => exact absurd h (hn _ _)
    | more h _ => exact absurd h (hn _ _)
theorem k6a_told {es : List Bool} {M N : List (List Bool)} (he : k6a.IsEmpty es) (hM : IsReach (k6a.Once es) 1 M) (hN : IsReach k6a.rd0 1 N) :
    k6a.told es (at2 M) (at2 N) = [⟨2, 0, { data := #[98] }⟩, ⟨4, 0, { data := #[97] }⟩] := by
  obtain rfl := k6a_empty he
  have h1 : at2 M 0 0 = true := (hM.tc _ _).2 (.one (by show at2 _ _ _ = true; kernel_rfl))
  have h2 : at2 N 0 0 = false := no_rd0 (g := k6a) hN (fun i k => by
    rintro ⟨hi, _, h, _⟩
    have hi' : i < 1 := hi
    obtain rfl : i = 0 := by omega
    cases h) 0 0
  have h3 : k6a.told [false] (at2 M) (at2 N) = k6a.told [false] (fun _ _ => true) (fun _ _ => false) := by
    unfold Gr.told
    simp only [k6a, Gr.rulesTold, Gr.ruleTold, h1, h2]
  exact h3.trans (by kernel_rfl)
theorem k6b_told {es : List Bool} {M N : List (List Bool)} (he : k6b.IsEmpty es) (hN : IsReach k6b.rd0 1 N) : k6b.told es (at2 M) (at2 N) = [⟨7, 0, { data := #[65] }⟩, ⟨8, -1, { data := #[] }⟩] := by
  obtain rfl := k6b_empty he
  have h2 : at2 N 0 0 = false := no_rd0 (g := k6b) hN (fun i k => by
    rintro ⟨hi, hk, _, _, m, hm, h3, h4⟩
    have hi' : i < 1 := hi
    obtain rfl : i = 0 := by omega
    have hall : (k6b.rules[0]).body.all = [g0n 3 { data := #[] } [k6x], k6x] := by kernel_rfl
    replace hm : m ∈ [g0n 3 { data := #[] } [k6x], k6x] := Eq.mp (congrArg (m ∈ ·) hall) hm
    rcases List.mem_cons.1 hm with rfl | hm
    · exact absurd h3 (by decide)
    · rcases List.mem_cons.1 hm with rfl | hm
      · exact absurd h3 (by decide)
      · cases hm) 0 0
  have h3 : k6b.told [true] (at2 M) (at2 N) = k6b.told [true] (fun _ _ => false) (fun _ _ => false) := by
    unfold Gr.told
    simp only [k6b, Gr.rulesTold, Gr.ruleTold, h2, Rl.parser]
    rfl
  exact h3.trans (by kernel_rfl)

/-- the worlds in which they lie -/
def k6aW (W : World) : World :=
  (((W.alloc (.cells #[.int .u8 5, .string { data := #[98] }, .string { data := #[] }, .slice none 0 0, .slice none 0 0] 36)).alloc
    (.cells #[.int .u8 2, .string { data := #[] }, .string { data := #[] }, .slice none 0 0, .slice (some ⟨W.heap.size, 0, none⟩) 1 1, .int .u8 5, .string { data := #[97] }, .string { data := #[] }, .slice none 0 0, .slice none 0 0] 36)).alloc
    (.cells #[.int .u8 1, .string { data := #[] }, .string { data := #[] }, .slice none 0 0, .slice (some ⟨W.heap.size + 1, 0, none⟩) 2 2] 36)).alloc
    (.cells #[.string { data := #[97] }, .int .u8 0, .int .u8 1, .string { data := #[] }, .string { data := #[] }, .slice none 0 0, .slice (some ⟨W.heap.size + 1, 0, none⟩) 2 2, .int .i64 0, .int .i64 0, .int .i64 0] 40)
theorem k6aW_grew (W : World) : Grew W (k6aW W) := by
  unfold k6aW
  repeat (first | exact Grew.refl _ | refine Grew.trans ?_ (grew_alloc _ _))
set_option maxHeartbeats 4000000 in
set_option maxRecDepth 40000 in
theorem k6aW_at (W : World) : GrAt (k6aW W) (k6aW W).heap.size (some (.string { data := #[] })) (some (.int .i64 0)) (some (.int .i64 0)) (some (.slice (some ⟨W.heap.size + 1 + 1 + 1, 0, none⟩) 1 1)) k6a := by
  simp [GrAt, k6a, g0n, RulesAt, RuleAt, NodesAt, NodeAt, RangesAt, reachN, InI64, k6aW, go_sem, ByteArray.size, and_assoc]
def k6bW (W : World) : World :=
  ((W.alloc (.cells #[.int .u8 8, .string { data := #[] }, .string { data := #[120] }, .slice none 0 0, .slice none 0 0] 36)).alloc
    (.cells #[.int .u8 3, .string { data := #[] }, .string { data := #[] }, .slice none 0 0, .slice (some ⟨W.heap.size, 0, none⟩) 1 1] 36)).alloc
    (.cells #[.string { data := #[65] }, .int .u8 1, .int .u8 3, .string { data := #[] }, .string { data := #[] }, .slice none 0 0, .slice (some ⟨W.heap.size, 0, none⟩) 1 1, .int .i64 0, .int .i64 0, .int .i64 0] 40)
theorem k6bW_grew (W : World) : Grew W (k6bW W) := by
  unfold k6bW
  repeat (first | exact Grew.refl _ | refine Grew.trans ?_ (grew_alloc _ _))
set_option maxHeartbeats 4000000 in
set_option maxRecDepth 40000 in
theorem k6bW_at (W : World) : GrAt (k6bW W) (k6bW W).heap.size (some (.string { data := #[] })) (some (.int .i64 0)) (some (.int .i64 0)) (some (.slice (some ⟨W.heap.size + 1 + 1, 0, none⟩) 1 1)) k6b := by
  simp [GrAt, k6b, k6x, g0n, RulesAt, RuleAt, NodesAt, NodeAt, RangesAt, reachN, InI64, k6bW, go_sem, ByteArray.size, and_assoc]

theorem few_one {g : Gr} (h1 : g.rules.length ≤ 1) (h2 : ∀ r ∈ g.rules, r.body.all.length ≤ 4000) : g.Few := ⟨by omega, fun i hi => h2 _ (List.getElem_mem hi)⟩

set_option maxHeartbeats 8000000 in
set_option maxRecDepth 40000 in
theorem lives6_ok (W : World) : Calls Try.prog 18 #[] W fun e W' => e = .returned (.bool true) ∧ Below W.heap.size W W' := by
  have hf1 : k6a.Few := few_one (by decide) (fun r hr => by
    have : r = k6a.rules[0]'(by decide) := by simpa [k6a] using hr
    rw [this]
    exact of_decide_eq_true (by kernel_rfl))
  have hf2 : k6b.Few := few_one (by decide) (fun r hr => by
    have : r = k6b.rules[0]'(by decide) := by simpa [k6b] using hr
    rw [this]
    exact of_decide_eq_true (by kernel_rfl))
  have hA := Lib.hid (check_ok k6a hf1 (k6aW W) _ _ _ _ (k6aW_at W))
  have hB := Lib.hid (fun u => check_ok k6b hf2 (k6bW u) _ _ _ _ (k6bW_at u))
  have hgr := Lib.hid (k6aW_grew W)
  have hgr2 := Lib.hid k6bW_grew
  clear hf1 hf2
  go_enter Try.func18, Try.ntmps18
  go_wp2_with fail
  change Calls _ _ _ (k6aW W) _
  generalize k6aW W = w5 at *
  refine hA.out.mono ?_
  rintro e w1 ⟨u, es, M, N, rfl, h1, h2, h3, hP, hb1⟩
  rw [k6a_told h1 h2 h3] at hP
  obtain ⟨a, rfl, hP⟩ := hP
  obtain ⟨b, tl, rfl, hO⟩ := hP (by simp)
  have HG1 := Lib.hid (hgr.out.trans hb1)
  have HO := Lib.hid hO
  clear h1 h2 h3 hP hb1 hO hA
  go_wp2_with fail
  change Calls _ _ _ (k6bW w1) _
  refine (hB.out w1).mono ?_
  rintro e w2 ⟨u, es, M, N, rfl, h1, h2, h3, hP, hb2⟩
  rw [k6b_told h1 h3] at hP
  obtain ⟨a, rfl, hP⟩ := hP
  obtain ⟨b', tl', rfl, hO'⟩ := hP (by simp)
  have hG2 : Grew w1 w2 := (hgr2.out w1).trans hb2
  have hO1 := HO.out.keep hG2
  have c0 : w2.cell? ⟨b, 0, none⟩ = some (.int .u8 2) := hO1.cell_at rfl
  have c1 : w2.cell? ⟨b, 1, none⟩ = some (.int .i64 0) := hO1.cell_at rfl
  have c2 : w2.cell? ⟨b, 2, none⟩ = some (.string { data := #[98] }) := hO1.cell_at rfl
  have c3 : w2.cell? ⟨b, 3, none⟩ = some (.int .u8 4) := hO1.cell_at rfl
  have c4 : w2.cell? ⟨b, 4, none⟩ = some (.int .i64 0) := hO1.cell_at rfl
  have c5 : w2.cell? ⟨b, 5, none⟩ = some (.string { data := #[97] }) := hO1.cell_at rfl
  have d0 : w2.cell? ⟨b', 0, none⟩ = some (.int .u8 7) := hO'.cell_at rfl
  have d3 : w2.cell? ⟨b', 3, none⟩ = some (.int .u8 8) := hO'.cell_at rfl
  have d4 : w2.cell? ⟨b', 4, none⟩ = some (.int .i64 (-1)) := hO'.cell_at rfl
  have d5 : w2.cell? ⟨b', 5, none⟩ = some (.string { data := #[] }) := hO'.cell_at rfl
  have HG2 := Lib.hid hG2
  clear h1 h2 h3 hP hb2 hO' hO1 hG2 hB
  go_wp2_with fail
  go_ret
  exact ⟨rfl, HG1.out.trans HG2.out⟩
end Go.Proofs.Ytnopnihdobedcaa
