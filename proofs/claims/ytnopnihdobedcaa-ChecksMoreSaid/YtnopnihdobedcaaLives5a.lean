/- The chapter's example: its grammar, and what is so of it. -/
import Derived.Test.YtnopnihdobedcaaEmpty
namespace Go.Proofs.Ytnopnihdobedcaa
open Go.RowKit

def g0n (k : Int) (nm : ByteArray) (subs : List Nd) : Nd := .mk k nm { data := #[] } [] subs
def g0a : Nd := g0n 0 { data := #[] } [g0n 1 { data := #[] } [g0n 2 { data := #[] } [g0n 5 { data := #[98] } []], g0n 6 { data := #[67] } []], g0n 1 { data := #[] } []]
def g0b : Nd := g0n 1 { data := #[] } [g0n 5 { data := #[97] } [], g0n 6 { data := #[68] } []]
def g0 : Gr := ⟨{ data := #[] }, 0, 0, [⟨{ data := #[97] }, 0, g0a, 0, 0, 0⟩, ⟨{ data := #[98] }, 0, g0b, 0, 0, 0⟩]⟩

theorem g0_empty {es : List Bool} (h : g0.IsEmpty es) : es = [true, false] := by
  refine h.unique ⟨?_, fun i hi hm => ?_⟩
  · have h0 := (Gr.Sound.start g0).next (i := 0) (by decide) (by kernel_rfl)
    exact h0
  · have hi' : i < 2 := hi
    match i, hi' with
    | 0, _ => rfl
    | 1, _ =>
      have hf : g0.may [true, false] (Rl.token ⟨{ data := #[98] }, 0, g0b, 0, 0, 0⟩) g0b = false := by kernel_rfl
      exact absurd (hf.symm.trans hm) (by decide)
theorem g0_reach {M : List (List Bool)} (h : IsReach (g0.Once [true, false]) 2 M) : at2 M 0 0 = true ∧ at2 M 0 1 = true ∧ at2 M 1 0 = true ∧ at2 M 1 1 = true := by
  have a : g0.Once [true, false] 0 1 := by show at2 _ _ _ = true; kernel_rfl
  have b : g0.Once [true, false] 1 0 := by show at2 _ _ _ = true; kernel_rfl
  exact ⟨(h.tc _ _).2 (.more a (.one b)), (h.tc _ _).2 (.one a), (h.tc _ _).2 (.one b), (h.tc _ _).2 (.more b (.one a))⟩
theorem g0_findb : g0.find { data := #[98] } = 1 := by kernel_rfl
theorem g0_findc : g0.find { data := #[99] } = -1 := by kernel_rfl

/-- the world in which it lies -/
def g0W (W : World) : World :=
  ((((((((W.alloc (.cells #[.int .u8 5, .string { data := #[98] }, .string { data := #[] }, .slice none 0 0, .slice none 0 0] 36)).alloc (.cells #[.int .u8 5, .string { data := #[98] }, .string { data := #[] }, .slice none 0 0, .slice none 0 0] 36)).alloc
    (.cells #[.int .u8 2, .string { data := #[] }, .string { data := #[] }, .slice none 0 0, .slice (some ⟨W.heap.size + 1, 0, none⟩) 1 1, .int .u8 6, .string { data := #[67] }, .string { data := #[] }, .slice none 0 0, .slice none 0 0] 36)).alloc
    (.cells #[.int .u8 1, .string { data := #[] }, .string { data := #[] }, .slice none 0 0, .slice (some ⟨W.heap.size + 1 + 1, 0, none⟩) 2 2, .int .u8 1, .string { data := #[] }, .string { data := #[] }, .slice none 0 0, .slice none 0 0] 36)).alloc
    (.cells #[.int .u8 0, .string { data := #[] }, .string { data := #[] }, .slice none 0 0, .slice (some ⟨W.heap.size + 1 + 1 + 1, 0, none⟩) 2 2] 36)).alloc
    (.cells #[.int .u8 5, .string { data := #[97] }, .string { data := #[] }, .slice none 0 0, .slice none 0 0, .int .u8 6, .string { data := #[68] }, .string { data := #[] }, .slice none 0 0, .slice none 0 0] 36)).alloc
    (.cells #[.int .u8 1, .string { data := #[] }, .string { data := #[] }, .slice none 0 0, .slice (some ⟨W.heap.size + 1 + 1 + 1 + 1 + 1, 0, none⟩) 2 2] 36)).alloc
    (.cells #[.string { data := #[97] }, .int .u8 0, .int .u8 0, .string { data := #[] }, .string { data := #[] }, .slice none 0 0, .slice (some ⟨W.heap.size + 1 + 1 + 1, 0, none⟩) 2 2, .int .i64 0, .int .i64 0, .int .i64 0,
      .string { data := #[98] }, .int .u8 0, .int .u8 1, .string { data := #[] }, .string { data := #[] }, .slice none 0 0, .slice (some ⟨W.heap.size + 1 + 1 + 1 + 1 + 1, 0, none⟩) 2 2, .int .i64 0, .int .i64 0, .int .i64 0] 40)).alloc
    (.cells #[.string { data := #[] }, .int .i64 0, .int .i64 0, .slice (some ⟨W.heap.size + 1 + 1 + 1 + 1 + 1 + 1 + 1, 0, none⟩) 2 2] 26)

theorem g0W_grew (W : World) : Grew W (g0W W) := by
  unfold g0W
  repeat (first | exact Grew.refl _ | refine Grew.trans ?_ (grew_alloc _ _))

set_option maxHeartbeats 4000000 in
set_option maxRecDepth 40000 in
theorem g0W_at (W : World) : GrAt (g0W W) (g0W W).heap.size (some (.string { data := #[] })) (some (.int .i64 0)) (some (.int .i64 0)) (some (.slice (some ⟨W.heap.size + 1 + 1 + 1 + 1 + 1 + 1 + 1, 0, none⟩) 2 2)) g0 := by
  simp [GrAt, g0, g0a, g0b, g0n, RulesAt, RuleAt, NodesAt, NodeAt, RangesAt, reachN, InI64, g0W, go_sem, ByteArray.size, and_assoc]
end Go.Proofs.Ytnopnihdobedcaa
