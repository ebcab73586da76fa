/- NullsGrow's nodes in memory. -/
import Derived.Test.YtnopnihdobedcaaGrowLaw
namespace Go.Proofs.Ytnopnihdobedcaa
open Go.RowKit

theorem five_set (l : List Value) (m : Nat) (a0 a1 a2 a3 a4 b0 b1 b2 b3 b4 : Value) :
    ((((((((((l.set m a0).set (m + 1) a1).set (m + 2) a2).set (m + 3) a3).set (m + 4) a4).set m b0).set (m + 1) b1).set (m + 2) b2).set (m + 3) b3).set (m + 4) b4) = (((((l.set m b0).set (m + 1) b1).set (m + 2) b2).set (m + 3) b3).set (m + 4) b4) := by
  apply List.ext_getElem?
  intro j
  simp only [List.getElem?_set, List.length_set]
  by_cases h4 : m + 4 = j
  · simp only [h4, if_true]
  · by_cases h3 : m + 3 = j
    · simp only [h4, h3, if_true, if_false]
    · by_cases h2 : m + 2 = j
      · simp only [h4, h3, h2, if_true, if_false]
      · by_cases h1 : m + 1 = j
        · simp only [h4, h3, h2, h1, if_true, if_false]
        · by_cases h0 : m = j
          · simp only [h4, h3, h2, h1, h0, if_true, if_false]
          · simp only [h4, h3, h2, h1, h0, if_false]

theorem alt_at {W : World} {lim sb T : Nat} {n : Nd} {v0 v1 v2 v3 v4 : Value} (ho : Owns W sb [v0, v1, v2, v3, v4, .int .u8 1, .string { data := #[] }, .string { data := #[] }, .slice none 0 0, .slice none 0 0] T) (hsb : sb < lim)
    (hn : NodeAt W lim (some v0) (some v1) (some v2) (some v3) (some v4) n) :
    NodeAt W lim (some (.int .u8 0)) (some (.string { data := #[] })) (some (.string { data := #[] })) (some (.slice none 0 0)) (some (.slice (some ⟨sb, 0, none⟩) 2 2)) (altNode n) := by
  have hc : ∀ j, W.cell? ⟨sb, j, none⟩ = [v0, v1, v2, v3, v4, .int .u8 1, .string { data := #[] }, .string { data := #[] }, .slice none 0 0, .slice none 0 0][j]? := fun j => ho.cell j
  rw [altNode, NodeAt]
  refine ⟨by omega, by decide, by decide, rfl, rfl, rfl, ⟨none, 0, rfl, by decide, trivial⟩, some ⟨sb, 0, none⟩, 2, rfl, by simp [reachN], ?_⟩
  rw [NodesAt]
  refine ⟨⟨sb, 0, rfl, hsb, ?_⟩, ?_⟩
  · simp only [hc]
    exact hn
  · rw [NodesAt]
    refine ⟨⟨sb, 0, rfl, hsb, ?_⟩, by rw [NodesAt]; trivial⟩
    simp only [hc]
    rw [NodeAt]
    exact ⟨by omega, by decide, by decide, rfl, rfl, rfl, ⟨none, 0, rfl, by decide, trivial⟩, none, 0, rfl, by decide, by rw [NodesAt]; trivial⟩

theorem tok_at {W : World} {lim s1 sb T T1 : Nat} {n : Nd} {v0 v1 v2 v3 v4 : Value} (ho : Owns W sb [.int .u8 9, .string { data := #[] }, .string { data := #[] }, .slice (some ⟨s1, 0, none⟩) 1 1, .slice none 0 0, v0, v1, v2, v3, v4] T) (ho1 : Owns W s1 [.int .i32 65, .int .i32 65] T1) (hsb : sb < lim) (hs1 : s1 < lim)
    (hn : NodeAt W lim (some v0) (some v1) (some v2) (some v3) (some v4) n) :
    NodeAt W lim (some (.int .u8 1)) (some (.string { data := #[] })) (some (.string { data := #[] })) (some (.slice none 0 0)) (some (.slice (some ⟨sb, 0, none⟩) 2 2)) (tokNode n) := by
  have hc : ∀ j, W.cell? ⟨sb, j, none⟩ = [Value.int .u8 9, .string { data := #[] }, .string { data := #[] }, .slice (some ⟨s1, 0, none⟩) 1 1, .slice none 0 0, v0, v1, v2, v3, v4][j]? := fun j => ho.cell j
  rw [tokNode, NodeAt]
  refine ⟨by omega, by decide, by decide, rfl, rfl, rfl, ⟨none, 0, rfl, by decide, trivial⟩, some ⟨sb, 0, none⟩, 2, rfl, by simp [reachN], ?_⟩
  rw [NodesAt]
  refine ⟨⟨sb, 0, rfl, hsb, ?_⟩, ?_⟩
  · simp only [hc]
    rw [NodeAt]
    refine ⟨by omega, by decide, by decide, rfl, rfl, rfl, ⟨some ⟨s1, 0, none⟩, 1, rfl, by decide, ⟨⟨s1, 0, rfl, hs1, ho1.cell_at rfl, ho1.cell_at rfl⟩, trivial⟩⟩, none, 0, rfl, by decide, by rw [NodesAt]; trivial⟩
  · rw [NodesAt]
    refine ⟨⟨sb, 0, rfl, hsb, ?_⟩, by rw [NodesAt]; trivial⟩
    simp only [hc]
    exact hn
end Go.Proofs.Ytnopnihdobedcaa
