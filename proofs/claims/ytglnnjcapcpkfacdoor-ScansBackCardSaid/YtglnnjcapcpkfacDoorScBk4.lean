/- Words with gaps, one by one. -/
import Derived.Test.YtglnnjcapcpkfacDoorScBk3
namespace Go.Proofs.YtglnnjcapcpkfacDoor
open Go.Lib

theorem textOf_append : ∀ (a b : List (Wd × List Int × Nat)), textOf (a ++ b) = textOf a ++ textOf b
  | [], _ => rfl
  | (w, R, i) :: a, b => by
    rw [List.cons_append, textOf, textOf, textOf_append a b]
    simp
/-- words, each with its gap -/
def zsOf (g : Nat → Nat) : Nat → List (Wd × List Int) → List (Wd × List Int × Nat)
  | _, [] => []
  | i, (w, R) :: xs => (w, R, g i) :: zsOf g (i + 1) xs
theorem zsOf_length (g : Nat → Nat) : ∀ (i : Nat) (xs : List (Wd × List Int)), (zsOf g i xs).length = xs.length
  | _, [] => rfl
  | i, (w, R) :: xs => by rw [zsOf, List.length_cons, List.length_cons, zsOf_length g (i + 1) xs]
theorem zsOf_get (g : Nat → Nat) : ∀ (i : Nat) (xs : List (Wd × List Int)) (j : Nat) (h : j < xs.length), (zsOf g i xs)[j]'(by rw [zsOf_length]; exact h) = (xs[j].1, xs[j].2, g (i + j))
  | _, [], j, h => absurd h (by simp)
  | i, (w, R) :: xs, 0, _ => by simp [zsOf]
  | i, (w, R) :: xs, j + 1, h => by
    have := zsOf_get g (i + 1) xs j (by simpa using h)
    simp only [zsOf, List.getElem_cons_succ]
    rw [this]
    congr 3
    omega
theorem zsOf_mem (g : Nat → Nat) : ∀ (i : Nat) (xs : List (Wd × List Int)), ∀ z ∈ zsOf g i xs, (z.1, z.2.1) ∈ xs
  | _, [], z, h => by simp [zsOf] at h
  | i, (w, R) :: xs, z, h => by
    rw [zsOf, List.mem_cons] at h
    rcases h with rfl | h
    · simp
    · exact List.mem_cons_of_mem _ (zsOf_mem g (i + 1) xs z h)
theorem zsOf_len (g : Nat → Nat) : ∀ (i : Nat) (xs : List (Wd × List Int)), (textOf (zsOf g i xs)).length ≤ (xs.map fun x => (writtenL x.1 x.2).length + 7).sum
  | _, [] => by simp [zsOf, textOf]
  | i, (w, R) :: xs => by
    have h1 := zsOf_len g (i + 1) xs
    have h2 := gapL_len (g i)
    rw [zsOf, textOf, List.length_append, List.length_append, List.map_cons, List.sum_cons]
    simp only
    omega
theorem textOf_step (zs : List (Wd × List Int × Nat)) (j : Nat) (h : j < zs.length) : textOf (zs.take (j + 1)) = textOf (zs.take j) ++ (writtenL zs[j].1 zs[j].2.1 ++ gapL zs[j].2.2) := by
  rw [List.take_succ_eq_append_getElem h, textOf_append]
  congr 1
  obtain ⟨w, R, i⟩ := zs[j]
  simp [textOf]
theorem textOf_take_le (zs : List (Wd × List Int × Nat)) (j : Nat) : (textOf (zs.take j)).length ≤ (textOf zs).length := by
  have := congrArg (fun l => (textOf l).length) (List.take_append_drop j zs)
  simp only [textOf_append, List.length_append] at this
  omega
theorem placedAt_length : ∀ (p : Nat) (zs : List (Wd × List Int × Nat)), (placedAt p zs).length = zs.length
  | _, [] => rfl
  | p, (w, R, i) :: zs => by rw [placedAt, List.length_cons, List.length_cons, placedAt_length]
theorem placedAt_get : ∀ (p : Nat) (zs : List (Wd × List Int × Nat)) (j : Nat) (h : j < zs.length), ∃ q, (placedAt p zs)[j]'(by rw [placedAt_length]; exact h) = { zs[j].1 with at_ := q }
  | _, [], j, h => absurd h (by simp)
  | p, (w, R, i) :: zs, 0, _ => ⟨p, rfl⟩
  | p, (w, R, i) :: zs, j + 1, h => by
    obtain ⟨q, hq⟩ := placedAt_get (p + (writtenL w R).length + (gapL i).length) zs j (by simpa using h)
    exact ⟨q, by simpa [placedAt] using hq⟩
theorem gapL_mod (i : Nat) (h : i < 6) : gapL i = [[32], [10], [47, 42, 32, 39, 32, 42, 47], [47, 47, 32, 91, 10], [9, 13], [47, 42, 42, 47]][i]'(by simpa using h) := by
  have : i = 0 ∨ i = 1 ∨ i = 2 ∨ i = 3 ∨ i = 4 ∨ i = 5 := by omega
  rcases this with rfl | rfl | rfl | rfl | rfl | rfl <;> rfl
end Go.Proofs.YtglnnjcapcpkfacDoor
