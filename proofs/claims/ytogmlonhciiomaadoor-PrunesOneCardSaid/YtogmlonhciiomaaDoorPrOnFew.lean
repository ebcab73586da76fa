/- The doubled automaton is no greater than is gone through. -/
import Derived.Test.YtogmlonhciiomaaDoorPrOnLaw
import Derived.Test.YtogmlonhciiomaaDoorPrSmLaw
namespace Go.Proofs.YtogmlonhciiomaaDoor

theorem small_edges {a : Aut} (h : a.Small) : ∀ s ∈ a, s.edges.length ≤ 399 ∧ s.alts.length ≤ 399 := by
  intro s hs
  obtain ⟨i, hi, rfl⟩ := List.mem_iff_getElem.1 hs
  have h1 := sumTo_succ a i hi
  have h2 := sumTo_le a (n := i + 1) (m := a.length) (by omega)
  have h3 := h.2
  have h4 : wt a[i] = a[i].edges.length + a[i].alts.length := rfl
  omega
theorem moreE_len (how : List Int) (n : Nat) (many : Int) (s : Stt) (k : Nat) : (moreE how n many s k).length ≤ 1 := by
  unfold moreE
  split <;> simp
theorem dbl_few {a : Aut} (h : a.Small) (h0 : 0 < a.length) (how : List Int) (many : Int) : (dblA a how many).Few := by
  have hl := dblA_len a how many h0
  have h1 := h.1
  refine ⟨by omega, fun s hs => ?_, fun s hs => ?_⟩
  · rcases dblA_mem h0 hs with ⟨t, ht, k, rfl⟩ | rfl
    · have := (small_edges h t ht).2
      show t.alts.length ≤ 400
      omega
    · simp
  · rcases dblA_mem h0 hs with ⟨t, ht, k, rfl⟩ | rfl
    · have := (small_edges h t ht).1
      have := moreE_len how a.length many t (k + t.edges.length)
      show (dblE how a.length t.edges k ++ moreE how a.length many t (k + t.edges.length)).length ≤ 400
      rw [List.length_append, dblE_len]
      omega
    · simp
end Go.Proofs.YtogmlonhciiomaaDoor
