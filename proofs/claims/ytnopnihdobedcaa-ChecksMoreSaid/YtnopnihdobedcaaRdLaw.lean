/- Plain law: who goes on to whom, of rules that are no parser's, as it is marked node by node. -/
import Derived.Test.YtnopnihdobedcaaCheckLaw
namespace Go.Proofs.Ytnopnihdobedcaa

/-- is a rule marked for this node? -/
def Gr.rdHit (g : Gr) (r : Rl) (n : Nd) : Bool := n.isName && (!r.parser && (decide (0 ≤ g.find n.name) && !(g.sortAt (g.find n.name) == 0)))
def Gr.rdMark (g : Gr) (r : Rl) (l : List Bool) (n : Nd) : List Bool := if g.rdHit r n then l.set (g.find n.name).toNat true else l
def Gr.rdMarks (g : Gr) (r : Rl) (ns : List Nd) : List Bool := ns.foldl (g.rdMark r) (List.replicate g.rules.length false)
theorem rdMarks_snoc (g : Gr) (r : Rl) (ns : List Nd) (n : Nd) : g.rdMarks r (ns ++ [n]) = g.rdMark r (g.rdMarks r ns) n := by
  unfold Gr.rdMarks
  rw [List.foldl_append]
  rfl
theorem rdMark_length (g : Gr) (r : Rl) (l : List Bool) (n : Nd) : (g.rdMark r l n).length = l.length := by
  unfold Gr.rdMark
  split <;> simp
theorem rdMarks_length (g : Gr) (r : Rl) (ns : List Nd) : (g.rdMarks r ns).length = g.rules.length := by
  unfold Gr.rdMarks
  have : ∀ (ns : List Nd) (l : List Bool), (ns.foldl (g.rdMark r) l).length = l.length := by
    intro ns
    induction ns with
    | nil => intro l; rfl
    | cons n ns ih => intro l; rw [List.foldl_cons, ih, rdMark_length]
  rw [this]
  simp
theorem rdMarks_iff (g : Gr) (r : Rl) (k : Nat) (hk : k < g.rules.length) : ∀ (ns : List Nd) (l : List Bool), l.length = g.rules.length →
    ((ns.foldl (g.rdMark r) l).getD k false = true ↔ l.getD k false = true ∨ ∃ m ∈ ns, g.rdHit r m = true ∧ g.find m.name = (k : Int)) := by
  intro ns
  induction ns with
  | nil => intro l _; simp
  | cons n ns ih =>
    intro l hl
    rw [List.foldl_cons, ih _ (by rw [rdMark_length, hl])]
    have h1 : (g.rdMark r l n).getD k false = true ↔ l.getD k false = true ∨ (g.rdHit r n = true ∧ g.find n.name = (k : Int)) := by
      unfold Gr.rdMark
      split
      · next hh =>
        rw [getD_set]
        have hpos : 0 ≤ g.find n.name := by
          unfold Gr.rdHit at hh
          simp only [Bool.and_eq_true, decide_eq_true_eq] at hh
          exact hh.2.2.1
        split
        · next he =>
          refine ⟨fun _ => .inr ⟨hh, by omega⟩, fun _ => rfl⟩
        · next he =>
          refine ⟨.inl, fun h => h.elim id fun h => absurd ⟨by omega, by omega⟩ he⟩
      · next hh => exact ⟨.inl, fun h => h.elim id fun h => absurd h.1 hh⟩
    rw [h1]
    constructor
    · rintro ((h | h) | ⟨m, hm, h⟩)
      · exact .inl h
      · exact .inr ⟨n, List.mem_cons_self .., h⟩
      · exact .inr ⟨m, List.mem_cons_of_mem _ hm, h⟩
    · rintro (h | ⟨m, hm, h⟩)
      · exact .inl (.inl h)
      · rcases List.mem_cons.1 hm with rfl | hm
        · exact .inl (.inr h)
        · exact .inr ⟨m, hm, h⟩

def Gr.rdM (g : Gr) : List (List Bool) := g.rules.map fun r => g.rdMarks r r.body.all
theorem rdM_square (g : Gr) : Square g.rules.length g.rdM := by
  refine ⟨by simp [Gr.rdM], fun i h => ?_⟩
  simp only [Gr.rdM, List.getElem_map]
  exact rdMarks_length ..
theorem rdM_at (g : Gr) (i k : Nat) (hi : i < g.rules.length) : at2 g.rdM i k = (g.rdMarks g.rules[i] g.rules[i].body.all).getD k false := by
  unfold at2 Gr.rdM
  rw [List.getD_eq_getElem?_getD (l := List.map _ _), List.getElem?_map, List.getElem?_eq_getElem hi]
  rfl
theorem rdM_iff (g : Gr) (i k : Nat) : at2 g.rdM i k = true ↔ g.rd0 i k := by
  constructor
  · intro h
    obtain ⟨hi, hk⟩ := at2_lt (rdM_square g) h
    rw [rdM_at g i k hi] at h
    unfold Gr.rdMarks at h
    rw [rdMarks_iff g _ k hk _ _ (by simp)] at h
    rcases h with h | ⟨m, hm, h1, h2⟩
    · rw [List.getD_eq_getElem?_getD, List.getElem?_replicate] at h
      split at h <;> simp at h
    · unfold Gr.rdHit at h1
      rw [h2, sortAt_nat g k hk] at h1
      simp only [Bool.and_eq_true, Bool.not_eq_true'] at h1
      exact ⟨hi, hk, h1.2.1, h1.2.2.2, m, hm, h1.1, h2⟩
  · rintro ⟨hi, hk, h1, h2, m, hm, h3, h4⟩
    rw [rdM_at g i k hi]
    unfold Gr.rdMarks
    rw [rdMarks_iff g _ k hk _ _ (by simp)]
    refine .inr ⟨m, hm, ?_, h4⟩
    unfold Gr.rdHit
    rw [h3, h1, h4, sortAt_nat g k hk]
    have : (g.rules[k].sort == 0) = false := h2
    rw [this]
    simp
end Go.Proofs.Ytnopnihdobedcaa
