/- The first list of a node, plain. -/
import Derived.Test.YtgegjjfjhpokpaaGreatDoorQW18
namespace Go.Proofs.YtgegjjfjhpokpaaGreatDoor

/-- none; or a length, with the list if it is short -/
def Fst.Ok (f : Fst) : Prop := (f.long = -1 ∧ f.w = []) ∨ (0 ≤ f.long ∧ f.long ≤ 1073741824 ∧ (f.long ≤ 256 → (f.w.length : Int) = f.long) ∧ (256 < f.long → f.w = []))
theorem Fst.Ok.fine {f : Fst} (h : f.Ok) : f.Fine := by
  rcases h with ⟨h1, h2⟩ | ⟨h1, h2, h3, h4⟩
  · exact ⟨by omega, by omega, by rw [h2]; simp⟩
  · refine ⟨by omega, h2, ?_⟩
    by_cases h : f.long ≤ 256
    · have := h3 h
      omega
    · rw [h4 (by omega)]; simp
theorem joinF_ok {f g : Fst} (hf : f.Ok) (hg : g.Ok) : (joinF f g).Ok := by
  unfold joinF
  split
  · exact .inl ⟨rfl, rfl⟩
  · rename_i h
    rcases hf with ⟨h1, -⟩ | ⟨f1, f2, f3, f4⟩
    · exact absurd (.inl h1) h
    · rcases hg with ⟨h1, -⟩ | ⟨g1, g2, g3, g4⟩
      · exact absurd (.inr (.inl h1)) h
      · have h5 : ¬ 1073741824 < f.long + g.long := fun e => h (.inr (.inr e))
        refine .inr ⟨by show (0 : Int) ≤ f.long + g.long; omega, by show f.long + g.long ≤ 1073741824; omega, fun h6 => ?_, fun h6 => ?_⟩
        · dsimp only at h6 ⊢
          have a1 := f3 (by omega)
          have a2 := g3 (by omega)
          rw [if_pos h6, List.length_append]
          omega
        · dsimp only at h6 ⊢
          rw [if_neg (by omega)]
mutual
def Bk.firstN (B : Bk) : Nd → Fst
  | .mk k nm _ _ subs =>
    if k = 6 then ⟨1, [(B.tok nm : Int)]⟩
    else if k = 5 then (B.firsts[B.rule nm]?).getD ⟨-1, []⟩
    else if k = 1 then B.firstSeq subs ⟨0, []⟩
    else if k = 0 then B.firstAlt subs ⟨-1, []⟩
    else if k = 4 then B.firstHd subs
    else ⟨0, []⟩
def Bk.firstHd (B : Bk) : List Nd → Fst
  | [] => ⟨0, []⟩
  | s :: _ => B.firstN s
def Bk.firstSeq (B : Bk) : List Nd → Fst → Fst
  | [], o => o
  | s :: r, o => B.firstSeq r (joinF o (B.firstN s))
def Bk.firstAlt (B : Bk) : List Nd → Fst → Fst
  | [], o => o
  | s :: r, o => B.firstAlt r (if firstLt (B.firstN s) o then B.firstN s else o)
end
theorem ok_zero : Fst.Ok ⟨0, []⟩ := .inr ⟨by simp, by simp, by simp, by simp⟩
theorem ok_none : Fst.Ok ⟨-1, []⟩ := .inl ⟨rfl, rfl⟩
mutual
theorem Bk.firstN_ok {B : Bk} (hB : ∀ f ∈ B.firsts, f.Ok) : ∀ n : Nd, (B.firstN n).Ok
  | .mk k nm _ _ subs => by
    rw [Bk.firstN]
    split
    · exact .inr ⟨by simp, by simp, by simp, by simp⟩
    split
    · cases h : B.firsts[B.rule nm]? with
      | none => exact ok_none
      | some f => exact hB f (List.mem_of_getElem? h)
    split
    · exact Bk.firstSeq_ok hB subs _ ok_zero
    split
    · exact Bk.firstAlt_ok hB subs _ ok_none
    split
    · exact Bk.firstHd_ok hB subs
    · exact ok_zero
theorem Bk.firstHd_ok {B : Bk} (hB : ∀ f ∈ B.firsts, f.Ok) : ∀ l : List Nd, (B.firstHd l).Ok
  | [] => by rw [Bk.firstHd]; exact ok_zero
  | s :: _ => by rw [Bk.firstHd]; exact Bk.firstN_ok hB s
theorem Bk.firstSeq_ok {B : Bk} (hB : ∀ f ∈ B.firsts, f.Ok) : ∀ (l : List Nd) (o : Fst), o.Ok → (B.firstSeq l o).Ok
  | [], o, h => by rw [Bk.firstSeq]; exact h
  | s :: r, o, h => by rw [Bk.firstSeq]; exact Bk.firstSeq_ok hB r _ (joinF_ok h (Bk.firstN_ok hB s))
theorem Bk.firstAlt_ok {B : Bk} (hB : ∀ f ∈ B.firsts, f.Ok) : ∀ (l : List Nd) (o : Fst), o.Ok → (B.firstAlt l o).Ok
  | [], o, h => by rw [Bk.firstAlt]; exact h
  | s :: r, o, h => by
    rw [Bk.firstAlt]
    refine Bk.firstAlt_ok hB r _ ?_
    split
    · exact Bk.firstN_ok hB s
    · exact h
end
end Go.Proofs.YtgegjjfjhpokpaaGreatDoor
