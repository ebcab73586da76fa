/- Which rules may be empty: the fewest of which it holds. No program in sight. -/
import Derived.Test.YtnopnihdobedcaaToken
namespace Go.Proofs.Ytnopnihdobedcaa
open Go.RowKit

/-- what is told of each rule holds of those, too -/
def Leq (es fs : List Bool) : Prop := ∀ i : Nat, es.getD i false = true → fs.getD i false = true
/-- a rule whose body may be empty is told -/
def Gr.Pre (g : Gr) (fs : List Bool) : Prop := ∀ i (h : i < g.rules.length), g.may fs g.rules[i].token g.rules[i].body = true → fs.getD i false = true
/-- told, and needed -/
def Gr.Sound (g : Gr) (es : List Bool) : Prop := es.length = g.rules.length ∧ ∀ fs, g.Pre fs → Leq es fs
structure Gr.IsEmpty (g : Gr) (es : List Bool) : Prop where
  sound : g.Sound es
  pre : g.Pre es

mutual
theorem may_mono {g : Gr} {es fs : List Bool} (h : Leq es fs) (token : Bool) : ∀ n : Nd, g.may es token n = true → g.may fs token n = true
  | .mk k nm tx set subs => by
    have h1 := mayAll_mono (g := g) h token subs
    have h2 := mayAny_mono (g := g) h token subs
    rw [Gr.may, Gr.may]
    split
    · exact h1
    · split
      · exact h2
      · split
        · exact id
        · split
          · exact id
          · split
            · intro h3
              simp only [Bool.and_eq_true] at h3 ⊢
              exact ⟨h3.1, h _ h3.2⟩
            · exact id
theorem mayAll_mono {g : Gr} {es fs : List Bool} (h : Leq es fs) (token : Bool) : ∀ l : List Nd, g.mayAll es token l = true → g.mayAll fs token l = true
  | [] => by simp [Gr.mayAll]
  | n :: r => by
    have h1 := may_mono (g := g) h token n
    have h2 := mayAll_mono (g := g) h token r
    simp only [Gr.mayAll, Bool.and_eq_true]
    exact fun h3 => ⟨h1 h3.1, h2 h3.2⟩
theorem mayAny_mono {g : Gr} {es fs : List Bool} (h : Leq es fs) (token : Bool) : ∀ l : List Nd, g.mayAny es token l = true → g.mayAny fs token l = true
  | [] => by simp [Gr.mayAny]
  | n :: r => by
    have h1 := may_mono (g := g) h token n
    have h2 := mayAny_mono (g := g) h token r
    simp only [Gr.mayAny, Bool.or_eq_true]
    exact fun h3 => h3.imp h1 h2
end

theorem Gr.Sound.next {g : Gr} {es : List Bool} (h : g.Sound es) {i : Nat} (hi : i < g.rules.length) (hm : g.may es g.rules[i].token g.rules[i].body = true) : g.Sound (es.set i true) := by
  refine ⟨by simp [h.1], fun fs hfs j hj => ?_⟩
  by_cases e : i = j
  · subst e
    exact hfs i hi (may_mono (h.2 fs hfs) _ _ hm)
  · apply h.2 fs hfs j
    simpa [List.getD_eq_getElem?_getD, List.getElem?_set_ne e] using hj
theorem Gr.Sound.start (g : Gr) : g.Sound (List.replicate g.rules.length false) := by
  refine ⟨by simp, fun fs _ j hj => ?_⟩
  rw [List.getD_eq_getElem?_getD, List.getElem?_replicate] at hj
  split at hj <;> simp at hj

theorem Gr.IsEmpty.unique {g : Gr} {es fs : List Bool} (h : g.IsEmpty es) (k : g.IsEmpty fs) : es = fs := by
  apply List.ext_getElem (by rw [h.sound.1, k.sound.1])
  intro i h1 h2
  have a := h.sound.2 fs k.pre i
  have b := k.sound.2 es h.pre i
  simp only [List.getD_eq_getElem?_getD, List.getElem?_eq_getElem h1, List.getElem?_eq_getElem h2, Option.getD_some] at a b
  cases hx : es[i] <;> cases hy : fs[i] <;> simp_all

/-- how many are not told -/
def falses (es : List Bool) : Nat := (es.filter fun b => !b).length
theorem falses_set (es : List Bool) (i : Nat) (h : i < es.length) (hf : es[i] = false) : falses (es.set i true) + 1 = falses es := by
  induction es generalizing i with
  | nil => simp at h
  | cons b r ih =>
    cases i with
    | zero => simp at hf; subst hf; simp [falses]
    | succ i =>
      have := ih i (by simpa using h) (by simpa using hf)
      simp only [List.set_cons_succ, falses, List.filter_cons] at *
      split <;> simp_all

/-- a sweep, as far as j: from es0 on -/
def SweepTo (g : Gr) (es0 es : List Bool) (c : Bool) (j : Nat) : Prop :=
  g.Sound es ∧ (c = true → falses es < falses es0) ∧ (c = false → es = es0 ∧ ∀ i (h : i < g.rules.length), i < j → g.may es g.rules[i].token g.rules[i].body = true → es.getD i false = true)
theorem SweepTo.start {g : Gr} {es : List Bool} (h : g.Sound es) : SweepTo g es es false 0 := ⟨h, by simp, fun _ => ⟨rfl, fun i _ h => absurd h (by omega)⟩⟩
theorem SweepTo.keep {g : Gr} {es0 es : List Bool} {c : Bool} {j : Nat} (h : SweepTo g es0 es c j) (hj : j < g.rules.length) (hk : es.getD j false = true ∨ g.may es g.rules[j].token g.rules[j].body = false) : SweepTo g es0 es c (j + 1) := by
  refine ⟨h.1, h.2.1, fun hc => ⟨(h.2.2 hc).1, fun i hi hlt hm => ?_⟩⟩
  by_cases e : i = j
  · subst e
    rcases hk with hk | hk
    · exact hk
    · rw [hk] at hm; cases hm
  · exact (h.2.2 hc).2 i hi (by omega) hm
theorem SweepTo.grow {g : Gr} {es0 es : List Bool} {c : Bool} {j : Nat} (h : SweepTo g es0 es c j) (hj : j < g.rules.length) (hf : es.getD j false = false) (hm : g.may es g.rules[j].token g.rules[j].body = true) : SweepTo g es0 (es.set j true) true (j + 1) := by
  have hl : j < es.length := by rw [h.1.1]; exact hj
  have hf' : es[j] = false := by simpa [List.getD_eq_getElem?_getD, List.getElem?_eq_getElem hl] using hf
  refine ⟨h.1.next hj hm, fun _ => ?_, by simp⟩
  have h1 := falses_set es j hl hf'
  cases c with
  | true => have := h.2.1 rfl; omega
  | false => have := (h.2.2 rfl).1; subst this; omega
theorem SweepTo.done {g : Gr} {es0 es : List Bool} (h : SweepTo g es0 es false g.rules.length) : g.IsEmpty es := ⟨h.1, fun i hi hm => (h.2.2 rfl).2 i hi hi hm⟩
end Go.Proofs.Ytnopnihdobedcaa
