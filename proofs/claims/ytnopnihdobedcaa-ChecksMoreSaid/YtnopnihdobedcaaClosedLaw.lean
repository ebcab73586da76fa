/- Which rules may be empty: just those whose bodies may; and a rule more, that nothing names, changes nothing. No program in sight. -/
import Derived.Test.YtnopnihdobedcaaGrowLaw
namespace Go.Proofs.Ytnopnihdobedcaa
open Go.RowKit

theorem Gr.IsEmpty.may {g : Gr} {es : List Bool} (h : g.IsEmpty es) (i : Nat) (hi : i < g.rules.length) : g.may es g.rules[i].token g.rules[i].body = es.getD i false := by
  cases hm : g.may es g.rules[i].token g.rules[i].body with
  | true => exact (h.pre i hi hm).symm
  | false =>
    cases hx : es.getD i false with
    | false => rfl
    | true =>
      exfalso
      have hle : Leq (es.set i false) es := by
        intro j hj
        by_cases e : i = j
        · subst e; exact hx
        · simpa [List.getD_eq_getElem?_getD, List.getElem?_set_ne e] using hj
      have hpre : g.Pre (es.set i false) := by
        intro k hk h2
        have h3 := may_mono hle _ _ h2
        by_cases e : k = i
        · subst e; rw [hm] at h3; cases h3
        · have h4 := h.pre k hk h3
          simpa [List.getD_eq_getElem?_getD, List.getElem?_set_ne (fun x => e x.symm)] using h4
      have h2 := h.sound.2 _ hpre i hx
      have hl : i < es.length := by rw [h.sound.1]; exact hi
      simp [List.getD_eq_getElem?_getD, hl] at h2

/-- does a node name something? -/
def dash : ByteArray := { data := #[45] }
mutual
def Nd.names : Nd → ByteArray → Bool
  | .mk _ nm _ _ subs, x => sameB nm x || Nd.namesAny subs x
def Nd.namesAny : List Nd → ByteArray → Bool
  | [], _ => false
  | n :: r, x => Nd.names n x || Nd.namesAny r x
end
theorem namesAny_eq (l : List Nd) (x : ByteArray) : Nd.namesAny l x = l.any (fun n => n.names x) := by
  induction l with
  | nil => rfl
  | cons n r ih => rw [Nd.namesAny, ih]; rfl

def dashRule : Rl := ⟨dash, 0, .mk 1 { data := #[] } { data := #[] } [] [], 0, 0, 0⟩
/-- a rule more -/
def Gr.ext (g : Gr) : Gr := { g with rules := g.rules ++ [dashRule] }
theorem ext_length (g : Gr) : g.ext.rules.length = g.rules.length + 1 := by simp [Gr.ext]

theorem ixOf_append (l : List Rl) (r : Rl) (p : Rl → Bool) (hp : p r = false) : ixOf (l ++ [r]) p = ixOf l p := by
  unfold ixOf
  rw [List.findIdx?_append]
  cases l.findIdx? p with
  | some i => rfl
  | none => simp [hp]
theorem find_ext (g : Gr) (x : ByteArray) (hx : sameB x dash = false) : g.ext.find x = g.find x := by
  unfold Gr.find Gr.ext
  apply ixOf_append
  unfold dashRule sameB at *
  simp only [beq_eq_false_iff_ne, ne_eq] at *
  exact fun h => hx h.symm
theorem named_ext (g : Gr) (t : Bool) (n : Nd) (hn : sameB n.name dash = false) : g.ext.named t n = g.named t n := by
  unfold Gr.named
  rw [find_ext g _ hn]
  have hs : ¬ (g.find n.name < 0) → g.ext.sortAt (g.find n.name) = g.sortAt (g.find n.name) := by
    intro h
    have h2 : (g.find n.name).toNat < g.rules.length := by
      unfold Gr.find ixOf at h ⊢
      split
      · rename_i i hi
        have := List.findIdx?_eq_some_iff_getElem.1 hi
        obtain ⟨h3, _⟩ := this
        simpa using h3
      · rename_i hi
        rw [hi] at h
        exact absurd (by decide) h
    unfold Gr.sortAt Gr.ext
    simp only [List.getElem?_append_left h2]
  by_cases h : g.find n.name < 0
  · simp only [h, if_true]
  · simp only [h, if_false, hs h]

mutual
theorem may_ext (g : Gr) (es : List Bool) (t : Bool) : ∀ n : Nd, n.names dash = false → g.ext.may es t n = g.may es t n
  | .mk k nm tx set subs, h => by
    rw [Nd.names, Bool.or_eq_false_iff] at h
    rw [Gr.may, Gr.may, mayAll_ext g es t subs h.2, mayAny_ext g es t subs h.2, named_ext g t (.mk k nm tx set subs) h.1]
theorem mayAll_ext (g : Gr) (es : List Bool) (t : Bool) : ∀ l : List Nd, Nd.namesAny l dash = false → g.ext.mayAll es t l = g.mayAll es t l
  | [], _ => rfl
  | n :: r, h => by
    rw [Nd.namesAny, Bool.or_eq_false_iff] at h
    rw [Gr.mayAll, Gr.mayAll, may_ext g es t n h.1, mayAll_ext g es t r h.2]
theorem mayAny_ext (g : Gr) (es : List Bool) (t : Bool) : ∀ l : List Nd, Nd.namesAny l dash = false → g.ext.mayAny es t l = g.mayAny es t l
  | [], _ => rfl
  | n :: r, h => by
    rw [Nd.namesAny, Bool.or_eq_false_iff] at h
    rw [Gr.mayAny, Gr.mayAny, may_ext g es t n h.1, mayAny_ext g es t r h.2]
end

mutual
/-- what is told of others than the grammar's rules makes no difference -/
theorem may_same {g : Gr} {es fs : List Bool} (h : ∀ i, i < g.rules.length → es.getD i false = fs.getD i false) (t : Bool) : ∀ n : Nd, g.may es t n = g.may fs t n
  | .mk k nm tx set subs => by
    rw [Gr.may, Gr.may, mayAll_same h t subs, mayAny_same h t subs]
    have e : (decide (0 ≤ g.named t (.mk k nm tx set subs)) && es.getD (g.named t (.mk k nm tx set subs)).toNat false) = (decide (0 ≤ g.named t (.mk k nm tx set subs)) && fs.getD (g.named t (.mk k nm tx set subs)).toNat false) := by
      rcases named_range g t (.mk k nm tx set subs) with h2 | ⟨j, hj, h2⟩
      · rw [h2]; rfl
      · rw [h2]
        simp only [Int.toNat_natCast, h j hj]
    rw [e]
theorem mayAll_same {g : Gr} {es fs : List Bool} (h : ∀ i, i < g.rules.length → es.getD i false = fs.getD i false) (t : Bool) : ∀ l : List Nd, g.mayAll es t l = g.mayAll fs t l
  | [] => rfl
  | n :: r => by rw [Gr.mayAll, Gr.mayAll, may_same h t n, mayAll_same h t r]
theorem mayAny_same {g : Gr} {es fs : List Bool} (h : ∀ i, i < g.rules.length → es.getD i false = fs.getD i false) (t : Bool) : ∀ l : List Nd, g.mayAny es t l = g.mayAny fs t l
  | [] => rfl
  | n :: r => by rw [Gr.mayAny, Gr.mayAny, may_same h t n, mayAny_same h t r]
end

theorem ext_rule (g : Gr) (k : Nat) (hk : k < g.rules.length) (hk' : k < g.ext.rules.length) : g.ext.rules[k] = g.rules[k] := by
  show (g.rules ++ [dashRule])[k]'(by simp; omega) = g.rules[k]
  rw [List.getElem_append_left hk]
theorem ext_last (g : Gr) (hk : g.rules.length < g.ext.rules.length) : g.ext.rules[g.rules.length] = dashRule := by
  show (g.rules ++ [dashRule])[g.rules.length]'(by simp) = dashRule
  simp

theorem empty_ext {g : Gr} {es : List Bool} (hn : ∀ i (hi : i < g.rules.length), g.rules[i].body.names dash = false) (he : g.IsEmpty es) : g.ext.IsEmpty (es ++ [true]) := by
  have hl := ext_length g
  have hel := he.sound.1
  have hm : ∀ fs, g.ext.may fs dashRule.token dashRule.body = true := fun fs => by unfold dashRule; rw [Gr.may]; rfl
  have hsame : ∀ i, i < g.rules.length → (es ++ [true]).getD i false = es.getD i false := fun i hi => by
    rw [List.getD_eq_getElem?_getD, List.getElem?_append_left (by omega), ← List.getD_eq_getElem?_getD]
  have hlast : (es ++ [true]).getD g.rules.length false = true := by
    rw [← hel]; simp [List.getD_eq_getElem?_getD]
  refine ⟨⟨by simp [hel, hl], fun fs hfs j hj => ?_⟩, fun k hk hmay => ?_⟩
  · by_cases hjl : j < g.rules.length
    · rw [hsame j hjl] at hj
      refine he.sound.2 fs (fun k hk hmk => ?_) j hj
      refine hfs k (by omega) ?_
      rw [ext_rule g k hk (by omega), may_ext g fs _ _ (hn k hk)]
      exact hmk
    · by_cases hje : j = g.rules.length
      · subst hje
        refine hfs g.rules.length (by omega) ?_
        rw [ext_last g (by omega)]
        exact hm fs
      · rw [List.getD_eq_getElem?_getD, List.getElem?_eq_none (by simp; omega)] at hj
        cases hj
  · by_cases hkl : k < g.rules.length
    · rw [ext_rule g k hkl hk, may_ext g _ _ _ (hn k hkl), may_same hsame] at hmay
      rw [hsame k hkl]
      exact he.pre k hkl hmay
    · have : k = g.rules.length := by omega
      subst this
      exact hlast
end Go.Proofs.Ytnopnihdobedcaa
