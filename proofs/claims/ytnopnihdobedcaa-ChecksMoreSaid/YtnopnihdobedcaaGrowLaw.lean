/- What becomes of a grammar in which one rule has another body. No program in sight. -/
import Derived.Test.YtnopnihdobedcaaRulesRow
namespace Go.Proofs.Ytnopnihdobedcaa
open Go.RowKit

theorem put_map {α : Type} (g : Gr) (i : Nat) (n : Nd) (f : Rl → α) (hf : ∀ r : Rl, f { r with body := n } = f r) : (g.put i n).rules.map f = g.rules.map f := by
  by_cases hi : i < g.rules.length
  · rw [put_rules g i hi, List.map_set, hf]
    apply List.ext_getElem (by simp)
    intro j h1 h2
    rw [List.getElem_set]
    split
    · rename_i e; subst e; simp
    · rfl
  · unfold Gr.put
    simp [hi]
theorem ixOf_map (l : List Rl) (p : ByteArray → Bool) : ixOf l (fun r => p r.name) = ixOf (l.map (·.name)) p := by
  unfold ixOf
  rw [List.findIdx?_map]
  rfl
theorem find_put (g : Gr) (i : Nat) (n : Nd) (nm : ByteArray) : (g.put i n).find nm = g.find nm := by
  unfold Gr.find
  rw [ixOf_map _ (fun x => sameB x nm), ixOf_map _ (fun x => sameB x nm), put_map g i n (·.name) fun _ => rfl]
theorem sortAt_put (g : Gr) (i : Nat) (n : Nd) (k : Int) : (g.put i n).sortAt k = g.sortAt k := by
  have h := put_map g i n (·.sort) fun _ => rfl
  have e : ∀ h : Gr, h.sortAt k = ((h.rules.map (·.sort))[k.toNat]?).getD 0 := fun h => by
    unfold Gr.sortAt
    rw [List.getElem?_map]
    cases h.rules[k.toNat]? <;> rfl
  rw [e, e, h]
theorem named_put (g : Gr) (i : Nat) (n : Nd) (t : Bool) (m : Nd) : (g.put i n).named t m = g.named t m := by
  unfold Gr.named
  simp only [find_put, sortAt_put]
mutual
theorem may_put (g : Gr) (i : Nat) (n : Nd) (es : List Bool) (t : Bool) : ∀ m : Nd, (g.put i n).may es t m = g.may es t m
  | .mk k nm tx set subs => by
    rw [Gr.may, Gr.may, mayAll_put g i n es t subs, mayAny_put g i n es t subs, named_put]
theorem mayAll_put (g : Gr) (i : Nat) (n : Nd) (es : List Bool) (t : Bool) : ∀ l : List Nd, (g.put i n).mayAll es t l = g.mayAll es t l
  | [] => rfl
  | m :: r => by rw [Gr.mayAll, Gr.mayAll, may_put g i n es t m, mayAll_put g i n es t r]
theorem mayAny_put (g : Gr) (i : Nat) (n : Nd) (es : List Bool) (t : Bool) : ∀ l : List Nd, (g.put i n).mayAny es t l = g.mayAny es t l
  | [] => rfl
  | m :: r => by rw [Gr.mayAny, Gr.mayAny, may_put g i n es t m, mayAny_put g i n es t r]
end
theorem rule_put (g : Gr) (i : Nat) (n : Nd) (k : Nat) (hk : k < (g.put i n).rules.length) (hk' : k < g.rules.length) : (g.put i n).rules[k].token = g.rules[k].token ∧ (k ≠ i → (g.put i n).rules[k].body = g.rules[k].body) ∧ (k = i → (g.put i n).rules[k].body = n) := by
  by_cases hi : i < g.rules.length
  · have h := put_rules g i hi n
    have h2 : (g.put i n).rules[k] = (g.rules.set i { g.rules[i] with body := n })[k]'(by simpa using hk') := by simp only [h]
    rw [h2, List.getElem_set]
    split
    · rename_i e
      subst e
      exact ⟨rfl, fun h => absurd rfl h, fun _ => rfl⟩
    · rename_i e
      exact ⟨rfl, fun _ => rfl, fun x => absurd x.symm e⟩
  · have h : (g.put i n).rules = g.rules := by unfold Gr.put; simp [hi]
    have h2 : (g.put i n).rules[k] = g.rules[k] := by simp only [h]
    rw [h2]
    exact ⟨rfl, fun _ => rfl, fun x => by omega⟩

/-- an empty alternative more -/
def altNode (n : Nd) : Nd := .mk 0 { data := #[] } { data := #[] } [] [n, .mk 1 { data := #[] } { data := #[] } [] []]
/-- a token ahead -/
def tokNode (n : Nd) : Nd := .mk 1 { data := #[] } { data := #[] } [] [.mk 9 { data := #[] } { data := #[] } [(65, 65)] [], n]
theorem may_alt (g : Gr) (es : List Bool) (t : Bool) (n : Nd) : g.may es t (altNode n) = true := by
  have h : g.may es t (.mk 1 { data := #[] } { data := #[] } [] []) = true := by rw [Gr.may]; rfl
  rw [altNode, Gr.may]
  have h2 : g.mayAny es t [n, .mk 1 { data := #[] } { data := #[] } [] []] = true := by
    rw [Gr.mayAny, Gr.mayAny, h]
    simp
  rw [h2]
  rfl
theorem may_tok (g : Gr) (es : List Bool) (t : Bool) (n : Nd) : g.may es t (tokNode n) = false := by
  have h : g.may es t (.mk 9 { data := #[] } { data := #[] } [(65, 65)] []) = false := by rw [Gr.may]; rfl
  rw [tokNode, Gr.may]
  simp only [Gr.mayAll, h, Bool.false_and]
  rfl
theorem marks_tok (g : Gr) (es : List Bool) (t : Bool) (n : Nd) (l : List Bool) : g.marks es t (tokNode n) l = l := by
  have h : g.may es t (.mk 9 { data := #[] } { data := #[] } [(65, 65)] []) = false := by rw [Gr.may]; rfl
  have h2 : g.marks es t (.mk 9 { data := #[] } { data := #[] } [(65, 65)] []) l = l := by rw [Gr.marks]; rfl
  rw [tokNode, Gr.marks]
  simp only [Gr.marksSeq, h, h2]
  rfl

section
variable {g : Gr} {i : Nat} {es fs ds : List Bool}

theorem alt_grows (hi : i < g.rules.length) (he : g.IsEmpty es) (hf : (g.put i (altNode g.rules[i].body)).IsEmpty fs) : fs.getD i false = true ∧ Leq es fs := by
  have hl := put_length g i (altNode g.rules[i].body)
  have h1 : fs.getD i false = true := by
    refine hf.pre i (by omega) ?_
    rw [(rule_put g i _ i (by omega) hi).2.2 rfl]
    exact may_alt _ _ _ _
  refine ⟨h1, he.sound.2 fs fun k hk hm => ?_⟩
  by_cases e : k = i
  · subst e; exact h1
  · have h2 := rule_put g i (altNode g.rules[i].body) k (by omega) hk
    refine hf.pre k (by omega) ?_
    rw [h2.1, h2.2.1 e, may_put]
    exact hm
theorem tok_falls (hi : i < g.rules.length) (he : g.IsEmpty es) (hd : (g.put i (tokNode g.rules[i].body)).IsEmpty ds) : ds.getD i false = false ∧ Leq ds es := by
  have hl := put_length g i (tokNode g.rules[i].body)
  constructor
  · cases hx : ds.getD i false with
    | false => rfl
    | true =>
      have h1 : (g.put i (tokNode g.rules[i].body)).Pre (ds.set i false) := by
        intro k hk hm
        by_cases e : k = i
        · subst e
          rw [(rule_put g k _ k hk (by omega)).2.2 rfl, may_tok] at hm
          cases hm
        · have h3 : Leq (ds.set i false) ds := by
            intro j hj
            by_cases e2 : i = j
            · subst e2; exact hx
            · simpa [List.getD_eq_getElem?_getD, List.getElem?_set_ne e2] using hj
          have h2 := hd.pre k hk (may_mono h3 _ _ hm)
          simpa [List.getD_eq_getElem?_getD, List.getElem?_set_ne (fun x => e x.symm)] using h2
      have h2 := hd.sound.2 _ h1 i hx
      have hil : i < ds.length := by rw [hd.sound.1]; omega
      simp [List.getD_eq_getElem?_getD, hil] at h2
  · refine hd.sound.2 es fun k hk hm => ?_
    have h2 := rule_put g i (tokNode g.rules[i].body) k hk (by omega)
    by_cases e : k = i
    · rw [h2.2.2 e, may_tok] at hm; cases hm
    · rw [h2.1, h2.2.1 e, may_put] at hm
      exact he.pre k (by omega) hm
theorem tok_reaches (hi : i < g.rules.length) {M : List (List Bool)} (hM : IsReach ((g.put i (tokNode g.rules[i].body)).Once ds) g.rules.length M) (k : Nat) : at2 M i k = false := by
  have hl := put_length g i (tokNode g.rules[i].body)
  cases hx : at2 M i k with
  | false => rfl
  | true =>
    exfalso
    have ht := (hM.tc i k).1 hx
    have hno : ∀ j, ¬ (g.put i (tokNode g.rules[i].body)).Once ds i j := by
      intro j hj
      unfold Gr.Once at2 Gr.onceM at hj
      have hil : i < (g.put i (tokNode g.rules[i].body)).rules.length := by omega
      have hb := (rule_put g i (tokNode g.rules[i].body) i hil hi).2.2 rfl
      simp only [List.getD_eq_getElem?_getD, List.getElem?_map, List.getElem?_range hil, Option.map_some, Option.getD_some] at hj
      unfold Gr.onceRow at hj
      simp only [List.getElem?_eq_getElem hil] at hj
      rw [hb, marks_tok, List.getElem?_replicate] at hj
      split at hj <;> simp at hj
    cases ht with
    | one h => exact hno _ h
    | more h _ => exact hno _ h
end
end Go.Proofs.Ytnopnihdobedcaa
