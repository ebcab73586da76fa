/- slices.IndexFunc over rules; nulls.Find. -/
import Derived.Test.YtgdcnndmdgcjlaaGr
import Derived.Lib.Hide
import Derived.Outline
namespace Go.Proofs.Ytgdcnndmdgcjlaa
open Go.RowKit

/-- the first place in a list; below 0: none -/
def ixOf {α : Type} (l : List α) (q : α → Bool) : Int :=
  match l.findIdx? q with
  | some i => i
  | none => -1

theorem ixOf_at {α : Type} {l : List α} {q : α → Bool} {j : Nat} (hj : j < l.length) (h : ∀ i (hi : i < l.length), i < j → q l[i] = false) (hq : q l[j] = true) : ixOf l q = j := by
  unfold ixOf
  have : l.findIdx? q = some j := by
    rw [List.findIdx?_eq_some_iff_getElem]
    exact ⟨hj, hq, fun i hi => by simpa using h i (by omega) hi⟩
  rw [this]
theorem ixOf_none {α : Type} {l : List α} {q : α → Bool} (h : ∀ i (hi : i < l.length), q l[i] = false) : ixOf l q = -1 := by
  unfold ixOf
  have : l.findIdx? q = none := by
    rw [List.findIdx?_eq_none_iff]
    intro x hx
    obtain ⟨i, hi, rfl⟩ := List.mem_iff_getElem.1 hx
    simpa using h i hi
  rw [this]

theorem ixOf_cases {α : Type} (l : List α) (q : α → Bool) : (ixOf l q = -1 ∧ ∀ i (hi : i < l.length), q l[i] = false) ∨ ∃ j, ∃ hj : j < l.length, ixOf l q = j ∧ q l[j] = true ∧ ∀ i (hi : i < l.length), i < j → q l[i] = false := by
  unfold ixOf
  cases h : l.findIdx? q with
  | none =>
    rw [List.findIdx?_eq_none_iff] at h
    exact .inl ⟨rfl, fun i hi => by simpa using h _ (List.getElem_mem hi)⟩
  | some j =>
    rw [List.findIdx?_eq_some_iff_getElem] at h
    obtain ⟨hj, hq, hn⟩ := h
    exact .inr ⟨j, hj, rfl, hq, fun i hi hlt => by simpa using hn i hlt⟩

/-- so far none -/
def NoneTo {α : Type} (l : List α) (q : α → Bool) (j : Nat) : Prop := ∀ i (hi : i < l.length), i < j → q l[i] = false
theorem noneTo_next {α : Type} {l : List α} {q : α → Bool} {j : Nat} (h : NoneTo l q j) (hj : j < l.length) (hq : q l[j] = false) : NoneTo l q (j + 1) := by
  intro i hi hlt
  by_cases e : i = j
  · subst e; exact hq
  · exact h i hi (by omega)

/-- a function with a body is entered -/
def Enters (F : Nat) : Prop := ∀ (args : Array Value) (w : World), (callFunc F args).run Try.prog w = .ok (.enter F args) w
theorem enters96 : Enters 96 := fun _ _ => by kernel_rfl

set_option maxHeartbeats 1000000 in
set_option maxRecDepth 20000 in
theorem indexRules_ok (l : List Rl) (q : Rl → Bool) (F : Nat) (cp : Array Value) (hF : Enters F) (W : World) (a : Option Addr) (cap : Nat) (hl : l.length ≤ reachN) (hR : RulesAt W W.heap.size a 0 l)
    (HF : Hid (∀ (i : Nat) (hi : i < l.length) (W' : World) (v0 v1 v2 v3 v4 v5 v6 v7 v8 v9 : Value), Below W.heap.size W W' → RuleAt W' W'.heap.size (some v0) (some v1) (some v2) (some v3) (some v4) (some v5) (some v6) (some v7) (some v8) (some v9) l[i] →
      Calls Try.prog F (#[.agg #[v0, v1, v2, v3, v4, v5, v6, v7, v8, v9]] ++ cp) W' fun e W2 => e = .returned (.bool (q l[i])) ∧ Below W'.heap.size W' W2)) :
    Calls Try.prog 95 #[.slice a l.length cap, .func (.func F) #[] cp] W fun e W' => e = .returned (.int .i64 (ixOf l q)) ∧ Below W.heap.size W W' := by
  unfold reachN at hl
  go_enter Try.func95, Try.ntmps95
  go_wp2
  go_loopw [8] (fun i wr => ∃ (j : Nat), i = .int .i64 j ∧ j ≤ l.length ∧ Hid (NoneTo l q j) ∧ Below W.heap.size W wr) (fun i _ => l.length - (intOf i).toNat)
  case atStart =>
    exact ⟨0, rfl, by omega, fun i hi h => absurd h (by omega), Below.refl _ _⟩
  case round =>
    obtain ⟨j, rfl, hj, hf, hbw⟩ := hrel
    by_cases hlt : j < l.length
    · obtain ⟨b, off, rfl, hb, hrule⟩ := (hR.keep hbw).get hlt
      simp only [Nat.zero_add] at hrule
      obtain ⟨u2, u3, u4, u5, u6, e0, e1, e2, e3, e4, e5, e6, e7, e8, e9, hrule, hnode⟩ := hrule.vals
      have HS := Lib.hid (HF.out j hlt wr _ _ _ _ _ _ _ _ _ _ hbw (hrule.mono hbw.size))
      clear hrule hnode hR HF
      have hFx := hF
      unfold Enters at hFx
      clear hF
      obtain ⟨t, ht⟩ : ∃ t, t = q l[j] := ⟨_, rfl⟩
      rw [← ht] at HS
      have HQ := Lib.hid ht
      clear ht
      cases t
      · go_wp2_with (refine HS.out.mono ?_; rintro e w2 ⟨rfl, hb2⟩)
        exact ⟨⟨j + 1, by go_num, by omega, noneTo_next hf.out hlt HQ.out.symm, hbw.trans (hb2.mono hbw.size)⟩, by simp [intOf]; omega⟩
      · go_wp2_with (refine HS.out.mono ?_; rintro e w2 ⟨rfl, hb2⟩)
        go_ret
        exact ⟨ret_int (ixOf_at hlt hf.out HQ.out.symm).symm, hbw.trans (hb2.mono hbw.size)⟩
    · go_wp2_with fail
      go_ret
      exact ⟨ret_int (ixOf_none fun i hi => hf.out i hi (by omega)).symm, hbw⟩

theorem find1_ok (r : Rl) (W : World) (v0 v1 v2 v3 v4 v5 v6 v7 v8 v9 : Value) (b : Nat) (name : ByteArray) (hb : W.cell? ⟨b, 0, none⟩ = some (.string name))
    (hR : RuleAt W W.heap.size (some v0) (some v1) (some v2) (some v3) (some v4) (some v5) (some v6) (some v7) (some v8) (some v9) r) :
    Calls Try.prog 96 (#[.agg #[v0, v1, v2, v3, v4, v5, v6, v7, v8, v9]] ++ #[.pointer (some ⟨b, 0, none⟩)]) W fun e W2 => e = .returned (.bool (sameB r.name name)) ∧ Below W.heap.size W W2 := by
  obtain rfl := Option.some.inj hR.1
  clear hR
  have hlt : b < W.heap.size := by
    rcases Nat.lt_or_ge b W.heap.size with h | h
    · exact h
    · simp [World.cell?, Array.getElem?_eq_none h] at hb
  simp only [List.append_toArray, List.cons_append, List.nil_append]
  go_enter Try.func96, Try.ntmps96
  go_wp2
  go_ret
  exact ⟨rfl, (Below.refl _ _).alloc (Nat.le_refl _) _⟩

/-- a name's rule -/
def Gr.find (g : Gr) (name : ByteArray) : Int := ixOf g.rules fun r => sameB r.name name

theorem find_ok (g : Gr) (name : ByteArray) (W : World) (v0 v1 v2 v3 : Value) (hG : GrAt W W.heap.size (some v0) (some v1) (some v2) (some v3) g) :
    Calls Try.prog 80 #[.agg #[v0, v1, v2, v3], .string name] W fun e W' => e = .returned (.int .i64 (g.find name)) ∧ Below W.heap.size W W' := by
  obtain ⟨h1, hs, h2, h3, h4, h5, ra, rc, h6, h7, h8⟩ := hG
  obtain rfl := Option.some.inj h1
  obtain rfl := Option.some.inj h2
  obtain rfl := Option.some.inj h3
  obtain rfl := Option.some.inj h6
  clear h1 h2 h3 h4 h5 h6
  have hB : Below W.heap.size W ((W.alloc (.cells #[.string g.name, .int .i64 g.bound, .int .i64 g.states, .slice ra g.rules.length rc] 57)).alloc (.cells #[.string name] 9)) := ((Below.refl _ _).alloc (Nat.le_refl _) _).alloc (by simp) _
  have hc : ((W.alloc (.cells #[.string g.name, .int .i64 g.bound, .int .i64 g.states, .slice ra g.rules.length rc] 57)).alloc (.cells #[.string name] 9)).cell? ⟨W.heap.size + 1, 0, none⟩ = some (.string name) := by simp [go_sem]
  have hc2 : W.heap.size + 1 < ((W.alloc (.cells #[.string g.name, .int .i64 g.bound, .int .i64 g.states, .slice ra g.rules.length rc] 57)).alloc (.cells #[.string name] 9)).heap.size := by simp
  have hS := Lib.hid (indexRules_ok g.rules (fun r => sameB r.name name) 96 #[.pointer (some ⟨W.heap.size + 1, 0, none⟩)] enters96 _ ra rc h7 ((h8.keep hB).mono hB.size)
    (fun i hi W' v0 v1 v2 v3 v4 v5 v6 v7 v8 v9 hb hr => find1_ok _ W' _ _ _ _ _ _ _ _ _ _ _ name (by rw [hb.cell hc2]; exact hc) hr))
  have HB := Lib.hid hB
  clear hB hc hc2 h8
  unfold reachN at h7 hs
  go_enter Try.func80, Try.ntmps80
  go_wp2_with (go_at_call 95; refine hS.out.mono ?_; rintro e w' ⟨rfl, hb2⟩)
  go_ret
  exact ⟨rfl, HB.out.trans (hb2.mono (by simp; omega))⟩
end Go.Proofs.Ytgdcnndmdgcjlaa
