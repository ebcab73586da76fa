/- A grammar's rules, and how they lie in memory. -/
import Derived.Lib.Hide
import Derived.Outline
import Derived.Test.YtkinlcichclnkaaDoorQO4
namespace Go.Proofs.YtkinlcichclnkaaDoor
open Go.RowKit

/-- a rule -/
structure Rl where
  name : ByteArray
  sort : Int
  body : Nd
  p0 : Int
  p1 : Int
  p2 : Int

/-- a grammar -/
structure Gr where
  name : ByteArray
  bound : Int
  states : Int
  rules : List Rl

def InI64 (n : Int) : Prop := -9223372036854775808 ≤ n ∧ n ≤ 9223372036854775807

/-- ten cells read as a rule -/
def RuleAt (W : World) (lim : Nat) (c0 c1 c2 c3 c4 c5 c6 c7 c8 c9 : Option Value) (r : Rl) : Prop :=
  c0 = some (.string r.name) ∧ r.name.size ≤ reachN ∧ c1 = some (.int .u8 r.sort) ∧ (0 ≤ r.sort ∧ r.sort ≤ 255) ∧ NodeAt W lim c2 c3 c4 c5 c6 r.body ∧
  c7 = some (.int .i64 r.p0) ∧ c8 = some (.int .i64 r.p1) ∧ c9 = some (.int .i64 r.p2) ∧ InI64 r.p0 ∧ InI64 r.p1 ∧ InI64 r.p2

def RulesAt (W : World) (lim : Nat) (a : Option Addr) (i : Nat) : List Rl → Prop
  | [] => True
  | n :: r => (∃ b off, a = some ⟨b, off, none⟩ ∧ b < lim ∧ RuleAt W lim (W.cell? ⟨b, off + i * 10, none⟩) (W.cell? ⟨b, off + i * 10 + 1, none⟩) (W.cell? ⟨b, off + i * 10 + 2, none⟩) (W.cell? ⟨b, off + i * 10 + 3, none⟩) (W.cell? ⟨b, off + i * 10 + 4, none⟩)
      (W.cell? ⟨b, off + i * 10 + 5, none⟩) (W.cell? ⟨b, off + i * 10 + 6, none⟩) (W.cell? ⟨b, off + i * 10 + 7, none⟩) (W.cell? ⟨b, off + i * 10 + 8, none⟩) (W.cell? ⟨b, off + i * 10 + 9, none⟩) n) ∧ RulesAt W lim a (i + 1) r

/-- four cells read as a grammar -/
def GrAt (W : World) (lim : Nat) (c0 c1 c2 c3 : Option Value) (g : Gr) : Prop :=
  c0 = some (.string g.name) ∧ g.name.size ≤ reachN ∧ c1 = some (.int .i64 g.bound) ∧ c2 = some (.int .i64 g.states) ∧ InI64 g.bound ∧ InI64 g.states ∧
  ∃ a cap, c3 = some (.slice a g.rules.length cap) ∧ g.rules.length ≤ reachN ∧ RulesAt W lim a 0 g.rules

theorem RulesAt.get {W : World} {lim : Nat} {a : Option Addr} : ∀ {l : List Rl} {i k : Nat} (_ : RulesAt W lim a i l) (hk : k < l.length),
    ∃ b off, a = some ⟨b, off, none⟩ ∧ b < lim ∧ RuleAt W lim (W.cell? ⟨b, off + (i + k) * 10, none⟩) (W.cell? ⟨b, off + (i + k) * 10 + 1, none⟩) (W.cell? ⟨b, off + (i + k) * 10 + 2, none⟩) (W.cell? ⟨b, off + (i + k) * 10 + 3, none⟩) (W.cell? ⟨b, off + (i + k) * 10 + 4, none⟩)
      (W.cell? ⟨b, off + (i + k) * 10 + 5, none⟩) (W.cell? ⟨b, off + (i + k) * 10 + 6, none⟩) (W.cell? ⟨b, off + (i + k) * 10 + 7, none⟩) (W.cell? ⟨b, off + (i + k) * 10 + 8, none⟩) (W.cell? ⟨b, off + (i + k) * 10 + 9, none⟩) l[k]
  | [], _, _, _, hk => absurd hk (by simp)
  | n :: r, i, 0, h, _ => by simpa using h.1
  | n :: r, i, k + 1, h, hk => by
    obtain ⟨b, off, h1, h2, h3⟩ := RulesAt.get (k := k) h.2 (by simpa using hk)
    refine ⟨b, off, h1, h2, ?_⟩
    have e : i + 1 + k = i + (k + 1) := by omega
    rw [e] at h3
    simpa using h3

theorem RuleAt.keep {W W' : World} {lim : Nat} (hb : Below lim W W') {c0 c1 c2 c3 c4 c5 c6 c7 c8 c9 : Option Value} {r : Rl} (h : RuleAt W lim c0 c1 c2 c3 c4 c5 c6 c7 c8 c9 r) : RuleAt W' lim c0 c1 c2 c3 c4 c5 c6 c7 c8 c9 r :=
  ⟨h.1, h.2.1, h.2.2.1, h.2.2.2.1, h.2.2.2.2.1.keep hb, h.2.2.2.2.2⟩
theorem RuleAt.mono {W : World} {lim lim' : Nat} (hl : lim ≤ lim') {c0 c1 c2 c3 c4 c5 c6 c7 c8 c9 : Option Value} {r : Rl} (h : RuleAt W lim c0 c1 c2 c3 c4 c5 c6 c7 c8 c9 r) : RuleAt W lim' c0 c1 c2 c3 c4 c5 c6 c7 c8 c9 r :=
  ⟨h.1, h.2.1, h.2.2.1, h.2.2.2.1, h.2.2.2.2.1.mono hl, h.2.2.2.2.2⟩
theorem RulesAt.keep {W W' : World} {lim : Nat} (hb : Below lim W W') {a : Option Addr} : ∀ {l : List Rl} {i : Nat}, RulesAt W lim a i l → RulesAt W' lim a i l
  | [], _, _ => trivial
  | n :: r, i, h => by
    obtain ⟨⟨b, off, h1, h2, h3⟩, h5⟩ := h
    refine ⟨⟨b, off, h1, h2, ?_⟩, RulesAt.keep hb h5⟩
    have e : ∀ o, W'.cell? ⟨b, o, none⟩ = W.cell? ⟨b, o, none⟩ := fun o => hb.cell h2
    simp only [e]
    exact h3.keep hb
theorem RulesAt.mono {W : World} {lim lim' : Nat} (hl : lim ≤ lim') {a : Option Addr} : ∀ {l : List Rl} {i : Nat}, RulesAt W lim a i l → RulesAt W lim' a i l
  | [], _, _ => trivial
  | n :: r, i, h => by
    obtain ⟨⟨b, off, h1, h2, h3⟩, h5⟩ := h
    exact ⟨⟨b, off, h1, by omega, h3.mono hl⟩, RulesAt.mono hl h5⟩
theorem GrAt.keep {W W' : World} {lim : Nat} (hb : Below lim W W') {c0 c1 c2 c3 : Option Value} {g : Gr} (h : GrAt W lim c0 c1 c2 c3 g) : GrAt W' lim c0 c1 c2 c3 g := by
  obtain ⟨h1, h2, h3, h4, h5, h6, a, cap, h7, h8, h9⟩ := h
  exact ⟨h1, h2, h3, h4, h5, h6, a, cap, h7, h8, h9.keep hb⟩
theorem GrAt.mono {W : World} {lim lim' : Nat} (hl : lim ≤ lim') {c0 c1 c2 c3 : Option Value} {g : Gr} (h : GrAt W lim c0 c1 c2 c3 g) : GrAt W lim' c0 c1 c2 c3 g := by
  obtain ⟨h1, h2, h3, h4, h5, h6, a, cap, h7, h8, h9⟩ := h
  exact ⟨h1, h2, h3, h4, h5, h6, a, cap, h7, h8, h9.mono hl⟩

theorem RuleAt.vals {W : World} {lim : Nat} {c0 c1 c2 c3 c4 c5 c6 c7 c8 c9 : Option Value} {r : Rl} (h : RuleAt W lim c0 c1 c2 c3 c4 c5 c6 c7 c8 c9 r) :
    ∃ v2 v3 v4 v5 v6, c0 = some (.string r.name) ∧ c1 = some (.int .u8 r.sort) ∧ c2 = some v2 ∧ c3 = some v3 ∧ c4 = some v4 ∧ c5 = some v5 ∧ c6 = some v6 ∧
      c7 = some (.int .i64 r.p0) ∧ c8 = some (.int .i64 r.p1) ∧ c9 = some (.int .i64 r.p2) ∧
      RuleAt W lim (some (.string r.name)) (some (.int .u8 r.sort)) (some v2) (some v3) (some v4) (some v5) (some v6) (some (.int .i64 r.p0)) (some (.int .i64 r.p1)) (some (.int .i64 r.p2)) r ∧
      NodeAt W lim (some v2) (some v3) (some v4) (some v5) (some v6) r.body := by
  have h' := h
  obtain ⟨rfl, h2, rfl, h4, h5, rfl, rfl, rfl, h9⟩ := h
  obtain ⟨u0, u1, u2, u3, u4, rfl, rfl, rfl, rfl, rfl, hn⟩ := h5.vals
  exact ⟨_, _, _, _, _, rfl, rfl, rfl, rfl, rfl, rfl, rfl, rfl, rfl, rfl, h', hn⟩
end Go.Proofs.YtkinlcichclnkaaDoor

/- slices.IndexFunc over rules; nulls.Find. -/
namespace Go.Proofs.YtkinlcichclnkaaDoor
open Go.RowKit

/-- the first place in a list; below 0: none -/
def ixOf {α : Type} (l : List α) (q : α → Bool) : Int :=
  match l.findIdx? q with
  | some i => i
  | none => -1

theorem ixOf_at {α : Type} {l : List α} {q : α → Bool} {j : Nat} (hj : j < l.length) (h : ∀ i (hi : i < l.length), i < j → q l[i] = false) (hq : q l[j] = true) : ixOf l q = j := by
  unfold ixOf
  have : l.findIdx? q = some j := by
    rw [List.findIdx?_eq_some_iff_getElem]
    exact ⟨hj, hq, fun i hi => by simpa using h i (by omega) hi⟩
  rw [this]
theorem ixOf_none {α : Type} {l : List α} {q : α → Bool} (h : ∀ i (hi : i < l.length), q l[i] = false) : ixOf l q = -1 := by
  unfold ixOf
  have : l.findIdx? q = none := by
    rw [List.findIdx?_eq_none_iff]
    intro x hx
    obtain ⟨i, hi, rfl⟩ := List.mem_iff_getElem.1 hx
    simpa using h i hi
  rw [this]

theorem ixOf_cases {α : Type} (l : List α) (q : α → Bool) : (ixOf l q = -1 ∧ ∀ i (hi : i < l.length), q l[i] = false) ∨ ∃ j, ∃ hj : j < l.length, ixOf l q = j ∧ q l[j] = true ∧ ∀ i (hi : i < l.length), i < j → q l[i] = false := by
  unfold ixOf
  cases h : l.findIdx? q with
  | none =>
    rw [List.findIdx?_eq_none_iff] at h
    exact .inl ⟨rfl, fun i hi => by simpa using h _ (List.getElem_mem hi)⟩
  | some j =>
    rw [List.findIdx?_eq_some_iff_getElem] at h
    obtain ⟨hj, hq, hn⟩ := h
    exact .inr ⟨j, hj, rfl, hq, fun i hi hlt => by simpa using hn i hlt⟩

/-- so far none -/
def NoneTo {α : Type} (l : List α) (q : α → Bool) (j : Nat) : Prop := ∀ i (hi : i < l.length), i < j → q l[i] = false
theorem noneTo_next {α : Type} {l : List α} {q : α → Bool} {j : Nat} (h : NoneTo l q j) (hj : j < l.length) (hq : q l[j] = false) : NoneTo l q (j + 1) := by
  intro i hi hlt
  by_cases e : i = j
  · subst e; exact hq
  · exact h i hi (by omega)

/-- a function with a body is entered -/
def Enters (F : Nat) : Prop := ∀ (args : Array Value) (w : World), (callFunc F args).run Tryd.prog w = .ok (.enter F args) w
theorem enters41 : Enters 41 := fun _ _ => by kernel_rfl

set_option maxHeartbeats 1000000 in
set_option maxRecDepth 20000 in
theorem indexRules_ok (l : List Rl) (q : Rl → Bool) (F : Nat) (cp : Array Value) (hF : Enters F) (W : World) (a : Option Addr) (cap : Nat) (hl : l.length ≤ reachN) (hR : RulesAt W W.heap.size a 0 l)
    (HF : Hid (∀ (i : Nat) (hi : i < l.length) (W' : World) (v0 v1 v2 v3 v4 v5 v6 v7 v8 v9 : Value), Below W.heap.size W W' → RuleAt W' W'.heap.size (some v0) (some v1) (some v2) (some v3) (some v4) (some v5) (some v6) (some v7) (some v8) (some v9) l[i] →
      Calls Tryd.prog F (#[.agg #[v0, v1, v2, v3, v4, v5, v6, v7, v8, v9]] ++ cp) W' fun e W2 => e = .returned (.bool (q l[i])) ∧ Below W'.heap.size W' W2)) :
    Calls Tryd.prog 40 #[.slice a l.length cap, .func (.func F) #[] cp] W fun e W' => e = .returned (.int .i64 (ixOf l q)) ∧ Below W.heap.size W W' := by
  unfold reachN at hl
  go_enter Tryd.func40, Tryd.ntmps40
  go_wp2
  go_loopw [8] (fun i wr => ∃ (j : Nat), i = .int .i64 j ∧ j ≤ l.length ∧ Hid (NoneTo l q j) ∧ Below W.heap.size W wr) (fun i _ => l.length - (intOf i).toNat)
  case atStart =>
    exact ⟨0, rfl, by omega, fun i hi h => absurd h (by omega), Below.refl _ _⟩
  case round =>
    obtain ⟨j, rfl, hj, hf, hbw⟩ := hrel
    by_cases hlt : j < l.length
    · obtain ⟨b, off, rfl, hb, hrule⟩ := (hR.keep hbw).get hlt
      simp only [Nat.zero_add] at hrule
      obtain ⟨u2, u3, u4, u5, u6, e0, e1, e2, e3, e4, e5, e6, e7, e8, e9, hrule, hnode⟩ := hrule.vals
      have HS := Lib.hid (HF.out j hlt wr _ _ _ _ _ _ _ _ _ _ hbw (hrule.mono hbw.size))
      clear hrule hnode hR HF
      have hFx := hF
      unfold Enters at hFx
      clear hF
      obtain ⟨t, ht⟩ : ∃ t, t = q l[j] := ⟨_, rfl⟩
      rw [← ht] at HS
      have HQ := Lib.hid ht
      clear ht
      cases t
      · go_wp2_with (refine HS.out.mono ?_; rintro e w2 ⟨rfl, hb2⟩)
        exact ⟨⟨j + 1, by go_num, by omega, noneTo_next hf.out hlt HQ.out.symm, hbw.trans (hb2.mono hbw.size)⟩, by simp [intOf]; omega⟩
      · go_wp2_with (refine HS.out.mono ?_; rintro e w2 ⟨rfl, hb2⟩)
        go_ret
        exact ⟨ret_int (ixOf_at hlt hf.out HQ.out.symm).symm, hbw.trans (hb2.mono hbw.size)⟩
    · go_wp2_with fail
      go_ret
      exact ⟨ret_int (ixOf_none fun i hi => hf.out i hi (by omega)).symm, hbw⟩

theorem find1_ok (r : Rl) (W : World) (v0 v1 v2 v3 v4 v5 v6 v7 v8 v9 : Value) (b : Nat) (name : ByteArray) (hb : W.cell? ⟨b, 0, none⟩ = some (.string name))
    (hR : RuleAt W W.heap.size (some v0) (some v1) (some v2) (some v3) (some v4) (some v5) (some v6) (some v7) (some v8) (some v9) r) :
    Calls Tryd.prog 41 (#[.agg #[v0, v1, v2, v3, v4, v5, v6, v7, v8, v9]] ++ #[.pointer (some ⟨b, 0, none⟩)]) W fun e W2 => e = .returned (.bool (sameB r.name name)) ∧ Below W.heap.size W W2 := by
  obtain rfl := Option.some.inj hR.1
  clear hR
  have hlt : b < W.heap.size := by
    rcases Nat.lt_or_ge b W.heap.size with h | h
    · exact h
    · simp [World.cell?, Array.getElem?_eq_none h] at hb
  simp only [List.append_toArray, List.cons_append, List.nil_append]
  go_enter Tryd.func41, Tryd.ntmps41
  go_wp2
  go_ret
  exact ⟨rfl, (Below.refl _ _).alloc (Nat.le_refl _) _⟩

/-- a name's rule -/
def Gr.find (g : Gr) (name : ByteArray) : Int := ixOf g.rules fun r => sameB r.name name

theorem find_ok (g : Gr) (name : ByteArray) (W : World) (v0 v1 v2 v3 : Value) (hG : GrAt W W.heap.size (some v0) (some v1) (some v2) (some v3) g) :
    Calls Tryd.prog 26 #[.agg #[v0, v1, v2, v3], .string name] W fun e W' => e = .returned (.int .i64 (g.find name)) ∧ Below W.heap.size W W' := by
  obtain ⟨h1, hs, h2, h3, h4, h5, ra, rc, h6, h7, h8⟩ := hG
  obtain rfl := Option.some.inj h1
  obtain rfl := Option.some.inj h2
  obtain rfl := Option.some.inj h3
  obtain rfl := Option.some.inj h6
  clear h1 h2 h3 h4 h5 h6
  have hB : Below W.heap.size W ((W.alloc (.cells #[.string g.name, .int .i64 g.bound, .int .i64 g.states, .slice ra g.rules.length rc] 26)).alloc (.cells #[.string name] 9)) := ((Below.refl _ _).alloc (Nat.le_refl _) _).alloc (by simp) _
  have hc : ((W.alloc (.cells #[.string g.name, .int .i64 g.bound, .int .i64 g.states, .slice ra g.rules.length rc] 26)).alloc (.cells #[.string name] 9)).cell? ⟨W.heap.size + 1, 0, none⟩ = some (.string name) := by simp [go_sem]
  have hc2 : W.heap.size + 1 < ((W.alloc (.cells #[.string g.name, .int .i64 g.bound, .int .i64 g.states, .slice ra g.rules.length rc] 26)).alloc (.cells #[.string name] 9)).heap.size := by simp
  have hS := Lib.hid (indexRules_ok g.rules (fun r => sameB r.name name) 41 #[.pointer (some ⟨W.heap.size + 1, 0, none⟩)] enters41 _ ra rc h7 ((h8.keep hB).mono hB.size)
    (fun i hi W' v0 v1 v2 v3 v4 v5 v6 v7 v8 v9 hb hr => find1_ok _ W' _ _ _ _ _ _ _ _ _ _ _ name (by rw [hb.cell hc2]; exact hc) hr))
  have HB := Lib.hid hB
  clear hB hc hc2 h8
  unfold reachN at h7 hs
  go_enter Tryd.func26, Tryd.ntmps26
  go_wp2_with (go_at_call 40; refine hS.out.mono ?_; rintro e w' ⟨rfl, hb2⟩)
  go_ret
  exact ⟨rfl, HB.out.trans (hb2.mono (by simp; omega))⟩
end Go.Proofs.YtkinlcichclnkaaDoor
