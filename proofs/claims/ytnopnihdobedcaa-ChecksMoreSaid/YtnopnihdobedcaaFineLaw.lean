/- Plain law for ChecksFine: where nothing is told, each name has one rule, of the sort that may be named there, and each loop's body takes something. -/
import Derived.Test.YtnopnihdobedcaaCheckLaw
namespace Go.Proofs.Ytnopnihdobedcaa

/-- does a node name what it may, and does a loop take something? -/
def Gr.nodeFine (g : Gr) (es : List Bool) (r : Rl) (n : Nd) : Bool :=
  !(n.isName && (decide (g.find n.name < 0) || ((n.kind == 5) != (g.sortAt (g.find n.name) == 0)) || g.sortAt (g.find n.name) == 3 || (r.sort == 0 && g.sortAt (g.find n.name) == 2))) && !(g.loopBad es r n)
mutual
/-- do all nodes? -/
def Gr.soundN (g : Gr) (es : List Bool) (r : Rl) : Nd → Bool
  | .mk k nm tx set subs => g.nodeFine es r (.mk k nm tx set subs) && Gr.soundL g es r subs
def Gr.soundL (g : Gr) (es : List Bool) (r : Rl) : List Nd → Bool
  | [] => true
  | n :: l => Gr.soundN g es r n && Gr.soundL g es r l
end
mutual
theorem soundN_all (g : Gr) (es : List Bool) (r : Rl) : ∀ n : Nd, (∀ m ∈ n.all, g.nodeFine es r m = true) → g.soundN es r n = true
  | .mk k nm tx set subs, h => by
    rw [Nd.all] at h
    rw [Gr.soundN, h _ (List.mem_cons_self ..), soundL_all g es r subs fun m hm => h m (List.mem_cons_of_mem _ hm)]
    rfl
theorem soundL_all (g : Gr) (es : List Bool) (r : Rl) : ∀ l : List Nd, (∀ m ∈ Nd.allL l, g.nodeFine es r m = true) → g.soundL es r l = true
  | [], _ => by rw [Gr.soundL]
  | n :: l, h => by
    rw [Nd.allL] at h
    rw [Gr.soundL, soundN_all g es r n fun m hm => h m (List.mem_append_left _ hm), soundL_all g es r l fun m hm => h m (List.mem_append_right _ hm)]
    rfl
end
theorem fine_node {g : Gr} {es : List Bool} {rch rnd : Nat → Nat → Bool} {i : Nat} {r : Rl} (q : Quiet g es rch rnd i r) (m : Nd) (hm : m ∈ r.body.all) : g.nodeFine es r m = true := by
  have h1 := q.none_ m hm
  have h2 := q.sorts m hm
  have h3 := q.loop_ m hm
  unfold Gr.nodeFine
  rw [h3]
  unfold Gr.noneBad at h1
  unfold Gr.sortBad at h2
  cases hn : m.isName
  · rfl
  · rw [hn] at h1 h2
    have h0 : ¬ g.find m.name < 0 := by simpa using h1
    have hs : sortedB r m (g.sortAt (g.find m.name)) = true := by
      have : decide (0 ≤ g.find m.name) = true := decide_eq_true (by omega)
      rw [this] at h2
      simpa using h2
    rw [decide_eq_false h0]
    unfold sortedB Rl.parser at hs
    generalize g.sortAt (g.find m.name) = o at *
    cases h5 : m.kind == 5
    · rw [h5] at hs
      cases hp : r.sort == 0
      · rw [hp] at hs
        have ho : o = 2 := by simpa using hs
        subst ho
        rfl
      · rw [hp] at hs
        have ho : o = 1 := by simpa using hs
        subst ho
        rfl
    · rw [h5] at hs
      have hs' : (r.sort == 0) = true ∧ o = 0 := by simpa using hs
      obtain ⟨_, ho⟩ := hs'
      subst ho
      simp
theorem fine_sound {g : Gr} {es : List Bool} {rch rnd : Nat → Nat → Bool} {i : Nat} {r : Rl} (q : Quiet g es rch rnd i r) : g.soundN es r r.body = true := soundN_all g es r r.body (fine_node q)

/-- a rule's name is its own rule's -/
theorem fine_find {g : Gr} {es : List Bool} {rch rnd : Nat → Nat → Bool} {i : Nat} (hi : i < g.rules.length) (q : Quiet g es rch rnd i g.rules[i]) : g.find g.rules[i].name = (i : Int) := by
  have h := q.twice
  unfold Gr.find at h ⊢
  rcases ixOf_cases g.rules (fun r => sameB r.name g.rules[i].name) with ⟨h1, h2⟩ | ⟨j, hj, h1, h2, h3⟩
  · rw [h1] at h
    omega
  · rw [h1] at h ⊢
    by_cases hji : j = i
    · rw [hji]
    · have hlt : i < j := by omega
      have := h3 i hi hlt
      rw [sameB_refl] at this
      cases this
/-- so many rounds put all rules in order -/
theorem fine_order {g : Gr} {es : List Bool} {rch rnd : Nat → Nat → Bool} (hq : ∀ i (h : i < g.rules.length), Quiet g es rch rnd i g.rules[i])
    (hr : ∀ i k, rch i k = true ↔ Tc (g.Once es) i k) (hd : ∀ i k, Tc g.rd0 i k → rnd i k = true) :
    (putAll rch g.rules.length (List.replicate g.rules.length false) g.rules.length).count true = g.rules.length := by
  have h1 := rounds_all rch g.rules.length (List.replicate g.rules.length false) (by simp)
    (fun i j k _ _ _ h h' => (hr i k).2 (Tc.trans ((hr i j).1 h) ((hr j k).1 h')))
    (fun i hi => no_ring hq (fun i k h => (hr i k).1 h) hd i hi) g.rules.length
  have h2 := (putAll_le rch g.rules.length (List.replicate g.rules.length false) g.rules.length).1
  have h3 := List.count_le_length (a := true) (l := putAll rch g.rules.length (List.replicate g.rules.length false) g.rules.length)
  rw [List.length_replicate] at h2
  omega
end Go.Proofs.Ytnopnihdobedcaa
