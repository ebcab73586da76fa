/- Plain law for ChecksFine: what is told of a grammar, and what is so where nothing is told. -/
import Derived.Test.YtkinlcichclnkaaDoorQO12
namespace Go.Proofs.YtkinlcichclnkaaDoor

mutual
/-- all nodes, each ahead of its subs -/
def Nd.all : Nd → List Nd
  | .mk k nm tx set subs => .mk k nm tx set subs :: Nd.allL subs
def Nd.allL : List Nd → List Nd
  | [] => []
  | n :: r => n.all ++ Nd.allL r
end
theorem all_self (n : Nd) : n ∈ n.all := by
  obtain ⟨k, nm, tx, set, subs⟩ := n
  rw [Nd.all]
  exact List.mem_cons_self ..

def Nd.isName (n : Nd) : Bool := n.kind == 5 || n.kind == 6

theorem named_is {g : Gr} {t : Bool} {m : Nd} {k : Nat} (h : g.named t m = (k : Int)) : g.find m.name = (k : Int) ∧ ((g.sortAt (k : Int) == 0) = (m.kind == 5)) ∧ (m.kind = 6 → t = true) := by
  unfold Gr.named at h
  simp only at h
  split at h
  · omega
  · split at h
    · omega
    · next h1 h2 =>
      split at h
      · omega
      · next h3 =>
        rw [h] at h2 h1
        refine ⟨h, by simpa using h2, fun h6 => ?_⟩
        rw [h6] at h3
        simpa using h3

theorem getD_setB (l : List Bool) (i k : Nat) (h : (l.set i true).getD k false = true) : l.getD k false = true ∨ k = i := by
  rw [getD_set] at h
  split at h
  · next hh => exact .inr hh.1
  · exact .inl h

mutual
/-- what is marked is named by some node -/
theorem marks_from (g : Gr) (es : List Bool) (t : Bool) (k : Nat) : ∀ (n : Nd) (l : List Bool), (g.marks es t n l).getD k false = true → l.getD k false = true ∨ ∃ m ∈ n.all, m.isName = true ∧ g.named t m = (k : Int)
  | .mk kd nm tx set subs, l, h => by
    rw [Gr.marks] at h
    rw [Nd.all]
    split at h
    · rcases marksSeq_from g es t k subs l h with h | ⟨m, hm, hh⟩
      · exact .inl h
      · exact .inr ⟨m, List.mem_cons_of_mem _ hm, hh⟩
    · split at h
      · rcases marksAll_from g es t k subs l h with h | ⟨m, hm, hh⟩
        · exact .inl h
        · exact .inr ⟨m, List.mem_cons_of_mem _ hm, hh⟩
      · split at h
        · next hk =>
          split at h
          · next hpos =>
            rcases getD_setB _ _ _ h with h | h
            · exact .inl h
            · refine .inr ⟨_, List.mem_cons_self .., hk, ?_⟩
              omega
          · exact .inl h
        · exact .inl h
theorem marksSeq_from (g : Gr) (es : List Bool) (t : Bool) (k : Nat) : ∀ (ns : List Nd) (l : List Bool), (g.marksSeq es t ns l).getD k false = true → l.getD k false = true ∨ ∃ m ∈ Nd.allL ns, m.isName = true ∧ g.named t m = (k : Int)
  | [], l, h => by
    rw [Gr.marksSeq] at h
    exact .inl h
  | n :: r, l, h => by
    rw [Gr.marksSeq] at h
    rw [Nd.allL]
    split at h
    · rcases marksSeq_from g es t k r _ h with h | ⟨m, hm, hh⟩
      · rcases marks_from g es t k n l h with h | ⟨m, hm, hh⟩
        · exact .inl h
        · exact .inr ⟨m, List.mem_append_left _ hm, hh⟩
      · exact .inr ⟨m, List.mem_append_right _ hm, hh⟩
    · rcases marks_from g es t k n l h with h | ⟨m, hm, hh⟩
      · exact .inl h
      · exact .inr ⟨m, List.mem_append_left _ hm, hh⟩
theorem marksAll_from (g : Gr) (es : List Bool) (t : Bool) (k : Nat) : ∀ (ns : List Nd) (l : List Bool), (g.marksAll es t ns l).getD k false = true → l.getD k false = true ∨ ∃ m ∈ Nd.allL ns, m.isName = true ∧ g.named t m = (k : Int)
  | [], l, h => by
    rw [Gr.marksAll] at h
    exact .inl h
  | n :: r, l, h => by
    rw [Gr.marksAll] at h
    rw [Nd.allL]
    rcases marksAll_from g es t k r _ h with h | ⟨m, hm, hh⟩
    · rcases marks_from g es t k n l h with h | ⟨m, hm, hh⟩
      · exact .inl h
      · exact .inr ⟨m, List.mem_append_left _ hm, hh⟩
    · exact .inr ⟨m, List.mem_append_right _ hm, hh⟩
end

theorem once_names {g : Gr} {es : List Bool} {i k : Nat} (h : g.Once es i k) : ∃ hi : i < g.rules.length, ∃ m ∈ g.rules[i].body.all, m.isName = true ∧ g.named g.rules[i].token m = (k : Int) := by
  unfold Gr.Once at h
  obtain ⟨hi, _⟩ := at2_lt (onceM_square g es) h
  refine ⟨hi, ?_⟩
  unfold at2 Gr.onceM at h
  have hrow : ((List.range g.rules.length).map (g.onceRow es)).getD i [] = g.onceRow es i := by
    rw [List.getD_eq_getElem?_getD, List.getElem?_map, List.getElem?_range hi]
    rfl
  rw [hrow] at h
  unfold Gr.onceRow at h
  rw [List.getElem?_eq_getElem hi] at h
  simp only at h
  rcases marks_from g es _ k _ _ h with h0 | hm
  · rw [List.getD_eq_getElem?_getD, List.getElem?_replicate] at h0
    split at h0 <;> simp at h0
  · exact hm

/-! ### what is told -/
def Rl.parser (r : Rl) : Bool := r.sort == 0
/-- may a node of a rule name a rule of that sort? -/
def sortedB (r : Rl) (n : Nd) (of : Int) : Bool := if n.kind == 5 then r.parser && of == 0 else if r.parser then of == 1 else of == 2
/-- who goes on to whom at once, of rules that are no parser's -/
def Gr.rd0 (g : Gr) (i k : Nat) : Prop := ∃ (hi : i < g.rules.length) (hk : k < g.rules.length), g.rules[i].parser = false ∧ g.rules[k].parser = false ∧ ∃ m ∈ g.rules[i].body.all, m.isName = true ∧ g.find m.name = (k : Int)
structure Prob where
  code : Int
  rule : Int
  name : ByteArray
def Gr.loopBad (g : Gr) (es : List Bool) (r : Rl) (n : Nd) : Bool := (n.kind == 3 || n.kind == 4) && (match n.subs with | [] => false | s :: _ => g.may es r.token s)
def Gr.noneBad (g : Gr) (n : Nd) : Bool := n.isName && decide (g.find n.name < 0)
def Gr.sortBad (g : Gr) (r : Rl) (n : Nd) : Bool := n.isName && (decide (0 ≤ g.find n.name) && !sortedB r n (g.sortAt (g.find n.name)))
def nodesTold (i : Nat) (r : Rl) (code : Int) (wrong : Nd → Bool) : List Prob := (r.body.all.filter wrong).map fun n => ⟨code, i, if code = 6 then r.name else n.name⟩
def Gr.ruleTold (g : Gr) (es : List Bool) (rch rnd : Nat → Nat → Bool) (i : Nat) (r : Rl) : List Prob :=
  (if g.find r.name < (i : Int) then [⟨1, i, r.name⟩] else []) ++ nodesTold i r 2 g.noneBad ++ nodesTold i r 3 (g.sortBad r) ++
  (if r.parser && rch i i then [⟨4, i, r.name⟩] else []) ++ (if rnd i i then [⟨5, i, r.name⟩] else []) ++ nodesTold i r 6 (g.loopBad es r) ++
  (if es.getD i false && (r.sort == 1 || r.sort == 3) then [⟨7, i, r.name⟩] else [])
def Gr.rulesTold (g : Gr) (es : List Bool) (rch rnd : Nat → Nat → Bool) : Nat → List Rl → List Prob
  | _, [] => []
  | i, r :: l => g.ruleTold es rch rnd i r ++ g.rulesTold es rch rnd (i + 1) l
def Gr.start (g : Gr) : Int := ixOf g.rules fun r => r.parser
def Gr.told (g : Gr) (es : List Bool) (rch rnd : Nat → Nat → Bool) : List Prob :=
  g.rulesTold es rch rnd 0 g.rules ++ (if g.start < 0 then [⟨8, -1, { data := #[] }⟩] else [])

theorem rulesTold_at {g : Gr} {es : List Bool} {rch rnd : Nat → Nat → Bool} : ∀ (l : List Rl) (i : Nat), g.rulesTold es rch rnd i l = [] → ∀ j (h : j < l.length), g.ruleTold es rch rnd (i + j) l[j] = []
  | [], _, _, j, h => absurd h (by simp)
  | r :: l, i, hh, j, h => by
    rw [Gr.rulesTold, List.append_eq_nil_iff] at hh
    cases j with
    | zero => exact hh.1
    | succ j =>
      have := rulesTold_at l (i + 1) hh.2 j (by simpa using h)
      rw [show i + (j + 1) = i + 1 + j by omega]
      exact this

/-- nothing is told of a rule -/
structure Quiet (g : Gr) (es : List Bool) (rch rnd : Nat → Nat → Bool) (i : Nat) (r : Rl) : Prop where
  twice : ¬ g.find r.name < (i : Int)
  none_ : ∀ n ∈ r.body.all, g.noneBad n = false
  sorts : ∀ n ∈ r.body.all, g.sortBad r n = false
  left : r.parser = true → rch i i = false
  ring : rnd i i = false
  loop_ : ∀ n ∈ r.body.all, g.loopBad es r n = false
  some_ : es.getD i false = true → r.sort ≠ 1 ∧ r.sort ≠ 3

theorem nodesTold_nil {i : Nat} {r : Rl} {code : Int} {wrong : Nd → Bool} (h : nodesTold i r code wrong = []) : ∀ n ∈ r.body.all, wrong n = false := by
  intro n hn
  cases hw : wrong n
  · rfl
  · have : n ∈ r.body.all.filter wrong := List.mem_filter.2 ⟨hn, hw⟩
    unfold nodesTold at h
    rw [List.map_eq_nil_iff] at h
    rw [h] at this
    cases this
theorem quiet_of {g : Gr} {es : List Bool} {rch rnd : Nat → Nat → Bool} {i : Nat} {r : Rl} (h : g.ruleTold es rch rnd i r = []) : Quiet g es rch rnd i r := by
  unfold Gr.ruleTold at h
  simp only [List.append_eq_nil_iff] at h
  obtain ⟨⟨⟨⟨⟨⟨h1, h2⟩, h3⟩, h4⟩, h5⟩, h6⟩, h7⟩ := h
  refine ⟨?_, nodesTold_nil h2, nodesTold_nil h3, fun hp => ?_, ?_, nodesTold_nil h6, fun he => ?_⟩
  · intro hc
    rw [if_pos hc] at h1
    cases h1
  · cases hr : rch i i
    · rfl
    · rw [if_pos (by rw [hp, hr]; rfl)] at h4
      cases h4
  · cases hr : rnd i i
    · rfl
    · rw [if_pos hr] at h5
      cases h5
  · by_cases hs : r.sort = 1 ∨ r.sort = 3
    · rw [if_pos (by rw [he]; rcases hs with h | h <;> rw [h] <;> rfl)] at h7
      cases h7
    · exact ⟨fun h => hs (.inl h), fun h => hs (.inr h)⟩

/-- where nothing is told no rule reaches itself -/
theorem no_ring {g : Gr} {es : List Bool} {rch rnd : Nat → Nat → Bool} (hq : ∀ i (h : i < g.rules.length), Quiet g es rch rnd i g.rules[i])
    (hr : ∀ i k, rch i k = true → Tc (g.Once es) i k) (hd : ∀ i k, Tc g.rd0 i k → rnd i k = true) (i : Nat) (hi : i < g.rules.length) : rch i i = false := by
  cases hrc : rch i i
  · rfl
  · cases hp : g.rules[i].parser
    · have hone : ∀ a b, (∃ ha : a < g.rules.length, g.rules[a].parser = false) → g.Once es a b → g.rd0 a b := by
        rintro a b ⟨ha, hpa⟩ ho
        obtain ⟨_, m, hm, hn, hnm⟩ := once_names ho
        obtain ⟨hf, _, _⟩ := named_is hnm
        have hsb := (hq a ha).sorts m hm
        have hb : b < g.rules.length := by
          rcases ixOf_cases g.rules (fun r => sameB r.name m.name) with ⟨h1, _⟩ | ⟨j, hj, h1, _⟩
          · unfold Gr.find at hf
            omega
          · unfold Gr.find at hf
            omega
        refine ⟨ha, hb, hpa, ?_, m, hm, hn, hf⟩
        unfold Gr.sortBad at hsb
        rw [hn, hf, sortAt_nat g b hb] at hsb
        unfold sortedB at hsb
        rw [hpa] at hsb
        cases h5 : m.kind == 5
        · rw [h5] at hsb
          have : g.rules[b].sort = 2 := by simpa using hsb
          unfold Rl.parser
          rw [this]
          rfl
        · rw [h5] at hsb
          simp at hsb
      have htc : ∀ a b, Tc (g.Once es) a b → (∃ ha : a < g.rules.length, g.rules[a].parser = false) → Tc g.rd0 a b := by
        intro a b h
        induction h with
        | one h => exact fun hp => .one (hone _ _ hp h)
        | more h _ ih =>
          intro hp
          have h1 := hone _ _ hp h
          obtain ⟨_, hk, _, hpk, _⟩ := h1
          exact .more (hone _ _ hp h) (ih ⟨hk, hpk⟩)
      have := hd i i (htc i i (hr i i hrc) ⟨hi, hp⟩)
      rw [(hq i hi).ring] at this
      cases this
    · have := (hq i hi).left hp
      rw [hrc] at this
      cases this
end Go.Proofs.YtkinlcichclnkaaDoor
