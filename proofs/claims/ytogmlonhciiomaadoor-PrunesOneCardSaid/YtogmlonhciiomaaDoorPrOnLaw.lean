/- The doubled automaton, as PrunesOne makes it. No program in sight. -/
import Derived.Test.YtogmlonhciiomaaDoorPrLaw
namespace Go.Proofs.YtogmlonhciiomaaDoor

/-- does an edge lead to the second ones? -/
def upB (how : List Int) (at' : Nat) : Bool := match how[at']? with | some h => h % 2 == 1 | none => false
/-- is an edge to the dead one laid behind? -/
def downB (how : List Int) (at' : Nat) : Bool := match how[at']? with | some h => decide (1 < h % 4) | none => false
def dblE (how : List Int) (n : Nat) : List Ed → Nat → List Ed
  | [], _ => []
  | e :: r, at' => ⟨e.tok, if upB how at' then e.tgt + n else e.tgt⟩ :: dblE how n r (at' + 1)
theorem dblE_len (how : List Int) (n : Nat) : ∀ (l : List Ed) (at' : Nat), (dblE how n l at').length = l.length
  | [], _ => rfl
  | _ :: r, at' => by rw [dblE, List.length_cons, dblE_len how n r (at' + 1), List.length_cons]
theorem dblE_get (how : List Int) (n : Nat) : ∀ (l : List Ed) (at' m : Nat) (h1 : m < (dblE how n l at').length) (h2 : m < l.length), (dblE how n l at')[m] = ⟨l[m].tok, if upB how (at' + m) then l[m].tgt + n else l[m].tgt⟩
  | [], _, _, _, h2 => absurd h2 (by simp)
  | e :: r, at', 0, _, _ => rfl
  | e :: r, at', m + 1, h1, h2 => by
    have := dblE_get how n r (at' + 1) m (by rw [dblE_len]; simpa using h2) (by simpa using h2)
    rw [show at' + (m + 1) = at' + 1 + m by omega]
    exact this
theorem dblE_toks (how : List Int) (n : Nat) (l : List Ed) (at' : Nat) : (dblE how n l at').map (·.tok) = l.map (·.tok) := by
  refine List.ext_getElem (by simp [dblE_len]) fun m h1 h2 => ?_
  simp only [List.length_map] at h1 h2
  rw [List.getElem_map, List.getElem_map, dblE_get how n l at' m h1 h2]
/-- is there room behind? -/
def roomB (many : Int) (l : List Ed) : Bool := match l.getLast? with | none => true | some e => decide (e.tok < many - 1)
def moreE (how : List Int) (n : Nat) (many : Int) (s : Stt) (at' : Nat) : List Ed :=
  if s.kind = 0 ∧ 0 < many ∧ roomB many s.edges = true ∧ downB how at' = true then [⟨many - 1, 2 * (n : Int)⟩] else []
def dblS (how : List Int) (n : Nat) (many : Int) (s : Stt) (at' : Nat) : Stt := ⟨s.kind, s.alts, dblE how n s.edges at' ++ moreE how n many s (at' + s.edges.length)⟩
/-- states i .. of so many -/
def dblL (a : Aut) (how : List Int) (many : Int) : Nat → Nat → Nat → Aut
  | 0, _, _ => []
  | f + 1, i, at' => match a[i % a.length]? with
    | none => []
    | some s => dblS how a.length many s at' :: dblL a how many f (i + 1) (at' + s.edges.length)
def dblA (a : Aut) (how : List Int) (many : Int) : Aut := dblL a how many (2 * a.length) 0 0 ++ [⟨0, [], [⟨-1, 2 * (a.length : Int)⟩]⟩]
theorem dblL_len (a : Aut) (how : List Int) (many : Int) (h : 0 < a.length) : ∀ (f i at' : Nat), (dblL a how many f i at').length = f
  | 0, _, _ => rfl
  | f + 1, i, at' => by
    have hm : i % a.length < a.length := Nat.mod_lt _ h
    rw [dblL, List.getElem?_eq_getElem hm]
    simp only [List.length_cons, dblL_len a how many h f]
theorem dblL_get (a : Aut) (how : List Int) (many : Int) (h : 0 < a.length) : ∀ (f i at' k : Nat), k < f → ∃ at'', ∃ hm : (i + k) % a.length < a.length, (dblL a how many f i at')[k]? = some (dblS how a.length many a[(i + k) % a.length] at'')
  | 0, _, _, _, hk => absurd hk (by omega)
  | f + 1, i, at', k, hk => by
    have hm : i % a.length < a.length := Nat.mod_lt _ h
    rw [dblL, List.getElem?_eq_getElem hm]
    cases k with
    | zero => exact ⟨at', hm, rfl⟩
    | succ k =>
      obtain ⟨a2, h2, h3⟩ := dblL_get a how many h f (i + 1) (at' + a[i % a.length].edges.length) k (by omega)
      simp only [show i + (k + 1) = i + 1 + k by omega]
      exact ⟨a2, h2, h3⟩
theorem dblA_len (a : Aut) (how : List Int) (many : Int) (h : 0 < a.length) : (dblA a how many).length = 2 * a.length + 1 := by
  unfold dblA
  rw [List.length_append, dblL_len a how many h]
  rfl
theorem dblA_get (a : Aut) (how : List Int) (many : Int) (h : 0 < a.length) {j : Nat} (hj : j < 2 * a.length) : ∃ at', ∃ hm : j % a.length < a.length, (dblA a how many)[j]? = some (dblS how a.length many a[j % a.length] at') := by
  obtain ⟨a2, h2, h3⟩ := dblL_get a how many h (2 * a.length) 0 0 j hj
  simp only [Nat.zero_add] at h2 h3
  refine ⟨a2, h2, ?_⟩
  unfold dblA
  rw [List.getElem?_append_left (by rw [dblL_len a how many h]; exact hj), h3]
theorem dblA_last (a : Aut) (how : List Int) (many : Int) (h : 0 < a.length) : (dblA a how many)[2 * a.length]? = some ⟨0, [], [⟨-1, 2 * (a.length : Int)⟩]⟩ := by
  unfold dblA
  rw [List.getElem?_append_right (by rw [dblL_len a how many h]; omega), dblL_len a how many h]
  simp
theorem moreE_mem {how : List Int} {n : Nat} {many : Int} {s : Stt} {at' : Nat} {e : Ed} (h : e ∈ moreE how n many s at') : e = ⟨many - 1, 2 * (n : Int)⟩ ∧ s.kind = 0 ∧ 0 < many ∧ roomB many s.edges = true := by
  unfold moreE at h
  split at h
  · rename_i hc
    exact ⟨List.mem_singleton.1 h, hc.1, hc.2.1, hc.2.2.1⟩
  · cases h
theorem dbl_twice (a : Aut) (how : List Int) (many : Int) (h : 0 < a.length) : Twice a (dblA a how many) where
  kind j hj := by
    obtain ⟨a2, hm, h1⟩ := dblA_get a how many h hj
    rw [(Aut.at hm).1]
    unfold Aut.kind
    rw [h1]
    rfl
  alts j hj := by
    obtain ⟨a2, hm, h1⟩ := dblA_get a how many h hj
    rw [(Aut.at hm).2.1]
    unfold Aut.alts
    rw [h1]
    rfl
  edges j hj := by
    obtain ⟨a2, hm, h1⟩ := dblA_get a how many h hj
    refine ⟨dblE how a.length a[j % a.length].edges a2, moreE how a.length many a[j % a.length] (a2 + a[j % a.length].edges.length), ?_, ?_, ?_, ?_⟩
    · unfold Aut.edges
      rw [h1]
      rfl
    · rw [dblE_len, (Aut.at hm).2.2]
    · intro m g1 g2
      have g2' : m < a[j % a.length].edges.length := by rw [← (Aut.at hm).2.2]; exact g2
      have e : (a.edges (j % a.length))[m] = a[j % a.length].edges[m] := by
        congr 1
        exact (Aut.at hm).2.2
      rw [dblE_get _ _ _ _ _ g1 g2', e]
      refine ⟨rfl, ?_⟩
      simp only
      split
      · exact .inr rfl
      · exact .inl rfl
    · intro e he
      obtain ⟨rfl, _, h0, _⟩ := moreE_mem he
      exact ⟨rfl, by simp only; omega⟩
  dead := by
    have := dblA_last a how many h
    unfold Aut.kind Aut.edges
    rw [this]
    exact ⟨rfl, fun e he => by
      have : e = ⟨-1, 2 * (a.length : Int)⟩ := List.mem_singleton.1 he
      subst this
      exact ⟨rfl, rfl⟩⟩
/-- from state j on, with so many edges gone through -/
def AtOf (a : Aut) (how : List Int) (many : Int) (j p : Nat) : Prop := (dblL a how many (2 * a.length) 0 0).drop j = dblL a how many (2 * a.length - j) j p ∧ p ≤ j * 400
theorem AtOf.start (a : Aut) (how : List Int) (many : Int) : AtOf a how many 0 0 := ⟨rfl, by omega⟩
theorem AtOf.next {a : Aut} {how : List Int} {many : Int} {j p : Nat} (h : AtOf a how many j p) (hj : j < 2 * a.length) (hm : j % a.length < a.length) (hl : a[j % a.length].edges.length ≤ 400) :
    (∃ h1 : j < (dblA a how many).length, (dblA a how many)[j] = dblS how a.length many a[j % a.length] p) ∧ AtOf a how many (j + 1) (p + a[j % a.length].edges.length) := by
  have h0 : 0 < a.length := by omega
  have e : 2 * a.length - j = (2 * a.length - (j + 1)) + 1 := by omega
  have h1 := h.1
  rw [e, dblL, List.getElem?_eq_getElem hm] at h1
  simp only at h1
  have hlen := dblL_len a how many h0 (2 * a.length) 0 0
  have hj' : j < (dblL a how many (2 * a.length) 0 0).length := by omega
  rw [List.drop_eq_getElem_cons hj'] at h1
  obtain ⟨g1, g2⟩ := List.cons.inj h1
  refine ⟨⟨by rw [dblA_len a how many h0]; omega, ?_⟩, g2, ?_⟩
  · unfold dblA
    rw [List.getElem_append_left hj', g1]
  · have := h.2; omega
theorem dblA_mem {a : Aut} {how : List Int} {many : Int} (h : 0 < a.length) {s : Stt} (hs : s ∈ dblA a how many) : (∃ t ∈ a, ∃ at', s = dblS how a.length many t at') ∨ s = ⟨0, [], [⟨-1, 2 * (a.length : Int)⟩]⟩ := by
  obtain ⟨j, hj, rfl⟩ := List.mem_iff_getElem.1 hs
  by_cases hl : j < 2 * a.length
  · obtain ⟨a2, hm, h1⟩ := dblA_get a how many h hl
    rw [List.getElem?_eq_getElem hj] at h1
    exact .inl ⟨_, List.getElem_mem hm, a2, Option.some.inj h1⟩
  · have e : j = 2 * a.length := by have := dblA_len a how many h; omega
    subst e
    have h1 := dblA_last a how many h
    rw [List.getElem?_eq_getElem hj] at h1
    exact .inr (Option.some.inj h1)
theorem room_last {many : Int} {l : List Ed} (hp : (l.map (·.tok)).Pairwise (· < ·)) (h : roomB many l = true) : ∀ x ∈ l.map (·.tok), x < many - 1 := by
  unfold roomB at h
  cases hl : l.getLast? with
  | none =>
    rw [List.getLast?_eq_none_iff] at hl
    subst hl
    simp
  | some e =>
    rw [hl] at h
    simp only [decide_eq_true_eq] at h
    obtain ⟨r, rfl⟩ := List.getLast?_eq_some_iff.1 hl
    intro x hx
    rw [List.map_append, List.map_cons, List.map_nil] at hp hx
    rw [List.pairwise_append] at hp
    rcases List.mem_append.1 hx with g | g
    · have := hp.2.2 x g e.tok (List.mem_singleton.2 rfl)
      omega
    · rw [List.mem_singleton.1 g]; exact h
theorem dblS_fine {how : List Int} {n : Nat} {al many : Int} {s : Stt} {at' : Nat} (h : s.fineB n al many = true) : (dblS how n many s at').fineB ((2 * n + 1 : Nat) : Int) al many = true := by
  unfold Stt.fineB at h ⊢
  simp only [Bool.and_eq_true, List.all_eq_true, decide_eq_true_eq] at h ⊢
  obtain ⟨⟨⟨h1, h2⟩, h3⟩, h4⟩ := h
  have h5 := (riseB_iff _ _ _).1 h3
  refine ⟨⟨⟨fun e he => ?_, h2⟩, ?_⟩, ?_⟩
  · rcases List.mem_append.1 (show e ∈ dblE how n s.edges at' ++ moreE how n many s (at' + s.edges.length) from he) with g | g
    · obtain ⟨m, hm, rfl⟩ := List.mem_iff_getElem.1 g
      have hm' : m < s.edges.length := by rw [dblE_len] at hm; exact hm
      have := h1 _ (List.getElem_mem hm')
      rw [dblE_get _ _ _ _ _ hm hm']
      simp only
      split <;> constructor <;> push_cast <;> omega
    · obtain ⟨rfl, _⟩ := moreE_mem g
      simp only
      constructor <;> push_cast <;> omega
  · rw [riseB_iff]
    show (∀ x ∈ (dblE how n s.edges at' ++ moreE how n many s (at' + s.edges.length)).map (·.tok), _) ∧ ((dblE how n s.edges at' ++ moreE how n many s (at' + s.edges.length)).map (·.tok)).Pairwise (· < ·)
    rw [List.map_append, dblE_toks]
    have hmore : ∀ y ∈ (moreE how n many s (at' + s.edges.length)).map (·.tok), y = many - 1 ∧ 0 < many ∧ roomB many s.edges = true := by
      intro y hy
      obtain ⟨e, he, rfl⟩ := List.mem_map.1 hy
      obtain ⟨rfl, _, g1, g2⟩ := moreE_mem he
      exact ⟨rfl, g1, g2⟩
    refine ⟨fun x hx => ?_, ?_⟩
    · rcases List.mem_append.1 hx with g | g
      · exact h5.1 x g
      · have := hmore x g; omega
    · rw [List.pairwise_append]
      refine ⟨h5.2, ?_, fun x hx y hy => ?_⟩
      · unfold moreE
        split <;> simp
      · obtain ⟨rfl, _, g2⟩ := hmore y hy
        exact room_last h5.2 g2 x hx
  · show (if s.kind = 0 then _ else _) = true
    by_cases hk : s.kind = 0
    · rw [if_pos hk] at h4 ⊢
      exact h4
    · have hm : ∀ k, moreE how n many s k = [] := fun k => if_neg fun g => hk g.1
      have he : ∀ r, s.edges = [] → dblE how n s.edges r ++ moreE how n many s (r + s.edges.length) = [] := fun r g => by rw [hm, g]; rfl
      rw [if_neg hk] at h4 ⊢
      have key : s.edges.isEmpty = true → (dblS how n many s at').edges.isEmpty = true := fun g => by
        rw [List.isEmpty_iff] at g ⊢
        exact he at' g
      split at h4
      · rename_i h1k
        rw [if_pos (show (dblS how n many s at').kind = 1 from h1k)]
        simp only [Bool.and_eq_true] at h4 ⊢
        exact ⟨h4.1, key h4.2⟩
      · rename_i h1k
        rw [if_neg (show ¬ (dblS how n many s at').kind = 1 from h1k)]
        split at h4
        · rename_i h3k
          rw [if_pos (show (dblS how n many s at').kind = 3 from h3k)]
          simp only [Bool.and_eq_true] at h4 ⊢
          exact ⟨h4.1, key h4.2⟩
        · rename_i h3k
          rw [if_neg (show ¬ (dblS how n many s at').kind = 3 from h3k)]
          simp only [Bool.and_eq_true] at h4 ⊢
          exact ⟨h4.1, key h4.2⟩
theorem dbl_may {a : Aut} {al many : Int} (how : List Int) (hn : a.length ≤ 2000) (hmany : 0 ≤ many) (h : a.mayB al many = true) : (dblA a how many).mayB al many = true := by
  unfold Aut.mayB at h ⊢
  simp only [Bool.and_eq_true, decide_eq_true_eq, List.all_eq_true] at h ⊢
  obtain ⟨⟨h1, h2⟩, h3⟩ := h
  have hl := dblA_len a how many (by omega)
  refine ⟨⟨by omega, by omega⟩, fun s hs => ?_⟩
  rw [hl]
  rcases dblA_mem (by omega) hs with ⟨t, ht, at', rfl⟩ | rfl
  · exact dblS_fine (h3 t ht)
  · simp [Stt.fineB, riseB]
    omega
end Go.Proofs.YtogmlonhciiomaaDoor
