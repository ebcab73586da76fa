/- The net that Build makes may be. No program in sight. -/
import Derived.Test.YtiiffcmojkdlaaaGreatDoorQ32
import Derived.Test.YtiiffcmojkdlaaaGreatDoorQ8
import Derived.Test.YtiiffcmojkdlaaaGreatDoorQ28
import Derived.Test.YtiiffcmojkdlaaaGreatDoorQ18
namespace Go.Proofs.YtiiffcmojkdlaaaGreatDoor
/- DEV -/
theorem st_get {m : Mk} {q : Nat} (h : q < m.N.states.length) : m.st q = m.N.states[q] := by
  unfold Mk.st
  rw [List.getElem?_eq_getElem h]
  rfl
theorem mk_decsTo (m : Mk) (h : m.N.decisions = []) : ∀ i, i ≤ m.N.states.length → (m.decsTo i).N.decisions = decsTo m.N.states i ∧ (m.decsTo i).N.states = m.N.states ∧ (m.decsTo i).N.starts = m.N.starts ∧ (m.decsTo i).N.stops = m.N.stops ∧ (m.decsTo i).N.preds = m.N.preds
  | 0, _ => ⟨h, rfl, rfl, rfl, rfl⟩
  | i + 1, hi => by
    obtain ⟨h1, h2, h3, h4, h5⟩ := mk_decsTo m h i (by omega)
    rw [Mk.decsTo, decsTo, List.getElem?_eq_getElem (by omega)]
    have he : m.N.ends i = m.N.states[i].ends := by
      unfold Net.ends
      rw [List.getElem?_eq_getElem (by omega)]
      rfl
    rw [he]
    by_cases h0 : m.N.states[i].ends.length = 0
    · rw [if_neg (by omega)]
      simp only [h0, if_true, List.append_nil]
      exact ⟨h1, h2, h3, h4, h5⟩
    · rw [if_pos (by omega)]
      simp only [h0, if_false]
      refine ⟨?_, h2, h3, h4, h5⟩
      show (m.decsTo i).N.decisions ++ [(i : Int)] = _
      rw [h1]
section
variable {P : Nums} {j : Nat} {bs : List Nat} {m : Mk}
theorem whole_may (h : Whole P j j bs m) (hw : m.waits = []) : (m.decsTo m.N.states.length).N.mayB = true := by
  obtain ⟨d1, d2, d3, d4, d5⟩ := mk_decsTo m h.decs m.N.states.length (Nat.le_refl _)
  have hmany := h.many
  rw [hw, List.length_nil, Nat.add_zero] at hmany
  have hlen : m.len = m.N.states.length := rfl
  unfold Net.mayB
  rw [d1, d2, d3, d4, d5]
  have hok : ∀ b ∈ bs, okN m.N.states.length (b : Int) = true ∧ okN m.N.states.length ((b + 1 : Nat) : Int) = true := fun b hb => by
    have := (h.glob.path b hb).1
    unfold okN
    simp only [Bool.and_eq_true, decide_eq_true_eq]
    omega
  have hfw : ∀ q t, Fwd m bs q t → okN m.N.states.length t = true := fun q t ⟨k, k1, k2, _⟩ => by
    subst k1
    unfold okN
    simp only [Bool.and_eq_true, decide_eq_true_eq]
    omega
  simp only [Bool.and_eq_true, Bool.not_eq_true', decide_eq_true_eq]
  refine ⟨⟨⟨⟨by rw [h.lens.1, h.lens.2], ?_⟩, ?_⟩, ?_⟩, trivial⟩
  · rw [List.any_eq_false]
    intro x hx
    rcases List.mem_append.1 hx with hx | hx
    · obtain ⟨i, hi, rfl⟩ := List.mem_iff_getElem.1 hx
      obtain ⟨b, b1, b2, b3, b4⟩ := h.ss i (by rw [← h.lens.1]; exact hi)
      rw [List.getElem?_eq_getElem hi] at b2
      rw [Option.some.inj b2, (hok b b1).1]
      simp
    · obtain ⟨i, hi, rfl⟩ := List.mem_iff_getElem.1 hx
      obtain ⟨b, b1, b2, b3, b4⟩ := h.ss i (by rw [← h.lens.2]; exact hi)
      rw [List.getElem?_eq_getElem hi] at b3
      rw [Option.some.inj b3, (hok b b1).2]
      simp
  · rw [List.any_eq_false]
    intro x hx
    obtain ⟨b, b1, rfl⟩ := h.pp x hx
    have := (h.glob.path b b1).1
    simp only [Bool.or_eq_true, decide_eq_true_eq, not_or]
    omega
  · rw [List.all_eq_true]
    intro s hs
    obtain ⟨q, hq, rfl⟩ := List.mem_iff_getElem.1 hs
    have hp := h.glob.part q hq
    have he := h.glob.ends q hq
    have hr := h.rules q hq
    rw [st_get hq] at hp he hr
    unfold Sta.fineB
    simp only [Bool.and_eq_true, Bool.not_eq_true', decide_eq_false_iff_not]
    refine ⟨⟨?_, by omega⟩, by rw [d3, h.lens.1]; omega⟩
    unfold Sta.mayB
    simp only [Bool.and_eq_true, Bool.or_eq_true, Bool.not_eq_true', decide_eq_true_eq]
    refine ⟨?_, ?_⟩
    · rw [List.all_eq_true]
      intro e hem
      obtain ⟨e1, e2⟩ := hp.edges e hem
      unfold Edg.mayB Net.mostOf
      rw [d2, d3, d5, hfw _ _ e2, h.lens.1]
      rw [hmany] at e1
      rcases e1 with ⟨k1, k2⟩ | ⟨k1, k2⟩ | ⟨k1, k2, k3⟩ | ⟨k1, k2, k3⟩
      · rw [k1, k2]; simp
      · rw [k1]; simp; omega
      · rw [k1]; simp; omega
      · rw [k1]; simp; omega
    · by_cases h0 : m.N.states[q].ends.length = 0
      · exact .inl h0
      · right
        have hne : m.N.states[q].ends ≠ [] := fun e => h0 (by rw [e]; rfl)
        have hbal := hp.bal.resolve_left hne
        have h2 := he.resolve_left hne
        refine ⟨?_, ?_⟩
        · unfold Sta.decides
          simp only [Bool.and_eq_true, Bool.not_eq_true', decide_eq_true_eq]
          refine ⟨⟨hbal.1, h2⟩, ?_⟩
          rw [List.any_eq_false]
          intro e hem
          rw [hbal.2 e hem]
          simp
        · rw [List.any_eq_false, d2]
          intro i hi
          rw [hfw _ _ (hp.ends i hi)]
          simp
end
end Go.Proofs.YtiiffcmojkdlaaaGreatDoor

/- What is marked, and closed under edges, holds whatever is come by. No program in sight. -/
namespace Go.Proofs.YtiiffcmojkdlaaaGreatDoor
/- DEV -/
theorem closed_path {m : Mk} {L : List Bool} (hc : ∀ q, L.getD q false = true → ∀ e ∈ (m.st q).edges, ∀ j : Nat, e.to = (j : Int) → L.getD j false = true) {x y : Nat} (h : Path m x y) : L.getD x false = true → L.getD y false = true := by
  induction h with
  | refl => exact id
  | head e he ht _ ih => exact fun hx => ih (hc _ hx e he _ ht)
theorem count_setB : ∀ (L : List Bool) (k : Nat), k < L.length → L.getD k false = false → (L.set k true).count true = L.count true + 1
  | [], k, h, _ => absurd h (by simp)
  | b :: L, 0, _, h => by
    simp only [List.getD_cons_zero] at h
    subst h
    simp
  | b :: L, k + 1, hk, h => by
    simp only [List.getD_cons_succ] at h
    have := count_setB L k (by simpa using hk) h
    simp only [List.set_cons_succ, List.count_cons, this]
    omega
theorem getD_setT (L : List Bool) (k i : Nat) (h : L.getD i false = true) : (L.set k true).getD i false = true := by
  rw [List.getD_eq_getElem?_getD, List.getElem?_set] at *
  split
  · split
    · rfl
    · next h1 h2 => rw [← h1, List.getElem?_eq_none (by omega)] at h; cases h
  · exact h
/-- what a round of marking leaves: m marks more, or all that was gone through is closed -/
structure MarkRound (m : Mk) (L0 L : List Bool) (c : Bool) (i : Nat) : Prop where
  len : L.length = L0.length
  up : ∀ q, L0.getD q false = true → L.getD q false = true
  more : c = true → L0.count true < L.count true
  same : c = false → L = L0
  done : c = false → ∀ q, q < i → L.getD q false = true → ∀ e ∈ (m.st q).edges, ∀ j : Nat, e.to = (j : Int) → L.getD j false = true
theorem MarkRound.start (m : Mk) (L : List Bool) : MarkRound m L L false 0 := ⟨rfl, fun _ => id, fun h => (by cases h), fun _ => rfl, fun _ q h => by omega⟩
theorem MarkRound.mark {m : Mk} {L0 L : List Bool} {c : Bool} {i k : Nat} (h : MarkRound m L0 L c i) (hk : k < L.length) (hf : L.getD k false = false) : MarkRound m L0 (L.set k true) true i :=
  ⟨by rw [List.length_set, h.len], fun q hq => getD_setT L k q (h.up q hq), fun _ => by
    rw [count_setB L k hk hf]
    cases c with
    | true => have := h.more rfl; omega
    | false => rw [h.same rfl]; omega, fun h => (by cases h), fun h => (by cases h)⟩
theorem MarkRound.next {m : Mk} {L0 L : List Bool} {c : Bool} {i : Nat} (h : MarkRound m L0 L c i) (hd : c = false → L.getD i false = true → ∀ e ∈ (m.st i).edges, ∀ j : Nat, e.to = (j : Int) → L.getD j false = true) : MarkRound m L0 L c (i + 1) :=
  ⟨h.len, h.up, h.more, h.same, fun hc q hq hm => by
    by_cases hqi : q = i
    · subst hqi; exact hd hc hm
    · exact h.done hc q (by omega) hm⟩
end Go.Proofs.YtiiffcmojkdlaaaGreatDoor

/- Plain law for ChecksFine: where nothing is told, each name has one rule, of the sort that may be named there, and each loop's body takes something. -/
namespace Go.Proofs.YtiiffcmojkdlaaaGreatDoor

/-- does a node name what it may, and does a loop take something? -/
def Gr.nodeFine (g : Gr) (es : List Bool) (r : Rl) (n : Nd) : Bool :=
  !(n.isName && (decide (g.find n.name < 0) || ((n.kind == 5) != (g.sortAt (g.find n.name) == 0)) || g.sortAt (g.find n.name) == 3 || (r.sort == 0 && g.sortAt (g.find n.name) == 2))) && !(g.loopBad es r n)
mutual
/-- do all nodes? -/
def Gr.soundN (g : Gr) (es : List Bool) (r : Rl) : Nd → Bool
  | .mk k nm tx set subs => g.nodeFine es r (.mk k nm tx set subs) && Gr.soundL g es r subs
def Gr.soundL (g : Gr) (es : List Bool) (r : Rl) : List Nd → Bool
  | [] => true
  | n :: l => Gr.soundN g es r n && Gr.soundL g es r l
end
mutual
theorem soundN_all (g : Gr) (es : List Bool) (r : Rl) : ∀ n : Nd, (∀ m ∈ n.all, g.nodeFine es r m = true) → g.soundN es r n = true
  | .mk k nm tx set subs, h => by
    rw [Nd.all] at h
    rw [Gr.soundN, h _ (List.mem_cons_self ..), soundL_all g es r subs fun m hm => h m (List.mem_cons_of_mem _ hm)]
    rfl
theorem soundL_all (g : Gr) (es : List Bool) (r : Rl) : ∀ l : List Nd, (∀ m ∈ Nd.allL l, g.nodeFine es r m = true) → g.soundL es r l = true
  | [], _ => by rw [Gr.soundL]
  | n :: l, h => by
    rw [Nd.allL] at h
    rw [Gr.soundL, soundN_all g es r n fun m hm => h m (List.mem_append_left _ hm), soundL_all g es r l fun m hm => h m (List.mem_append_right _ hm)]
    rfl
end
theorem fine_node {g : Gr} {es : List Bool} {rch rnd : Nat → Nat → Bool} {i : Nat} {r : Rl} (q : Quiet g es rch rnd i r) (m : Nd) (hm : m ∈ r.body.all) : g.nodeFine es r m = true := by
  have h1 := q.none_ m hm
  have h2 := q.sorts m hm
  have h3 := q.loop_ m hm
  unfold Gr.nodeFine
  rw [h3]
  unfold Gr.noneBad at h1
  unfold Gr.sortBad at h2
  cases hn : m.isName
  · rfl
  · rw [hn] at h1 h2
    have h0 : ¬ g.find m.name < 0 := by simpa using h1
    have hs : sortedB r m (g.sortAt (g.find m.name)) = true := by
      have : decide (0 ≤ g.find m.name) = true := decide_eq_true (by omega)
      rw [this] at h2
      simpa using h2
    rw [decide_eq_false h0]
    unfold sortedB Rl.parser at hs
    generalize g.sortAt (g.find m.name) = o at *
    cases h5 : m.kind == 5
    · rw [h5] at hs
      cases hp : r.sort == 0
      · rw [hp] at hs
        have ho : o = 2 := by simpa using hs
        subst ho
        rfl
      · rw [hp] at hs
        have ho : o = 1 := by simpa using hs
        subst ho
        rfl
    · rw [h5] at hs
      have hs' : (r.sort == 0) = true ∧ o = 0 := by simpa using hs
      obtain ⟨_, ho⟩ := hs'
      subst ho
      simp
theorem fine_sound {g : Gr} {es : List Bool} {rch rnd : Nat → Nat → Bool} {i : Nat} {r : Rl} (q : Quiet g es rch rnd i r) : g.soundN es r r.body = true := soundN_all g es r r.body (fine_node q)

/-- a rule's name is its own rule's -/
theorem fine_find {g : Gr} {es : List Bool} {rch rnd : Nat → Nat → Bool} {i : Nat} (hi : i < g.rules.length) (q : Quiet g es rch rnd i g.rules[i]) : g.find g.rules[i].name = (i : Int) := by
  have h := q.twice
  unfold Gr.find at h ⊢
  rcases ixOf_cases g.rules (fun r => sameB r.name g.rules[i].name) with ⟨h1, h2⟩ | ⟨j, hj, h1, h2, h3⟩
  · rw [h1] at h
    omega
  · rw [h1] at h ⊢
    by_cases hji : j = i
    · rw [hji]
    · have hlt : i < j := by omega
      have := h3 i hi hlt
      rw [sameB_refl] at this
      cases this
/-- so many rounds put all rules in order -/
theorem fine_order {g : Gr} {es : List Bool} {rch rnd : Nat → Nat → Bool} (hq : ∀ i (h : i < g.rules.length), Quiet g es rch rnd i g.rules[i])
    (hr : ∀ i k, rch i k = true ↔ Tc (g.Once es) i k) (hd : ∀ i k, Tc g.rd0 i k → rnd i k = true) :
    (putAll rch g.rules.length (List.replicate g.rules.length false) g.rules.length).count true = g.rules.length := by
  have h1 := rounds_all rch g.rules.length (List.replicate g.rules.length false) (by simp)
    (fun i j k _ _ _ h h' => (hr i k).2 (Tc.trans ((hr i j).1 h) ((hr j k).1 h')))
    (fun i hi => no_ring hq (fun i k h => (hr i k).1 h) hd i hi) g.rules.length
  have h2 := (putAll_le rch g.rules.length (List.replicate g.rules.length false) g.rules.length).1
  have h3 := List.count_le_length (a := true) (l := putAll rch g.rules.length (List.replicate g.rules.length false) g.rules.length)
  rw [List.length_replicate] at h2
  omega
end Go.Proofs.YtiiffcmojkdlaaaGreatDoor

/- Where nothing is told of a grammar that is sound, each rule's body can be made to a piece. No program in sight. -/
namespace Go.Proofs.YtiiffcmojkdlaaaGreatDoor

/-- alternatives are two at least, in parsers' rules -/
def Gr.Wide (g : Gr) : Prop := ∀ i (h : i < g.rules.length), g.rules[i].sort = 0 → ∀ x ∈ g.rules[i].body.all, x.kind = 0 → 2 ≤ x.subs.length
theorem ixOf_mem {l : List Int} {v : Int} (h : v ∈ l) : 0 ≤ ixOf l (fun y => v == y) ∧ ixOf l (fun y => v == y) < l.length := by
  rcases ixOf_cases l (fun y => v == y) with ⟨h1, h2⟩ | ⟨j, hj, h1, -⟩
  · obtain ⟨i, hi, rfl⟩ := List.mem_iff_getElem.1 h
    have := h2 i hi
    simp at this
  · rw [h1]; omega
theorem Gr.ofTo_has (g : Gr) (S : List Int) : ∀ j i (h : i < g.rules.length), i < j → (S.any fun y => g.rules[i].sort == y) = true → (i : Int) ∈ g.ofTo S j
  | 0, i, _, h, _ => by omega
  | j + 1, i, h, hij, hs => by
    rw [Gr.ofTo]
    by_cases hj : i = j
    · subst hj
      rw [if_pos (by rw [Gr.isAt_get h]; exact hs)]
      simp
    · have := Gr.ofTo_has g S j i h (by omega) hs
      split
      · exact List.mem_append_left _ this
      · exact this
theorem quiet_all {g : Gr} {es : List Bool} {rch rnd : Nat → Nat → Bool} (h : g.told es rch rnd = []) (i : Nat) (hi : i < g.rules.length) : Quiet g es rch rnd i g.rules[i] := by
  unfold Gr.told at h
  have h1 := (List.append_eq_nil_iff.1 h).1
  have := rulesTold_at g.rules 0 h1 i hi
  rw [Nat.zero_add] at this
  exact quiet_of this
theorem find_sort {g : Gr} {nm : ByteArray} (h : 0 ≤ g.find nm) : ∃ k, ∃ hk : k < g.rules.length, g.find nm = (k : Int) ∧ g.sortAt (g.find nm) = g.rules[k].sort := by
  unfold Gr.find at *
  rcases ixOf_cases g.rules (fun r => sameB r.name nm) with ⟨h1, h2⟩ | ⟨k, hk, h1, -⟩
  · rw [h1] at h; omega
  · refine ⟨k, hk, h1, ?_⟩
    rw [h1]
    unfold Gr.sortAt
    rw [Int.toNat_natCast, List.getElem?_eq_getElem hk]
theorem fits_of {g : Gr} {es : List Bool} {rch rnd : Nat → Nat → Bool} (ht : g.told es rch rnd = []) (hw : g.Wide) (E : MkE) (hr : E.rules = g.of [0]) (htk : E.tokens = g.of [1, 3]) : ∀ x ∈ g.of [0], Fits (E.nums g) (g.of [0]).length (g.body x) := by
  intro x hx
  obtain ⟨i, hi, -, rfl, hs⟩ := Gr.ofTo_mem g [0] _ x hx
  have hs0 : g.rules[i].sort = 0 := by simpa using hs
  have hq := quiet_all ht i hi
  have hbody : g.body (i : Int) = g.rules[i].body := by
    unfold Gr.body
    rw [Int.toNat_natCast, List.getElem?_eq_getElem hi]
  rw [hbody]
  intro m hm
  have h1 := hq.none_ m hm
  have h2 := hq.sorts m hm
  unfold Gr.noneBad at h1
  unfold Gr.sortBad at h2
  have hpar : g.rules[i].parser = true := by unfold Rl.parser; rw [hs0]; rfl
  have key : m.isName = true → ∃ k, ∃ hk : k < g.rules.length, g.find m.name = (k : Int) ∧ sortedB g.rules[i] m g.rules[k].sort = true := fun hn => by
    rw [hn] at h1 h2
    have h0 : 0 ≤ g.find m.name := by
      have : ¬ g.find m.name < 0 := by simpa using h1
      omega
    obtain ⟨k, hk, k1, k2⟩ := find_sort h0
    rw [decide_eq_true h0, k2] at h2
    exact ⟨k, hk, k1, by simpa using h2⟩
  refine ⟨fun h6 => ?_, fun h5 => ?_, fun h0 => hw i hi hs0 m hm h0⟩
  · obtain ⟨k, hk, k1, k2⟩ := key (by unfold Nd.isName; rw [h6]; rfl)
    unfold sortedB at k2
    rw [h6, hpar] at k2
    have ks : g.rules[k].sort = 1 := by simpa using k2
    show 0 ≤ ixOf E.tokens fun y => g.find m.name == y
    rw [htk]
    refine (ixOf_mem ?_).1
    rw [k1]
    exact Gr.ofTo_has g _ _ k hk hk (by rw [ks]; rfl)
  · obtain ⟨k, hk, k1, k2⟩ := key (by unfold Nd.isName; rw [h5]; rfl)
    unfold sortedB at k2
    rw [h5, hpar] at k2
    have ks : g.rules[k].sort = 0 := by simpa using k2
    show 0 ≤ (ixOf E.rules fun y => g.find m.name == y) ∧ (ixOf E.rules fun y => g.find m.name == y) < _
    rw [hr]
    refine ixOf_mem ?_
    rw [k1]
    exact Gr.ofTo_has g _ _ k hk hk (by rw [ks]; rfl)
/-- the net of a grammar that is sound -/
theorem built_sound {g : Gr} {es : List Bool} {rch rnd : Nat → Nat → Bool} (ht : g.told es rch rnd = []) (hw : g.Wide) (E : MkE) (hr : E.rules = g.of [0]) (htk : E.tokens = g.of [1, 3]) {m : Mk} (hb : Built (E.nums g) g (g.of [0]) m) (hf : m.full = false) :
    (∃ bs, Whole (E.nums g) (g.of [0]).length (g.of [0]).length bs m) ∧ m.waits = [] :=
  built_whole hb hf (fits_of ht hw E hr htk)
end Go.Proofs.YtiiffcmojkdlaaaGreatDoor

/- grams.Sound: where it says yes, alternatives are two at least. -/
namespace Go.Proofs.YtiiffcmojkdlaaaGreatDoor
open Go.RowKit
def IdxP (l : List Rl) (W : World) (e : Ending) (W' : World) : Prop := (∃ k : Int, e = .returned (.int .i64 k) ∧ -1 ≤ k ∧ k < 1000000000000 ∧ (k < 0 → ∀ i (h : i < l.length), RulePlain l[i])) ∧ Grew W W'
def CntP (l : List Rl) (W : World) (e : Ending) (W' : World) : Prop := (∃ b, e = .returned (.bool b) ∧ (b = false → ∀ i (h : i < l.length), RulePlain l[i])) ∧ Grew W W'
def PlainTo (l : List Rl) (j : Nat) : Prop := ∀ i (h : i < l.length), i < j → RulePlain l[i]
theorem PlainTo.next {l : List Rl} {j : Nat} (h : PlainTo l j) (hj : j < l.length) (hp : RulePlain l[j]) : PlainTo l (j + 1) := fun i hi hij => by
  rcases Nat.lt_or_ge i j with h1 | h1
  · exact h i hi h1
  · have : i = j := by omega
    subst this
    exact hp

set_option maxHeartbeats 1000000 in
set_option maxRecDepth 20000 in
theorem indexSound_ok (l : List Rl) (W : World) (hT : Lib.Utf8Tabs 1 2 W) (a : Option Addr) (cap : Nat) (hl : l.length ≤ 1000) (hR : RulesAt W W.heap.size a 0 l) :
    Calls Tryz.prog 29 #[.slice a l.length cap, .func (.func 14) #[] #[]] W (IdxP l W) := by
  have HT := Lib.hid hT
  clear hT
  go_enter Tryz.func29, Tryz.ntmps29
  go_wp2
  go_loopw [8] (fun i wr => ∃ (j : Nat), i = .int .i64 j ∧ j ≤ l.length ∧ Hid (PlainTo l j) ∧ Below W.heap.size W wr) (fun i _ => l.length - (intOf i).toNat)
  case atStart =>
    exact ⟨0, rfl, by omega, fun i hi h => absurd h (by omega), Below.refl _ _⟩
  case round =>
    obtain ⟨j, rfl, hj, hf, hbw⟩ := hrel
    by_cases hlt : j < l.length
    · obtain ⟨b, off, rfl, hb, hrule⟩ := (hR.keep hbw).get hlt
      simp only [Nat.zero_add] at hrule
      obtain ⟨u2, u3, u4, u5, u6, e0, e1, e2, e3, e4, e5, e6, e7, e8, e9, hrule, hnode⟩ := hrule.vals
      have HS := Lib.hid (sound1_ok l[j] wr (tabs_grew HT.out hbw) _ _ _ _ _ _ _ _ _ _ (hrule.mono hbw.size))
      have HB := Lib.hid hbw
      clear hrule hnode hR
      go_wp2_with fail
      refine HS.out.mono ?_
      rintro e w2 ⟨⟨x, rfl, hx⟩, hb2⟩
      have HX := Lib.hid hx
      have HG := Lib.hid (HB.out.trans (hb2.mono HB.out.size))
      clear hx hb2 hbw
      cases x
      · go_wp2_with fail
        exact ⟨⟨j + 1, by go_num, by omega, hf.out.next hlt (HX.out (by first | rfl | trivial)), HG.out⟩, by simp [intOf]; omega⟩
      · go_wp2_with fail
        go_ret
        exact ⟨⟨j, rfl, by omega, by omega, fun h => by omega⟩, HG.out⟩
    · have HB := Lib.hid hbw
      clear hbw hR
      go_wp2_with fail
      go_ret
      exact ⟨⟨-1, rfl, by omega, by omega, fun _ i hi => hf.out i hi (by omega)⟩, HB.out⟩

set_option maxRecDepth 20000 in
theorem contSound_ok (l : List Rl) (W : World) (hT : Lib.Utf8Tabs 1 2 W) (a : Option Addr) (cap : Nat) (hl : l.length ≤ 1000) (hR : RulesAt W W.heap.size a 0 l) :
    Calls Tryz.prog 13 #[.slice a l.length cap, .func (.func 14) #[] #[]] W (CntP l W) := by
  have hS := Lib.hid (indexSound_ok l W hT a cap hl hR)
  clear hT hR
  go_enter Tryz.func13, Tryz.ntmps13
  go_wp2_with fail
  refine hS.out.mono ?_
  rintro e w ⟨⟨k, rfl, h1, h2, hk⟩, hg⟩
  have HK := Lib.hid hk
  have HG := Lib.hid hg
  clear hk hg
  by_cases h0 : k < 0
  · have hb : decide (0 ≤ k) = false := decide_eq_false (by omega)
    go_wp2_with fail
    go_ret
    exact ⟨⟨_, rfl, fun _ => HK.out h0⟩, HG.out⟩
  · have hb : decide (0 ≤ k) = true := decide_eq_true (by omega)
    go_wp2_with fail
    go_ret
    refine ⟨⟨_, rfl, fun h => ?_⟩, HG.out⟩
    simp at h
theorem wide_of {g : Gr} (h : ∀ i (h : i < g.rules.length), RulePlain g.rules[i]) : g.Wide := by
  intro i hi h0 x hx hk
  obtain ⟨z, hz⟩ := h i hi x (by exact hx)
  rw [h0] at hz
  unfold plainX plainK at hz
  rw [if_pos hk] at hz
  simp at hz
  omega
set_option maxHeartbeats 2000000 in
set_option maxRecDepth 20000 in
theorem sound_ok (g : Gr) (hfair : g.Fair) (W : World) (hT : Lib.Utf8Tabs 1 2 W) (v0 v1 v2 v3 : Value) (hG : GrAt W W.heap.size (some v0) (some v1) (some v2) (some v3) g) :
    Calls Tryz.prog 5 #[.agg #[v0, v1, v2, v3]] W fun e W' => (∃ b, e = .returned (.bool b) ∧ (b = true → g.Wide)) ∧ Grew W W' := by
  obtain ⟨h1, hs, h2, h3, h4, h5, ra, rc, h6, h7, h8⟩ := hG
  obtain rfl := Option.some.inj h1
  obtain rfl := Option.some.inj h2
  obtain rfl := Option.some.inj h3
  obtain rfl := Option.some.inj h6
  have hl : g.rules.length ≤ 1000 := by have := hfair.1; omega
  clear h1 h2 h3 h4 h5 h6
  have hg1 := grew_alloc W (.cells #[.string g.name, .int .i64 g.bound, .int .i64 g.states, .slice ra g.rules.length rc] 26)
  have hg2 := grew_alloc (W.alloc (.cells #[.string g.name, .int .i64 g.bound, .int .i64 g.states, .slice ra g.rules.length rc] 26)) (.cells #[.int .i64 g.bound, .int .i64 g.states] 23)
  have o1 := (Owns.alloc W [.string g.name, .int .i64 g.bound, .int .i64 g.states, .slice ra g.rules.length rc] 26).keep hg2
  have o2 := Owns.alloc (W.alloc (.cells #[.string g.name, .int .i64 g.bound, .int .i64 g.states, .slice ra g.rules.length rc] 26)) [.int .i64 g.bound, .int .i64 g.states] 23
  have hg := hg1.trans hg2
  clear hg1 hg2
  have H8 := Lib.hid h8
  have HT := Lib.hid hT
  clear h8 hT
  have hsz : (W.alloc (.cells #[.string g.name, .int .i64 g.bound, .int .i64 g.states, .slice ra g.rules.length rc] 26)).heap.size = W.heap.size + 1 := by simp
  rw [hsz] at o2
  clear hsz
  go_enter Tryz.func5, Tryz.ntmps5
  go_wp2_with fail
  generalize (W.alloc (.cells #[.string g.name, .int .i64 g.bound, .int .i64 g.states, .slice ra g.rules.length rc] 26)).alloc (.cells #[.int .i64 g.bound, .int .i64 g.states] 23) = w1 at *
  refine (word_ok g.name hs w1 (tabs_grew HT.out hg)).mono ?_
  rintro e w ⟨⟨b, rfl⟩, hb⟩
  have p1 := o1.keep hb
  have p2 := o2.keep hb
  have c0 := p2.cell_at (i := 0) rfl
  have c1 := p2.cell_at (i := 1) rfl
  have c2 := p1.cell_at (i := 3) rfl
  have cl := p2.lt
  have HG := Lib.hid (hg.trans hb)
  have hS := Lib.hid (contSound_ok g.rules w (tabs_grew HT.out HG.out) ra rc hl ((H8.out.keep HG.out).mono HG.out.size))
  clear o1 o2 p1 p2 hg hb H8
  have HNO := Lib.hid (show ((∃ b, Ending.returned (.bool false) = .returned (.bool b) ∧ (b = true → g.Wide)) ∧ Grew W w) from ⟨⟨false, rfl, fun h => by cases h⟩, HG.out⟩)
  cases b with
  | false =>
    go_wp2_with fail
    go_ret
    exact HNO.out
  | true =>
    by_cases b1 : g.bound < 1
    · go_wp2_with fail
      go_ret
      exact HNO.out
    by_cases b2 : 8 < g.bound
    · go_wp2_with fail
      go_ret
      exact HNO.out
    by_cases b3 : g.states < 1
    · go_wp2_with fail
      go_ret
      exact HNO.out
    by_cases b4 : 4096 < g.states
    · go_wp2_with fail
      go_ret
      exact HNO.out
    by_cases b5 : (64 : Int) < (g.rules.length : Int)
    · have := hfair.1
      omega
    go_wp2_with fail
    refine hS.out.mono ?_
    rintro e w2 ⟨⟨x, rfl, hx⟩, hg2⟩
    have HX := Lib.hid hx
    have HG2 := Lib.hid (HG.out.trans hg2)
    clear hx hg2
    cases x
    · go_wp2_with fail
      go_ret
      exact ⟨⟨_, rfl, fun _ => wide_of (HX.out (by first | rfl | trivial))⟩, HG2.out⟩
    · go_wp2_with fail
      go_ret
      exact ⟨⟨_, rfl, fun h => by cases h⟩, HG2.out⟩
end Go.Proofs.YtiiffcmojkdlaaaGreatDoor
