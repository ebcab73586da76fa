/- Plain law for ChecksMore: a rule twice; a name of none; a rule that begins with itself. -/
import Derived.Test.YtnopnihdobedcaaFineLaw
import Derived.Test.YtnopnihdobedcaaClosedLaw
import Derived.Test.YtnopnihdobedcaaGrowLaw
namespace Go.Proofs.Ytnopnihdobedcaa

/-- nothing is told of a rule, but that it may be there already -/
structure Calm (g : Gr) (es : List Bool) (rch rnd : Nat → Nat → Bool) (i : Nat) (r : Rl) : Prop where
  none_ : ∀ n ∈ r.body.all, g.noneBad n = false
  sorts : ∀ n ∈ r.body.all, g.sortBad r n = false
  left : rch i i = false
  ring : rnd i i = false
  loop_ : ∀ n ∈ r.body.all, g.loopBad es r n = false
  some_ : es.getD i false = true → r.sort ≠ 1 ∧ r.sort ≠ 3
theorem nodesTold_none {i : Nat} {r : Rl} {code : Int} {wrong : Nd → Bool} (h : ∀ n ∈ r.body.all, wrong n = false) : nodesTold i r code wrong = [] := by
  unfold nodesTold
  rw [List.filter_eq_nil_iff.2 (fun n hn => by rw [h n hn]; simp), List.map_nil]
theorem Calm.told {g : Gr} {es : List Bool} {rch rnd : Nat → Nat → Bool} {i : Nat} {r : Rl} (h : Calm g es rch rnd i r) : g.ruleTold es rch rnd i r = if g.find r.name < (i : Int) then [⟨1, i, r.name⟩] else [] := by
  unfold Gr.ruleTold
  rw [nodesTold_none h.none_, nodesTold_none h.sorts, nodesTold_none h.loop_, h.left, h.ring]
  have h1 : (es.getD i false && (r.sort == 1 || r.sort == 3)) = false := by
    cases he : es.getD i false
    · rfl
    · obtain ⟨a, b⟩ := h.some_ he
      simp [a, b]
  rw [h1]
  simp

section
variable {g : Gr} {es : List Bool} {M N : List (List Bool)}
theorem fine_calm (hM : IsReach (g.Once es) g.rules.length M) (hN : IsReach g.rd0 g.rules.length N) (hq : ∀ i (h : i < g.rules.length), Quiet g es (at2 M) (at2 N) i g.rules[i]) (i : Nat) (hi : i < g.rules.length) : Calm g es (at2 M) (at2 N) i g.rules[i] :=
  ⟨(hq i hi).none_, (hq i hi).sorts, no_ring hq (fun i k => (hM.tc i k).1) (fun i k => (hN.tc i k).2) i hi, (hq i hi).ring, (hq i hi).loop_, (hq i hi).some_⟩
theorem no_tc (hM : IsReach (g.Once es) g.rules.length M) (hN : IsReach g.rd0 g.rules.length N) (hq : ∀ i (h : i < g.rules.length), Quiet g es (at2 M) (at2 N) i g.rules[i]) (i : Nat) (hi : i < g.rules.length) : ¬ Tc (g.Once es) i i ∧ ¬ Tc g.rd0 i i := by
  have h := fine_calm hM hN hq i hi
  refine ⟨fun ht => ?_, fun ht => ?_⟩
  · have := (hM.tc i i).2 ht
    rw [h.left] at this
    cases this
  · have := (hN.tc i i).2 ht
    rw [h.ring] at this
    cases this
end

/-! ### a rule twice -/
/-- with a rule more, behind all -/
def Gr.twice (g : Gr) (r : Rl) : Gr := { g with rules := g.rules ++ [r] }
theorem find_twice {g : Gr} {r : Rl} (hr : r ∈ g.rules) (x : ByteArray) : (g.twice r).find x = g.find x := by
  unfold Gr.find Gr.twice
  cases hp : sameB r.name x
  · exact ixOf_append _ _ _ hp
  · unfold ixOf
    rw [List.findIdx?_append]
    cases hf : g.rules.findIdx? fun r => sameB r.name x with
    | some i => rfl
    | none =>
      rw [List.findIdx?_eq_none_iff] at hf
      have := hf r hr
      rw [hp] at this
      cases this
theorem find_lt (g : Gr) (x : ByteArray) (h : ¬ g.find x < 0) : (g.find x).toNat < g.rules.length := by
  unfold Gr.find ixOf at h ⊢
  split
  · rename_i i hi
    obtain ⟨h3, _⟩ := List.findIdx?_eq_some_iff_getElem.1 hi
    simpa using h3
  · rename_i hi
    rw [hi] at h
    exact absurd (by decide) h
theorem sortAt_twice (g : Gr) (r : Rl) (x : ByteArray) (h : ¬ g.find x < 0) : (g.twice r).sortAt (g.find x) = g.sortAt (g.find x) := by
  unfold Gr.sortAt Gr.twice
  simp only [List.getElem?_append_left (find_lt g x h)]
theorem named_twice {g : Gr} {r : Rl} (hr : r ∈ g.rules) (t : Bool) (n : Nd) : (g.twice r).named t n = g.named t n := by
  unfold Gr.named
  rw [find_twice hr]
  by_cases h : g.find n.name < 0
  · simp only [h, if_true]
  · simp only [h, if_false, sortAt_twice g r n.name h]
mutual
theorem may_twice {g : Gr} {r : Rl} (hr : r ∈ g.rules) (es : List Bool) (t : Bool) : ∀ n : Nd, (g.twice r).may es t n = g.may es t n
  | .mk k nm tx set subs => by rw [Gr.may, Gr.may, mayAll_twice hr es t subs, mayAny_twice hr es t subs, named_twice hr]
theorem mayAll_twice {g : Gr} {r : Rl} (hr : r ∈ g.rules) (es : List Bool) (t : Bool) : ∀ l : List Nd, (g.twice r).mayAll es t l = g.mayAll es t l
  | [] => rfl
  | n :: l => by rw [Gr.mayAll, Gr.mayAll, may_twice hr es t n, mayAll_twice hr es t l]
theorem mayAny_twice {g : Gr} {r : Rl} (hr : r ∈ g.rules) (es : List Bool) (t : Bool) : ∀ l : List Nd, (g.twice r).mayAny es t l = g.mayAny es t l
  | [] => rfl
  | n :: l => by rw [Gr.mayAny, Gr.mayAny, may_twice hr es t n, mayAny_twice hr es t l]
end
mutual
theorem marks_twice {g : Gr} {r : Rl} (hr : r ∈ g.rules) (es : List Bool) (t : Bool) : ∀ (n : Nd) (l : List Bool), (g.twice r).marks es t n l = g.marks es t n l
  | .mk k nm tx set subs, l => by rw [Gr.marks, Gr.marks, marksSeq_twice hr es t subs, marksAll_twice hr es t subs, named_twice hr]
theorem marksSeq_twice {g : Gr} {r : Rl} (hr : r ∈ g.rules) (es : List Bool) (t : Bool) : ∀ (ns : List Nd) (l : List Bool), (g.twice r).marksSeq es t ns l = g.marksSeq es t ns l
  | [], l => rfl
  | n :: ns, l => by rw [Gr.marksSeq, Gr.marksSeq, may_twice hr es t n, marks_twice hr es t n, marksSeq_twice hr es t ns]
theorem marksAll_twice {g : Gr} {r : Rl} (hr : r ∈ g.rules) (es : List Bool) (t : Bool) : ∀ (ns : List Nd) (l : List Bool), (g.twice r).marksAll es t ns l = g.marksAll es t ns l
  | [], l => rfl
  | n :: ns, l => by rw [Gr.marksAll, Gr.marksAll, marks_twice hr es t n, marksAll_twice hr es t ns]
end
mutual
theorem marks_same {g : Gr} {es fs : List Bool} (h : ∀ i, i < g.rules.length → es.getD i false = fs.getD i false) (t : Bool) : ∀ (n : Nd) (l : List Bool), g.marks es t n l = g.marks fs t n l
  | .mk k nm tx set subs, l => by rw [Gr.marks, Gr.marks, marksSeq_same h t subs, marksAll_same h t subs]
theorem marksSeq_same {g : Gr} {es fs : List Bool} (h : ∀ i, i < g.rules.length → es.getD i false = fs.getD i false) (t : Bool) : ∀ (ns : List Nd) (l : List Bool), g.marksSeq es t ns l = g.marksSeq fs t ns l
  | [], l => rfl
  | n :: ns, l => by rw [Gr.marksSeq, Gr.marksSeq, may_same h t n, marks_same h t n, marksSeq_same h t ns]
theorem marksAll_same {g : Gr} {es fs : List Bool} (h : ∀ i, i < g.rules.length → es.getD i false = fs.getD i false) (t : Bool) : ∀ (ns : List Nd) (l : List Bool), g.marksAll es t ns l = g.marksAll fs t ns l
  | [], l => rfl
  | n :: ns, l => by rw [Gr.marksAll, Gr.marksAll, marks_same h t n, marksAll_same h t ns]
end
mutual
/-- a further place is marked by none -/
theorem marks_snoc (g : Gr) (es : List Bool) (t : Bool) (b : Bool) : ∀ (n : Nd) (l : List Bool), l.length = g.rules.length → g.marks es t n (l ++ [b]) = g.marks es t n l ++ [b]
  | .mk k nm tx set subs, l, hl => by
    rw [Gr.marks, Gr.marks, marksSeq_snoc g es t b subs l hl, marksAll_snoc g es t b subs l hl]
    split
    · rfl
    · split
      · rfl
      · split
        · split
          · next hpos =>
            rcases named_range g t (.mk k nm tx set subs) with h2 | ⟨j, hj, h2⟩
            · rw [h2] at hpos
              exact absurd hpos (by decide)
            · rw [h2, Int.toNat_natCast, List.set_append_left _ _ (by omega)]
          · rfl
        · rfl
theorem marksSeq_snoc (g : Gr) (es : List Bool) (t : Bool) (b : Bool) : ∀ (ns : List Nd) (l : List Bool), l.length = g.rules.length → g.marksSeq es t ns (l ++ [b]) = g.marksSeq es t ns l ++ [b]
  | [], l, _ => rfl
  | n :: ns, l, hl => by
    rw [Gr.marksSeq, Gr.marksSeq, marks_snoc g es t b n l hl]
    split
    · exact marksSeq_snoc g es t b ns _ (by rw [marks_length]; exact hl)
    · rfl
theorem marksAll_snoc (g : Gr) (es : List Bool) (t : Bool) (b : Bool) : ∀ (ns : List Nd) (l : List Bool), l.length = g.rules.length → g.marksAll es t ns (l ++ [b]) = g.marksAll es t ns l ++ [b]
  | [], l, _ => rfl
  | n :: ns, l, hl => by
    rw [Gr.marksAll, Gr.marksAll, marks_snoc g es t b n l hl]
    exact marksAll_snoc g es t b ns _ (by rw [marks_length]; exact hl)
end

theorem twice_len (g : Gr) (r : Rl) : (g.twice r).rules.length = g.rules.length + 1 := by simp [Gr.twice]
theorem twice_at (g : Gr) (r : Rl) (k : Nat) (hk : k < g.rules.length) (hk' : k < (g.twice r).rules.length) : (g.twice r).rules[k] = g.rules[k] := by
  show (g.rules ++ [r])[k]'(by simp; omega) = g.rules[k]
  rw [List.getElem_append_left hk]
theorem twice_last (g : Gr) (r : Rl) (hk : g.rules.length < (g.twice r).rules.length) : (g.twice r).rules[g.rules.length] = r := by
  show (g.rules ++ [r])[g.rules.length]'(by simp) = r
  simp
theorem getD_snoc_lt {es : List Bool} {b : Bool} {n : Nat} (hel : es.length = n) (i : Nat) (hi : i < n) : (es ++ [b]).getD i false = es.getD i false := by
  rw [List.getD_eq_getElem?_getD, List.getElem?_append_left (by omega), ← List.getD_eq_getElem?_getD]
theorem getD_snoc_last {es : List Bool} {b : Bool} {n : Nat} (hel : es.length = n) : (es ++ [b]).getD n false = b := by
  subst hel
  simp [List.getD_eq_getElem?_getD]

theorem empty_twice {g : Gr} {es : List Bool} {i : Nat} (hi : i < g.rules.length) (he : g.IsEmpty es) : (g.twice g.rules[i]).IsEmpty (es ++ [es.getD i false]) := by
  have hr : g.rules[i] ∈ g.rules := List.getElem_mem hi
  have hl := twice_len g g.rules[i]
  have hel := he.sound.1
  have hpre : ∀ fs, (g.twice g.rules[i]).Pre fs → g.Pre fs := fun fs hfs k hk hmk => by
    refine hfs k (by omega) ?_
    rw [twice_at g _ k hk, may_twice hr]
    exact hmk
  refine ⟨⟨by simp [hel, hl], fun fs hfs j hj => ?_⟩, fun k hk hmay => ?_⟩
  · by_cases hjl : j < g.rules.length
    · rw [getD_snoc_lt hel j hjl] at hj
      exact he.sound.2 fs (hpre fs hfs) j hj
    · by_cases hje : j = g.rules.length
      · subst hje
        rw [getD_snoc_last hel] at hj
        refine hfs g.rules.length (by omega) ?_
        rw [twice_last g _ (by omega), may_twice hr]
        refine may_mono (he.sound.2 fs (hpre fs hfs)) _ _ ?_
        rw [he.may i hi]
        exact hj
      · rw [List.getD_eq_getElem?_getD, List.getElem?_eq_none (by simp; omega)] at hj
        cases hj
  · by_cases hkl : k < g.rules.length
    · rw [twice_at g _ k hkl hk, may_twice hr, may_same (getD_snoc_lt hel)] at hmay
      rw [getD_snoc_lt hel k hkl]
      exact he.pre k hkl hmay
    · have : k = g.rules.length := by omega
      subst this
      rw [twice_last g _ hk, may_twice hr, may_same (getD_snoc_lt hel), he.may i hi] at hmay
      rw [getD_snoc_last hel]
      exact hmay

/-- who goes on to whom at once, with a rule twice -/
theorem once_twice {g : Gr} {es : List Bool} (hel : es.length = g.rules.length) {i : Nat} (hi : i < g.rules.length) (b : Bool) (a k : Nat) (h : (g.twice g.rules[i]).Once (es ++ [b]) a k) : k < g.rules.length ∧ (a < g.rules.length → g.Once es a k) := by
  have hr : g.rules[i] ∈ g.rules := List.getElem_mem hi
  have hl := twice_len g g.rules[i]
  unfold Gr.Once at h
  obtain ⟨ha, hk⟩ := at2_lt (onceM_square _ _) h
  rw [hl] at ha hk
  have key : ∀ (c : Nat) (hc : c < g.rules.length) (hc' : a < (g.twice g.rules[i]).rules.length), (g.twice g.rules[i]).rules[a] = g.rules[c] → at2 (g.onceM es) c k = true ∧ k < g.rules.length := by
    intro c hc hc' he
    unfold at2 Gr.onceM at h ⊢
    rw [List.getD_eq_getElem?_getD (l := List.map _ _), List.getElem?_map, List.getElem?_range (by omega)] at h
    simp only [Option.map_some, Option.getD_some] at h
    unfold Gr.onceRow at h
    rw [List.getElem?_eq_getElem hc'] at h
    simp only at h
    rw [he, marks_twice hr, marks_same (getD_snoc_lt hel), hl, List.replicate_succ', marks_snoc g es _ false _ _ (by simp)] at h
    have hkl : k < g.rules.length := by
      apply Classical.byContradiction
      intro hn
      have : k = g.rules.length := by omega
      subst this
      rw [getD_snoc_last (by rw [marks_length]; simp)] at h
      cases h
    rw [getD_snoc_lt (n := g.rules.length) (by rw [marks_length]; simp) k hkl] at h
    refine ⟨?_, hkl⟩
    rw [List.getD_eq_getElem?_getD (l := List.map _ _), List.getElem?_map, List.getElem?_range hc]
    simp only [Option.map_some, Option.getD_some]
    unfold Gr.onceRow
    rw [List.getElem?_eq_getElem hc]
    exact h
  by_cases hag : a < g.rules.length
  · obtain ⟨h1, h2⟩ := key a hag (by omega) (twice_at g _ a hag (by omega))
    exact ⟨h2, fun _ => h1⟩
  · have : a = g.rules.length := by omega
    subst this
    obtain ⟨_, h2⟩ := key i hi (by omega) (twice_last g _ (by omega))
    exact ⟨h2, fun h => absurd h (by omega)⟩
/-- where no step leads beyond n, and those from below n are steps of another relation -/
theorem tc_within {O P : Nat → Nat → Prop} {n : Nat} (h : ∀ a k, O a k → k < n ∧ (a < n → P a k)) {a k : Nat} (ht : Tc O a k) : k < n ∧ (a < n → Tc P a k) := by
  induction ht with
  | one h1 => exact ⟨(h _ _ h1).1, fun ha => .one ((h _ _ h1).2 ha)⟩
  | more h1 _ ih =>
    obtain ⟨h2, h3⟩ := h _ _ h1
    exact ⟨ih.1, fun ha => .more (h3 ha) (ih.2 h2)⟩
theorem rd0_twice {g : Gr} {i : Nat} (hi : i < g.rules.length) (a k : Nat) (h : (g.twice g.rules[i]).rd0 a k) : k < g.rules.length ∧ (a < g.rules.length → g.rd0 a k) := by
  have hr : g.rules[i] ∈ g.rules := List.getElem_mem hi
  have hl := twice_len g g.rules[i]
  obtain ⟨ha, hk, h1, h2, m, hm, h3, h4⟩ := h
  rw [find_twice hr] at h4
  have hkl : k < g.rules.length := by
    have := find_lt g m.name (by omega)
    omega
  refine ⟨hkl, fun hag => ?_⟩
  rw [twice_at g _ a hag ha] at h1 hm
  rw [twice_at g _ k hkl hk] at h2
  exact ⟨hag, hkl, h1, h2, m, hm, h3, h4⟩
theorem start_twice (g : Gr) (r : Rl) (h : ¬ g.start < 0) : ¬ (g.twice r).start < 0 := by
  unfold Gr.start Gr.twice ixOf at *
  rw [List.findIdx?_append]
  cases hf : g.rules.findIdx? fun r => r.parser with
  | some j => simp
  | none => rw [hf] at h; exact absurd (by decide) h

theorem noneBad_twice {g : Gr} {r : Rl} (hr : r ∈ g.rules) (n : Nd) : (g.twice r).noneBad n = g.noneBad n := by
  unfold Gr.noneBad
  rw [find_twice hr]
theorem sortBad_twice {g : Gr} {r : Rl} (hr : r ∈ g.rules) (s : Rl) (n : Nd) : (g.twice r).sortBad s n = g.sortBad s n := by
  unfold Gr.sortBad
  rw [find_twice hr]
  by_cases h : g.find n.name < 0
  · have : decide (0 ≤ g.find n.name) = false := decide_eq_false (by omega)
    rw [this]
    simp
  · rw [sortAt_twice g r _ h]
theorem loopBad_twice {g : Gr} {r : Rl} (hr : r ∈ g.rules) {es fs : List Bool} (h : ∀ i, i < g.rules.length → es.getD i false = fs.getD i false) (s : Rl) (n : Nd) : (g.twice r).loopBad es s n = g.loopBad fs s n := by
  unfold Gr.loopBad
  congr 1
  cases n.subs with
  | nil => rfl
  | cons a l =>
    show (g.twice r).may es s.token a = g.may fs s.token a
    rw [may_twice hr, may_same h]

/-- a rule twice: just that is told -/
theorem told_twice {g : Gr} {es : List Bool} {M N : List (List Bool)} (he : g.IsEmpty es) (hM : IsReach (g.Once es) g.rules.length M) (hN : IsReach g.rd0 g.rules.length N) (ht : g.told es (at2 M) (at2 N) = []) {i : Nat} (hi : i < g.rules.length)
    {es' : List Bool} {M' N' : List (List Bool)} (he' : (g.twice g.rules[i]).IsEmpty es') (hM' : IsReach ((g.twice g.rules[i]).Once es') (g.rules.length + 1) M') (hN' : IsReach (g.twice g.rules[i]).rd0 (g.rules.length + 1) N') :
    (g.twice g.rules[i]).told es' (at2 M') (at2 N') = [⟨1, g.rules.length, g.rules[i].name⟩] := by
  have hr : g.rules[i] ∈ g.rules := List.getElem_mem hi
  have hl := twice_len g g.rules[i]
  obtain rfl := he'.unique (empty_twice hi he)
  have hel := he.sound.1
  unfold Gr.told at ht
  rw [List.append_eq_nil_iff] at ht
  have hq : ∀ i (h : i < g.rules.length), Quiet g es (at2 M) (at2 N) i g.rules[i] := fun i hi => quiet_of (by have := rulesTold_at g.rules 0 ht.1 i hi; rwa [Nat.zero_add] at this)
  have hst : ¬ g.start < 0 := fun h => by have h2 := ht.2; rw [if_pos h] at h2; cases h2
  have hrch : ∀ j, j ≤ g.rules.length → at2 M' j j = false := fun j hj => by
    cases hx : at2 M' j j
    · rfl
    · obtain ⟨h1, h2⟩ := tc_within (fun a k => once_twice hel hi _ a k) ((hM'.tc j j).1 hx)
      exact absurd (h2 h1) (no_tc hM hN hq j h1).1
  have hrnd : ∀ j, j ≤ g.rules.length → at2 N' j j = false := fun j hj => by
    cases hx : at2 N' j j
    · rfl
    · obtain ⟨h1, h2⟩ := tc_within (fun a k => rd0_twice hi a k) ((hN'.tc j j).1 hx)
      exact absurd (h2 h1) (no_tc hM hN hq j h1).2
  have hcalm : ∀ (c : Nat) (hc : c < g.rules.length) (j : Nat), j ≤ g.rules.length → (es ++ [es.getD i false]).getD j false = es.getD c false → Calm (g.twice g.rules[i]) (es ++ [es.getD i false]) (at2 M') (at2 N') j g.rules[c] := fun c hc j hj hej => by
    have h := fine_calm hM hN hq c hc
    exact ⟨fun n hn => by rw [noneBad_twice hr]; exact h.none_ n hn, fun n hn => by rw [sortBad_twice hr]; exact h.sorts n hn, hrch j hj, hrnd j hj, fun n hn => by rw [loopBad_twice hr (getD_snoc_lt hel)]; exact h.loop_ n hn, fun hx => h.some_ (by rw [← hej]; exact hx)⟩
  have hrules : ∀ (l : List Rl) (j : Nat), (∀ k (h : k < l.length), (g.twice g.rules[i]).ruleTold (es ++ [es.getD i false]) (at2 M') (at2 N') (j + k) l[k] = []) → ∀ r2, (g.twice g.rules[i]).rulesTold (es ++ [es.getD i false]) (at2 M') (at2 N') j (l ++ [r2]) = (g.twice g.rules[i]).ruleTold (es ++ [es.getD i false]) (at2 M') (at2 N') (j + l.length) r2 := by
    intro l
    induction l with
    | nil => intro j _ r2; simp [Gr.rulesTold]
    | cons a l ih =>
      intro j h r2
      have h0 := h 0 (by simp)
      rw [List.cons_append, Gr.rulesTold, ih (j + 1) (fun k hk => by have := h (k + 1) (by simpa using hk); rw [List.getElem_cons_succ] at this; rw [show j + 1 + k = j + (k + 1) by omega]; exact this) r2]
      rw [List.getElem_cons_zero, Nat.add_zero] at h0
      rw [h0, List.nil_append, List.length_cons, show j + 1 + l.length = j + (l.length + 1) by omega]
  have hfi : g.find g.rules[i].name = (i : Int) := fine_find hi (hq i hi)
  unfold Gr.told
  rw [if_neg (start_twice g _ hst), List.append_nil]
  show (g.twice g.rules[i]).rulesTold _ _ _ 0 (g.rules ++ [g.rules[i]]) = _
  rw [hrules g.rules 0 (fun k hk => by
    rw [Nat.zero_add, (hcalm k hk k (by omega) (getD_snoc_lt hel k hk)).told, if_neg (by rw [find_twice hr, fine_find hk (hq k hk)]; omega)]) g.rules[i], Nat.zero_add, (hcalm i hi g.rules.length (by omega) (getD_snoc_last hel)).told, if_pos (by rw [find_twice hr, hfi]; omega)]
end Go.Proofs.Ytnopnihdobedcaa
