/- Plain law for ChecksMore: a name of no rule is told first; a rule that begins with itself is told. -/
import Derived.Test.YtnopnihdobedcaaMoreLaw
namespace Go.Proofs.Ytnopnihdobedcaa

mutual
theorem marks_put (g : Gr) (i : Nat) (n : Nd) (es : List Bool) (t : Bool) : ∀ (m : Nd) (l : List Bool), (g.put i n).marks es t m l = g.marks es t m l
  | .mk k nm tx set subs, l => by rw [Gr.marks, Gr.marks, marksSeq_put g i n es t subs, marksAll_put g i n es t subs, named_put]
theorem marksSeq_put (g : Gr) (i : Nat) (n : Nd) (es : List Bool) (t : Bool) : ∀ (ms : List Nd) (l : List Bool), (g.put i n).marksSeq es t ms l = g.marksSeq es t ms l
  | [], l => rfl
  | m :: ms, l => by rw [Gr.marksSeq, Gr.marksSeq, may_put g i n es t m, marks_put g i n es t m, marksSeq_put g i n es t ms]
theorem marksAll_put (g : Gr) (i : Nat) (n : Nd) (es : List Bool) (t : Bool) : ∀ (ms : List Nd) (l : List Bool), (g.put i n).marksAll es t ms l = g.marksAll es t ms l
  | [], l => rfl
  | m :: ms, l => by rw [Gr.marksAll, Gr.marksAll, marks_put g i n es t m, marksAll_put g i n es t ms]
end
theorem leD_set (l : List Bool) (j : Nat) : leD l (l.set j true) := ⟨by simp, fun k hk => by
  rw [getD_set]
  split
  · rfl
  · exact hk⟩
mutual
theorem marks_grow (g : Gr) (es : List Bool) (t : Bool) : ∀ (n : Nd) (l : List Bool), leD l (g.marks es t n l)
  | .mk k nm tx set subs, l => by
    rw [Gr.marks]
    split
    · exact marksSeq_grow g es t subs l
    · split
      · exact marksAll_grow g es t subs l
      · split
        · split
          · exact leD_set l _
          · exact leD.refl l
        · exact leD.refl l
theorem marksSeq_grow (g : Gr) (es : List Bool) (t : Bool) : ∀ (ns : List Nd) (l : List Bool), leD l (g.marksSeq es t ns l)
  | [], l => leD.refl l
  | n :: ns, l => by
    rw [Gr.marksSeq]
    split
    · exact (marks_grow g es t n l).trans (marksSeq_grow g es t ns _)
    · exact marks_grow g es t n l
theorem marksAll_grow (g : Gr) (es : List Bool) (t : Bool) : ∀ (ns : List Nd) (l : List Bool), leD l (g.marksAll es t ns l)
  | [], l => leD.refl l
  | n :: ns, l => by
    rw [Gr.marksAll]
    exact (marks_grow g es t n l).trans (marksAll_grow g es t ns _)
end
theorem leD_set2 {l l' : List Bool} (h : leD l l') (j : Nat) : leD (l.set j true) (l'.set j true) := ⟨by simp [h.1], fun k hk => by
  rw [getD_set] at hk ⊢
  have := h.1
  split at hk
  · next he => rw [if_pos ⟨he.1, by omega⟩]
  · next he =>
    split
    · rfl
    · exact h.2 k hk⟩
mutual
theorem marks_mono {g : Gr} {es fs : List Bool} (h : Leq es fs) (t : Bool) : ∀ (n : Nd) (l l' : List Bool), leD l l' → leD (g.marks es t n l) (g.marks fs t n l')
  | .mk k nm tx set subs, l, l', hl => by
    rw [Gr.marks, Gr.marks]
    split
    · exact marksSeq_mono h t subs l l' hl
    · split
      · exact marksAll_mono h t subs l l' hl
      · split
        · split
          · exact leD_set2 hl _
          · exact hl
        · exact hl
theorem marksSeq_mono {g : Gr} {es fs : List Bool} (h : Leq es fs) (t : Bool) : ∀ (ns : List Nd) (l l' : List Bool), leD l l' → leD (g.marksSeq es t ns l) (g.marksSeq fs t ns l')
  | [], l, l', hl => hl
  | n :: ns, l, l', hl => by
    rw [Gr.marksSeq, Gr.marksSeq]
    have h1 := marks_mono (g := g) h t n l l' hl
    split
    · next hm =>
      rw [if_pos (may_mono h t n hm)]
      exact marksSeq_mono h t ns _ _ h1
    · split
      · exact h1.trans (marksSeq_grow g fs t ns _)
      · exact h1
theorem marksAll_mono {g : Gr} {es fs : List Bool} (h : Leq es fs) (t : Bool) : ∀ (ns : List Nd) (l l' : List Bool), leD l l' → leD (g.marksAll es t ns l) (g.marksAll fs t ns l')
  | [], l, l', hl => hl
  | n :: ns, l, l', hl => by
    rw [Gr.marksAll, Gr.marksAll]
    exact marksAll_mono h t ns _ _ (marks_mono h t n l l' hl)
end

theorem putRule_at (g : Gr) (i : Nat) (hi : i < g.rules.length) (n : Nd) (k : Nat) (hk : k < (g.put i n).rules.length) (hk' : k < g.rules.length) : (g.put i n).rules[k] = if k = i then { g.rules[i] with body := n } else g.rules[k] := by
  have h := put_rules g i hi n
  have h2 : (g.put i n).rules[k] = (g.rules.set i { g.rules[i] with body := n })[k]'(by simpa using hk') := by simp only [h]
  rw [h2, List.getElem_set]
  by_cases e : k = i
  · subst e; simp
  · rw [if_neg (fun x => e x.symm), if_neg e]
theorem noneBad_put (g : Gr) (i : Nat) (n m : Nd) : (g.put i n).noneBad m = g.noneBad m := by
  unfold Gr.noneBad
  rw [find_put]
theorem sortBad_put (g : Gr) (i : Nat) (n : Nd) (s : Rl) (m : Nd) : (g.put i n).sortBad s m = g.sortBad s m := by
  unfold Gr.sortBad
  rw [find_put, sortAt_put]
theorem loopBad_put (g : Gr) (i : Nat) (n : Nd) {es fs : List Bool} (h : Leq es fs) (s : Rl) (m : Nd) (hm : g.loopBad fs s m = false) : (g.put i n).loopBad es s m = false := by
  unfold Gr.loopBad at *
  cases hk : (m.kind == 3 || m.kind == 4)
  · rfl
  · rw [hk] at hm
    cases hs : m.subs with
    | nil => rfl
    | cons a l =>
      rw [hs] at hm
      have h1 : g.may fs s.token a = false := by simpa using hm
      show (true && (g.put i n).may es s.token a) = false
      rw [may_put, Bool.true_and]
      cases hx : g.may es s.token a
      · rfl
      · rw [may_mono h _ _ hx] at h1
        cases h1
/-- rules ahead of which nothing is told, and what is told of the next one -/
theorem rulesTold_split (g : Gr) (es : List Bool) (rch rnd : Nat → Nat → Bool) : ∀ (l : List Rl) (j i : Nat) (hi : i < l.length), (∀ k (h : k < i), g.ruleTold es rch rnd (j + k) (l[k]'(by omega)) = []) →
    ∃ T, g.rulesTold es rch rnd j l = g.ruleTold es rch rnd (j + i) l[i] ++ T
  | [], _, _, h, _ => absurd h (by simp)
  | r :: l, j, 0, _, _ => ⟨g.rulesTold es rch rnd (j + 1) l, by rw [Gr.rulesTold]; rfl⟩
  | r :: l, j, i + 1, hi, h => by
    obtain ⟨T, hT⟩ := rulesTold_split g es rch rnd l (j + 1) i (by simpa using hi) (fun k hk => by
      have := h (k + 1) (by omega)
      rw [List.getElem_cons_succ] at this
      rw [show j + 1 + k = j + (k + 1) by omega]
      exact this)
    have h0 := h 0 (by omega)
    rw [List.getElem_cons_zero, Nat.add_zero] at h0
    exact ⟨T, by rw [Gr.rulesTold, h0, List.nil_append, hT, List.getElem_cons_succ, show j + 1 + i = j + (i + 1) by omega]⟩
theorem rulesTold_mem (g : Gr) (es : List Bool) (rch rnd : Nat → Nat → Bool) (p : Prob) : ∀ (l : List Rl) (j i : Nat) (hi : i < l.length), p ∈ g.ruleTold es rch rnd (j + i) l[i] → p ∈ g.rulesTold es rch rnd j l
  | [], _, _, h, _ => absurd h (by simp)
  | r :: l, j, 0, _, h => by
    rw [Gr.rulesTold]
    exact List.mem_append_left _ h
  | r :: l, j, i + 1, hi, h => by
    rw [Gr.rulesTold]
    refine List.mem_append_right _ (rulesTold_mem g es rch rnd p l (j + 1) i (by simpa using hi) ?_)
    rw [List.getElem_cons_succ] at h
    rw [show j + 1 + i = j + (i + 1) by omega]
    exact h

def nulName : ByteArray := { data := #[0] }
/-- a name of no rule behind a body -/
def noneNode (k : Int) (n : Nd) : Nd := .mk 1 { data := #[] } { data := #[] } [] [n, .mk k nulName { data := #[] } [] []]
/-- a rule's own name ahead of its body -/
def selfNode (k : Int) (nm : ByteArray) (n : Nd) : Nd := .mk 1 { data := #[] } { data := #[] } [] [.mk k nm { data := #[] } [] [], n]
def nameKind (r : Rl) : Int := if r.sort = 0 then 5 else 6
theorem nameKind_or (r : Rl) : nameKind r = 5 ∨ nameKind r = 6 := by
  unfold nameKind
  split
  · exact .inl rfl
  · exact .inr rfl
theorem named_none {g : Gr} (t : Bool) (n : Nd) (h : g.find n.name < 0) : g.named t n = -1 := by
  unfold Gr.named
  simp only [h, if_true]
theorem may_x {g : Gr} (es : List Bool) (t : Bool) {k : Int} (hk : k = 5 ∨ k = 6) (nm : ByteArray) (h : g.find nm < 0) : g.may es t (.mk k nm { data := #[] } [] []) = false := by
  have hn := named_none (g := g) t (.mk k nm { data := #[] } [] []) h
  rcases hk with rfl | rfl <;> rw [Gr.may, hn] <;> rfl
theorem marks_x {g : Gr} (es : List Bool) (t : Bool) {k : Int} (hk : k = 5 ∨ k = 6) (nm : ByteArray) (h : g.find nm < 0) (l : List Bool) : g.marks es t (.mk k nm { data := #[] } [] []) l = l := by
  have hn := named_none (g := g) t (.mk k nm { data := #[] } [] []) h
  rcases hk with rfl | rfl <;> rw [Gr.marks, hn] <;> rfl
theorem all_none (k : Int) (n : Nd) : (noneNode k n).all = noneNode k n :: (n.all ++ [.mk k nulName { data := #[] } [] []]) := by
  unfold noneNode
  rw [Nd.all, Nd.allL, Nd.allL, Nd.allL, Nd.all, Nd.allL]
  simp
theorem all_selfN (k : Int) (nm : ByteArray) (n : Nd) : Nd.mk k nm { data := #[] } [] [] ∈ (selfNode k nm n).all := by
  unfold selfNode
  rw [Nd.all, Nd.allL, Nd.all, Nd.allL]
  simp

theorem tc_mono {O P : Nat → Nat → Prop} (h : ∀ a k, O a k → P a k) {a k : Nat} (ht : Tc O a k) : Tc P a k := by
  induction ht with
  | one h1 => exact .one (h _ _ h1)
  | more h1 _ ih => exact .more (h _ _ h1) ih
theorem onceM_at (g : Gr) (es : List Bool) (a k : Nat) (ha : a < g.rules.length) : at2 (g.onceM es) a k = (g.marks es g.rules[a].token g.rules[a].body (List.replicate g.rules.length false)).getD k false := by
  unfold at2 Gr.onceM
  rw [List.getD_eq_getElem?_getD (l := List.map _ _), List.getElem?_map, List.getElem?_range ha]
  simp only [Option.map_some, Option.getD_some]
  unfold Gr.onceRow
  rw [List.getElem?_eq_getElem ha]

/-- a name of no rule is told first -/
theorem told_none {g : Gr} {es : List Bool} {M N : List (List Bool)} (he : g.IsEmpty es) (hM : IsReach (g.Once es) g.rules.length M) (hN : IsReach g.rd0 g.rules.length N) (ht : g.told es (at2 M) (at2 N) = []) {i : Nat} (hi : i < g.rules.length) (hx : g.find nulName < 0)
    {k : Int} (hk : k = 5 ∨ k = 6) {es' : List Bool} {M' N' : List (List Bool)} (he' : (g.put i (noneNode k g.rules[i].body)).IsEmpty es') (hM' : IsReach ((g.put i (noneNode k g.rules[i].body)).Once es') g.rules.length M') (hN' : IsReach (g.put i (noneNode k g.rules[i].body)).rd0 g.rules.length N') :
    ∃ T, (g.put i (noneNode k g.rules[i].body)).told es' (at2 M') (at2 N') = ⟨2, i, nulName⟩ :: T := by
  have hl := put_length g i (noneNode k g.rules[i].body)
  unfold Gr.told at ht
  rw [List.append_eq_nil_iff] at ht
  have hq : ∀ i (h : i < g.rules.length), Quiet g es (at2 M) (at2 N) i g.rules[i] := fun i hi => quiet_of (by have := rulesTold_at g.rules 0 ht.1 i hi; rwa [Nat.zero_add] at this)
  have hle : Leq es' es := he'.sound.2 es fun c hc hm => by
    have h2 := putRule_at g i hi (noneNode k g.rules[i].body) c hc (by omega)
    rw [h2] at hm
    by_cases e : c = i
    · rw [if_pos e, may_put] at hm
      have : g.may es (Rl.token { g.rules[i] with body := noneNode k g.rules[i].body }) (noneNode k g.rules[i].body) = false := by
        unfold noneNode
        rw [Gr.may]
        simp only [Gr.mayAll, may_x es _ hk nulName hx]
        simp
      rw [this] at hm
      cases hm
    · rw [if_neg e, may_put] at hm
      exact he.pre c (by omega) hm
  have honce : ∀ a c, (g.put i (noneNode k g.rules[i].body)).Once es' a c → g.Once es a c := fun a c h => by
    unfold Gr.Once at h ⊢
    obtain ⟨ha, _⟩ := at2_lt (onceM_square _ _) h
    have ha' : a < g.rules.length := by omega
    rw [onceM_at _ _ _ _ ha, putRule_at g i hi _ a ha ha', hl] at h
    rw [onceM_at _ _ _ _ ha']
    by_cases e : a = i
    · subst e
      rw [if_pos rfl, marks_put] at h
      have h2 : g.marks es' (Rl.token { g.rules[a] with body := noneNode k g.rules[a].body }) (noneNode k g.rules[a].body) (List.replicate g.rules.length false) = g.marks es' g.rules[a].token g.rules[a].body (List.replicate g.rules.length false) := by
        unfold noneNode
        rw [Gr.marks]
        simp only [Gr.marksSeq, marks_x es' _ hk nulName hx, show ((1 : Int) == 1) = true from rfl, if_true]
        split
        · split <;> rfl
        · rfl
      rw [h2] at h
      exact (marks_mono hle _ _ _ _ (leD.refl _)).2 c h
    · rw [if_neg e, marks_put] at h
      exact (marks_mono hle _ _ _ _ (leD.refl _)).2 c h
  have hrd : ∀ a c, (g.put i (noneNode k g.rules[i].body)).rd0 a c → g.rd0 a c := fun a c h => by
    obtain ⟨ha, hc, h1, h2, m, hm, h3, h4⟩ := h
    have ha' : a < g.rules.length := by omega
    have hc' : c < g.rules.length := by omega
    rw [find_put] at h4
    have p1 : g.rules[a].parser = false := by
      rw [putRule_at g i hi _ a ha ha'] at h1
      split at h1
      · next e => subst e; exact h1
      · exact h1
    have p2 : g.rules[c].parser = false := by
      rw [putRule_at g i hi _ c hc hc'] at h2
      split at h2
      · next e => subst e; exact h2
      · exact h2
    rw [putRule_at g i hi _ a ha ha'] at hm
    by_cases e : a = i
    · subst e
      rw [if_pos rfl] at hm
      change m ∈ (noneNode k g.rules[a].body).all at hm
      rw [all_none] at hm
      rcases List.mem_cons.1 hm with rfl | hm
      · cases h3
      · rcases List.mem_append.1 hm with hm | hm
        · exact ⟨ha', hc', p1, p2, m, hm, h3, h4⟩
        · rw [List.mem_singleton] at hm
          subst hm
          have : g.find nulName = (c : Int) := h4
          omega
    · rw [if_neg e] at hm
      exact ⟨ha', hc', p1, p2, m, hm, h3, h4⟩
  have hrch : ∀ j, j < g.rules.length → at2 M' j j = false := fun j hj => by
    cases hx : at2 M' j j
    · rfl
    · exact absurd (tc_mono honce ((hM'.tc j j).1 hx)) (no_tc hM hN hq j hj).1
  have hrnd : ∀ j, j < g.rules.length → at2 N' j j = false := fun j hj => by
    cases hx : at2 N' j j
    · rfl
    · exact absurd (tc_mono hrd ((hN'.tc j j).1 hx)) (no_tc hM hN hq j hj).2
  obtain ⟨T, hT⟩ := rulesTold_split (g.put i (noneNode k g.rules[i].body)) es' (at2 M') (at2 N') (g.put i (noneNode k g.rules[i].body)).rules 0 i (by omega) (fun j hj => by
    have h := fine_calm hM hN hq j (by omega)
    rw [putRule_at g i hi _ j (by omega) (by omega), if_neg (by omega), Nat.zero_add]
    have hc : Calm (g.put i (noneNode k g.rules[i].body)) es' (at2 M') (at2 N') j g.rules[j] :=
      ⟨fun n hn => by rw [noneBad_put]; exact h.none_ n hn, fun n hn => by rw [sortBad_put]; exact h.sorts n hn, hrch j (by omega), hrnd j (by omega), fun n hn => loopBad_put g i _ hle _ n (h.loop_ n hn), fun hx => h.some_ (hle j hx)⟩
    rw [hc.told, if_neg (by rw [find_put, fine_find (by omega) (hq j (by omega))]; omega)])
  have hrule : ∃ T, (g.put i (noneNode k g.rules[i].body)).ruleTold es' (at2 M') (at2 N') i { g.rules[i] with body := noneNode k g.rules[i].body } = ⟨2, i, nulName⟩ :: T := by
    unfold Gr.ruleTold
    rw [if_neg (by rw [find_put]; show ¬ g.find g.rules[i].name < (i : Int); rw [fine_find hi (hq i hi)]; omega), List.nil_append]
    have hn : nodesTold i { g.rules[i] with body := noneNode k g.rules[i].body } 2 (g.put i (noneNode k g.rules[i].body)).noneBad = [⟨2, i, nulName⟩] := by
      unfold nodesTold
      show ((noneNode k g.rules[i].body).all.filter _).map _ = _
      rw [all_none, List.filter_cons_of_neg (by rw [noneBad_put]; unfold Gr.noneBad; simp [noneNode, Nd.isName, Nd.kind]), List.filter_append, List.filter_eq_nil_iff.2 (fun n hn => by rw [noneBad_put, (hq i hi).none_ n hn]; simp), List.nil_append,
        List.filter_cons_of_pos (by
          rw [noneBad_put]
          unfold Gr.noneBad
          have h1 : (Nd.mk k nulName { data := #[] } [] []).isName = true := by rcases hk with rfl | rfl <;> rfl
          rw [h1]
          show decide (g.find nulName < 0) = true
          exact decide_eq_true hx)]
      rfl
    rw [hn]
    exact ⟨_, rfl⟩
  obtain ⟨T2, hT2⟩ := hrule
  rw [putRule_at g i hi _ i (by omega) hi, if_pos rfl, Nat.zero_add, hT2] at hT
  unfold Gr.told
  rw [hT]
  exact ⟨_, rfl⟩

/-- a rule that begins with itself is told -/
theorem told_self {g : Gr} {es : List Bool} {M N : List (List Bool)} (ht : g.told es (at2 M) (at2 N) = []) {i : Nat} (hi : i < g.rules.length)
    {es' : List Bool} {M' N' : List (List Bool)} (hM' : IsReach ((g.put i (selfNode (nameKind g.rules[i]) g.rules[i].name g.rules[i].body)).Once es') g.rules.length M') (hN' : IsReach (g.put i (selfNode (nameKind g.rules[i]) g.rules[i].name g.rules[i].body)).rd0 g.rules.length N') :
    ∃ p ∈ (g.put i (selfNode (nameKind g.rules[i]) g.rules[i].name g.rules[i].body)).told es' (at2 M') (at2 N'), p.rule = (i : Int) ∧ (p.code = 4 ∨ p.code = 5) := by
  have hl := put_length g i (selfNode (nameKind g.rules[i]) g.rules[i].name g.rules[i].body)
  unfold Gr.told at ht
  rw [List.append_eq_nil_iff] at ht
  have hq : Quiet g es (at2 M) (at2 N) i g.rules[i] := quiet_of (by have := rulesTold_at g.rules 0 ht.1 i hi; rwa [Nat.zero_add] at this)
  have hf := fine_find hi hq
  have hat := putRule_at g i hi (selfNode (nameKind g.rules[i]) g.rules[i].name g.rules[i].body) i (by omega) hi
  rw [if_pos rfl] at hat
  have hput : ∀ p, p ∈ (g.put i (selfNode (nameKind g.rules[i]) g.rules[i].name g.rules[i].body)).ruleTold es' (at2 M') (at2 N') i { g.rules[i] with body := selfNode (nameKind g.rules[i]) g.rules[i].name g.rules[i].body } →
      p ∈ (g.put i (selfNode (nameKind g.rules[i]) g.rules[i].name g.rules[i].body)).told es' (at2 M') (at2 N') := fun p hp => by
    unfold Gr.told
    refine List.mem_append_left _ (rulesTold_mem _ _ _ _ p _ 0 i (by omega) ?_)
    rw [hat, Nat.zero_add]
    exact hp
  by_cases hs : g.rules[i].sort = 0
  · have hkk : nameKind g.rules[i] = 5 := by unfold nameKind; rw [if_pos hs]
    have hr : at2 M' i i = true := (hM'.tc i i).2 (.one (by
      unfold Gr.Once
      rw [onceM_at _ _ _ _ (by omega), hat, hl, marks_put]
      show (g.marks es' (Rl.token { g.rules[i] with body := selfNode (nameKind g.rules[i]) g.rules[i].name g.rules[i].body }) (selfNode (nameKind g.rules[i]) g.rules[i].name g.rules[i].body) _).getD i false = true
      rw [hkk]
      unfold selfNode
      have hn : ∀ t, g.named t (.mk 5 g.rules[i].name { data := #[] } [] []) = (i : Int) := fun t => by
        unfold Gr.named
        have h0 : ¬ ((i : Int) < 0) := by omega
        simp only [Nd.name, Nd.kind, hf, h0, if_false, sortAt_nat g i hi, hs]
        simp
      have hx : ∀ t l, g.marks es' t (.mk 5 g.rules[i].name { data := #[] } [] []) l = l.set i true := fun t l => by
        rw [Gr.marks]
        rw [hn]
        simp
      rw [Gr.marks]
      simp only [Gr.marksSeq, hx]
      have hset : ((List.replicate g.rules.length false).set i true).getD i false = true := by rw [getD_set, if_pos ⟨rfl, by simpa using hi⟩]
      simp only [show ((1 : Int) == 1) = true from rfl, if_true]
      split
      · split
        · exact (marks_grow g es' _ _ _).2 i hset
        · exact (marks_grow g es' _ _ _).2 i hset
      · exact hset))
    refine ⟨⟨4, i, g.rules[i].name⟩, hput _ ?_, rfl, .inl rfl⟩
    unfold Gr.ruleTold
    have hp : (Rl.parser { g.rules[i] with body := selfNode (nameKind g.rules[i]) g.rules[i].name g.rules[i].body } && at2 M' i i) = true := by
      rw [hr]
      unfold Rl.parser
      simp [hs]
    rw [if_pos hp]
    simp
  · have hkk : nameKind g.rules[i] = 6 := by unfold nameKind; rw [if_neg hs]
    have hpf : Rl.parser { g.rules[i] with body := selfNode (nameKind g.rules[i]) g.rules[i].name g.rules[i].body } = false := by
      unfold Rl.parser
      simpa using hs
    have hr : at2 N' i i = true := (hN'.tc i i).2 (.one ⟨by omega, by omega, by rw [hat]; exact hpf, by rw [hat]; exact hpf, .mk (nameKind g.rules[i]) g.rules[i].name { data := #[] } [] [], by rw [hat]; exact all_selfN _ _ _, by rw [hkk]; rfl, by rw [find_put]; exact hf⟩)
    refine ⟨⟨5, i, g.rules[i].name⟩, hput _ ?_, rfl, .inr rfl⟩
    unfold Gr.ruleTold
    rw [if_pos hr]
    simp
end Go.Proofs.Ytnopnihdobedcaa
