/- What the loops of Takes keep: a walk's places, what rules take. No program in sight. -/
import Derived.Test.YtgdcnndmdgcjlaaPTake
namespace Go.Proofs.Ytgdcnndmdgcjlaa

/-- pairs up to S and n -/
def prs (S n : Nat) : List (Nat × Nat) := (List.range S).flatMap fun s => (List.range (n + 1)).map fun i => (s, i)
theorem mem_prs {S n s i : Nat} : (s, i) ∈ prs S n ↔ s < S ∧ i ≤ n := by
  unfold prs
  simp only [List.mem_flatMap, List.mem_range, List.mem_map, Prod.mk.injEq]
  constructor
  · rintro ⟨a, ha, b, hb, rfl, rfl⟩; exact ⟨ha, by omega⟩
  · rintro ⟨h1, h2⟩; exact ⟨s, h1, i, by omega, rfl, rfl⟩
theorem prs_len (S n : Nat) : (prs S n).length = S * (n + 1) := by
  unfold prs
  induction S with
  | zero => simp
  | succ S ih => rw [List.range_succ (n := S), List.flatMap_append, List.length_append, ih, Nat.add_mul]; simp
def upd2 (g : Nat → Nat → Bool) (s i : Nat) : Nat → Nat → Bool := fun s' i' => if s' = s ∧ i' = i then true else g s' i'
theorem upd2_same (g : Nat → Nat → Bool) (s i : Nat) : upd2 g s i s i = true := by simp [upd2]
theorem upd2_old {g : Nat → Nat → Bool} {s i s' i' : Nat} (h : g s' i' = true) : upd2 g s i s' i' = true := by unfold upd2; split <;> simp_all
theorem upd2_iff {g : Nat → Nat → Bool} {s i s' i' : Nat} : upd2 g s i s' i' = true ↔ (s' = s ∧ i' = i) ∨ g s' i' = true := by unfold upd2; split <;> simp_all
theorem upd2_ne {g : Nat → Nat → Bool} {s i s' i' : Nat} (h : ¬ (s' = s ∧ i' = i)) : upd2 g s i s' i' = g s' i' := by unfold upd2; rw [if_neg h]
/-- how many are not yet there -/
def cntF (S n : Nat) (g : Nat → Nat → Bool) : Nat := ((prs S n).filter fun p => !g p.1 p.2).length
theorem cntF_upd {S n s i : Nat} {g : Nat → Nat → Bool} (hs : s < S) (hi : i ≤ n) (h : g s i = false) : cntF S n (upd2 g s i) < cntF S n g := by
  unfold cntF
  refine filter_lt (fun x _ hx => ?_) (y := (s, i)) (mem_prs.2 ⟨hs, hi⟩) (by simp [h]) (by simp [upd2_same])
  simp only [Bool.not_eq_true'] at hx ⊢
  cases hg : g x.1 x.2
  · rfl
  · rw [upd2_old hg] at hx; cases hx
theorem cntF_le (S n : Nat) (g : Nat → Nat → Bool) : cntF S n g ≤ S * (n + 1) := by
  unfold cntF
  rw [← prs_len]
  exact List.length_filter_le _ _

/-! ### a walk -/
structure WEnv where
  N : Net
  w : List Int
  E : Nat → Nat → Nat → Bool
  A : Nat → Nat → Bool
  p0 : Pl
  over : Int
namespace WEnv
def n (V : WEnv) : Nat := V.w.length
def S (V : WEnv) : Nat := V.N.states.length
def P (V : WEnv) (r i j : Nat) : Prop := V.E r i j = true
def Q (V : WEnv) (r i : Nat) : Prop := V.A r i = true
def wk (V : WEnv) (p : Pl) : Prop := Wk V.N V.w V.P V.p0 V.over p
def wall (V : WEnv) : Prop := WkAll V.N V.w V.P V.Q V.p0 V.over
end WEnv
structure WS (V : WEnv) (g : Nat → Nat → Bool) (all : Bool) : Prop where
  base : g V.p0.1 V.p0.2 = true
  snd : ∀ s i, g s i = true → V.wk (s, i)
  all0 : V.p0.2 = V.n → all = true
  allS : all = true → V.wall
/-- an edge from a place is closed -/
def Cl (V : WEnv) (g : Nat → Nat → Bool) (all : Bool) (s i : Nat) (e : Edg) : Prop :=
  g s i = true → (e.kind = 2 → (∀ j, j ≤ V.n → V.E e.what.toNat i j = true → g e.to.toNat j = true) ∧ (V.A e.what.toNat i = true → all = true)) ∧
    (e.kind = 1 → V.w[i]? = some e.what → g e.to.toNat (i + 1) = true) ∧ (e.kind ≠ 2 → e.kind ≠ 1 → g e.to.toNat i = true)
/-- all edges up to here are closed -/
def ClTo (V : WEnv) (g : Nat → Nat → Bool) (all : Bool) (s k i : Nat) : Prop :=
  ∀ (s' k' i' : Nat) e, (s' : Int) ≠ V.over → (V.N.edges s')[k']? = some e → i' ≤ V.n → (s' < s ∨ s' = s ∧ (k' < k ∨ k' = k ∧ i' < i)) → Cl V g all s' i' e
section
variable {V : WEnv} {g : Nat → Nat → Bool} {all : Bool}
theorem ClTo.zero : ClTo V g all 0 0 0 := fun s' k' i' e _ _ _ h => by omega
theorem ClTo.place {s k i : Nat} {e : Edg} (h : ClTo V g all s k i) (he : (V.N.edges s)[k]? = some e) (hc : Cl V g all s i e) : ClTo V g all s k (i + 1) := by
  intro s' k' i' e' hg he' hi' hl
  by_cases hx : s' = s ∧ k' = k ∧ i' = i
  · obtain ⟨rfl, rfl, rfl⟩ := hx
    rw [he] at he'
    cases he'
    exact hc
  · exact h s' k' i' e' hg he' hi' (by omega)
theorem ClTo.edge {s k : Nat} (h : ClTo V g all s k (V.n + 1)) : ClTo V g all s (k + 1) 0 := by
  intro s' k' i' e' hg he' hi' hl
  exact h s' k' i' e' hg he' hi' (by omega)
theorem ClTo.state {s : Nat} (h : ClTo V g all s (V.N.edges s).length 0) : ClTo V g all (s + 1) 0 0 := by
  intro s' k' i' e' hg he' hi' hl
  have := (List.getElem?_eq_some_iff.1 he').1
  by_cases hx : s' = s
  · subst hx; exact h s' k' i' e' hg he' hi' (by omega)
  · exact h s' k' i' e' hg he' hi' (by omega)
theorem ClTo.over {s : Nat} (h : ClTo V g all s 0 0) (ho : (s : Int) = V.over) : ClTo V g all (s + 1) 0 0 := by
  intro s' k' i' e' hg he' hi' hl
  by_cases hx : s' = s
  · subst hx; exact absurd ho hg
  · exact h s' k' i' e' hg he' hi' (by omega)
theorem ClTo.allUp {s k i : Nat} {b : Bool} (h : ClTo V g all s k i) (hb : all = true → b = true) : ClTo V g b s k i := by
  intro s' k' i' e' hg he' hi' hl hgs
  obtain ⟨h1, h2, h3⟩ := h s' k' i' e' hg he' hi' hl hgs
  exact ⟨fun hk => ⟨(h1 hk).1, fun ha => hb ((h1 hk).2 ha)⟩, h2, h3⟩
/-- a walk is no more than the net and the tokens -/
theorem wk_range (hN : V.N.Ok) (hE : ∀ r i j, V.E r i j = true → j ≤ V.n) (h0 : V.p0.1 < V.S ∧ V.p0.2 ≤ V.n) {p : Pl} (h : V.wk p) : p.1 < V.S ∧ p.2 ≤ V.n := by
  unfold WEnv.wk at h
  induction h with
  | root => exact h0
  | eps h hg he hk hk' ih => exact ⟨(hN.edge _ _ he).1.2, ih.2⟩
  | tok h hg he hk hw ih => exact ⟨(hN.edge _ _ he).1.2, (List.getElem?_eq_some_iff.1 hw).1⟩
  | rule h hg he hk hc ih => exact ⟨(hN.edge _ _ he).1.2, hE _ _ _ hc⟩
/-- closed throughout: all is there -/
theorem WS.full (h : WS V g all) (hN : V.N.Ok) (hE : ∀ r i j, V.E r i j = true → j ≤ V.n) (h0 : V.p0.1 < V.S ∧ V.p0.2 ≤ V.n) (hc : ClTo V g all V.S 0 0) : (∀ s i, g s i = true ↔ V.wk (s, i)) ∧
    ((all = true ∨ ∃ s, s < V.S ∧ g s V.n = true) ↔ V.wall) := by
  have key : ∀ p, V.wk p → g p.1 p.2 = true := by
    intro p hp
    unfold WEnv.wk at hp
    induction hp with
    | root => exact h.base
    | @eps s i e h' hg he hk hk' ih =>
      have hr := wk_range hN hE h0 h'
      obtain ⟨k, hk2, hke⟩ := List.getElem_of_mem he
      exact (hc s k i e hg (by rw [List.getElem?_eq_getElem hk2, hke]) hr.2 (.inl hr.1) ih).2.2 hk hk'
    | @tok s i e h' hg he hk hw ih =>
      have hr := wk_range hN hE h0 h'
      obtain ⟨k, hk2, hke⟩ := List.getElem_of_mem he
      exact (hc s k i e hg (by rw [List.getElem?_eq_getElem hk2, hke]) hr.2 (.inl hr.1) ih).2.1 hk hw
    | @rule s i j e h' hg he hk hc' ih =>
      have hr := wk_range hN hE h0 h'
      obtain ⟨k, hk2, hke⟩ := List.getElem_of_mem he
      exact ((hc s k i e hg (by rw [List.getElem?_eq_getElem hk2, hke]) hr.2 (.inl hr.1) ih).1 hk).1 j (hE _ _ _ hc') hc'
  refine ⟨fun s i => ⟨h.snd s i, key (s, i)⟩, ⟨?_, ?_⟩⟩
  · rintro (ha | ⟨s, hs, hg⟩)
    · exact h.allS ha
    · exact .inl ⟨(s, V.n), h.snd _ _ hg, rfl⟩
  · rintro (⟨p, hp, hl⟩ | ⟨s, i, e, h1, h2, h3, h4, h5⟩)
    · refine .inr ⟨p.1, (wk_range hN hE h0 hp).1, ?_⟩
      have := key p hp
      rw [hl] at this
      exact this
    · have hr := wk_range hN hE h0 h1
      obtain ⟨k, hk2, hke⟩ := List.getElem_of_mem h3
      exact .inl (((hc s k i e h2 (by rw [List.getElem?_eq_getElem hk2, hke]) hr.2 (.inl hr.1) (key _ h1)).1 h4).2 h5)

theorem WS.start (V : WEnv) {a0 : Bool} (ha : ((V.p0.2 : Int) == (V.n : Int)) = a0) : WS V (upd2 (fun _ _ => false) V.p0.1 V.p0.2) a0 := by
  have hr : V.wk V.p0 := .root
  refine ⟨upd2_same _ _ _, fun s i h => ?_, fun h => ?_, fun h => ?_⟩
  · rcases upd2_iff.1 h with ⟨rfl, rfl⟩ | h
    · exact hr
    · cases h
  · rw [← ha, h]; simp
  · rw [h] at ha
    have h2 : (V.p0.2 : Int) = (V.n : Int) := eq_of_beq ha
    exact .inl ⟨V.p0, hr, by unfold WEnv.n at h2; omega⟩
/-- where the loops are: in a round that began with c0 missing -/
structure WR (V : WEnv) (c0 : Nat) (g : Nat → Nat → Bool) (all changed : Bool) (s k i : Nat) : Prop where
  ws : WS V g all
  le : cntF V.S V.n g ≤ c0
  lt : changed = true → cntF V.S V.n g < c0
  cl : changed = false → ClTo V g all s k i
theorem WR.begin (h : WS V g all) : WR V (cntF V.S V.n g) g all false 0 0 0 := ⟨h, Nat.le_refl _, fun h => by (cases h), fun _ => .zero⟩
variable {c0 : Nat} {changed : Bool}
theorem WR.over {s : Nat} (h : WR V c0 g all changed s 0 0) (ho : (s : Int) = V.over) : WR V c0 g all changed (s + 1) 0 0 := ⟨h.ws, h.le, h.lt, fun hc => (h.cl hc).over ho⟩
theorem WR.state {s : Nat} (h : WR V c0 g all changed s (V.N.edges s).length 0) : WR V c0 g all changed (s + 1) 0 0 := ⟨h.ws, h.le, h.lt, fun hc => (h.cl hc).state⟩
theorem WR.edge {s k : Nat} (h : WR V c0 g all changed s k (V.n + 1)) : WR V c0 g all changed s (k + 1) 0 := ⟨h.ws, h.le, h.lt, fun hc => (h.cl hc).edge⟩
theorem WR.none {s k i : Nat} {e : Edg} (h : WR V c0 g all changed s k i) (he : (V.N.edges s)[k]? = some e) (hg : g s i = false) : WR V c0 g all changed s k (i + 1) :=
  ⟨h.ws, h.le, h.lt, fun hc => (h.cl hc).place he fun ht => by rw [hg] at ht; cases ht⟩

/-- in the innermost loop: nx is what is to be there -/
structure WJ (V : WEnv) (c0 : Nat) (nx : Nat → Bool) (t : Nat) (g : Nat → Nat → Bool) (all changed : Bool) (s k i j : Nat) : Prop where
  wr : WR V c0 g all changed s k i
  at_ : g s i = true
  nxS : ∀ j, j ≤ V.n → nx j = true → V.wk (t, j)
  got : changed = false → ∀ j', j' < j → nx j' = true → g t j' = true
variable {nx : Nat → Bool} {t s k i j : Nat}
theorem WJ.skip (h : WJ V c0 nx t g all changed s k i j) (hn : nx j = false) : WJ V c0 nx t g all changed s k i (j + 1) :=
  ⟨h.wr, h.at_, h.nxS, fun hc j' hj hx => by
    by_cases e : j' = j
    · subst e; rw [hn] at hx; cases hx
    · exact h.got hc j' (by omega) hx⟩
theorem WJ.there (h : WJ V c0 nx t g all changed s k i j) (hn : g t j = true) : WJ V c0 nx t g all changed s k i (j + 1) :=
  ⟨h.wr, h.at_, h.nxS, fun hc j' hj hx => by
    by_cases e : j' = j
    · subst e; exact hn
    · exact h.got hc j' (by omega) hx⟩
theorem WJ.new (h : WJ V c0 nx t g all changed s k i j) (ht : t < V.S) (hj : j ≤ V.n) (hn : nx j = true) (hg : g t j = false) : WJ V c0 nx t (upd2 g t j) all true s k i (j + 1) := by
  have hl := cntF_upd (n := V.n) ht hj hg
  refine ⟨⟨⟨upd2_old h.wr.ws.base, fun s' i' hg' => ?_, h.wr.ws.all0, h.wr.ws.allS⟩, ?_, fun _ => ?_, fun hc => by cases hc⟩, upd2_old h.at_, h.nxS, fun hc => by cases hc⟩
  · rcases upd2_iff.1 hg' with ⟨rfl, rfl⟩ | hg'
    · exact h.nxS _ hj hn
    · exact h.wr.ws.snd _ _ hg'
  · have := h.wr.le; omega
  · have := h.wr.le; omega
/-- all of it is there -/
theorem WJ.place (h : WJ V c0 nx t g all changed s k i (V.n + 1)) {e : Edg} (he : (V.N.edges s)[k]? = some e) (ht : e.to.toNat = t)
    (h2 : e.kind = 2 → (∀ j, j ≤ V.n → V.E e.what.toNat i j = true → nx j = true) ∧ (V.A e.what.toNat i = true → all = true))
    (h1 : e.kind = 1 → V.w[i]? = some e.what → nx (i + 1) = true) (h0 : e.kind ≠ 2 → e.kind ≠ 1 → i ≤ V.n → nx i = true) (hi : i ≤ V.n) : WR V c0 g all changed s k (i + 1) := by
  subst ht
  refine ⟨h.wr.ws, h.wr.le, h.wr.lt, fun hc => (h.wr.cl hc).place he fun _ => ⟨fun hk => ⟨fun j hj hx => h.got hc j (by omega) ((h2 hk).1 j hj hx), (h2 hk).2⟩, fun hk hw => ?_, fun hk hk' => h.got hc i (by omega) (h0 hk hk' hi)⟩⟩
  have := (List.getElem?_eq_some_iff.1 hw).1
  exact h.got hc (i + 1) (by unfold WEnv.n; omega) (h1 hk hw)
/-- what is to be there behind an edge -/
def NxOk (V : WEnv) (e : Edg) (i : Nat) (nx : Nat → Bool) (a : Bool) : Prop :=
  (e.kind = 2 → (∀ j, j ≤ V.n → V.E e.what.toNat i j = true → nx j = true) ∧ (V.A e.what.toNat i = true → a = true)) ∧ (e.kind = 1 → V.w[i]? = some e.what → nx (i + 1) = true) ∧ (e.kind ≠ 2 → e.kind ≠ 1 → i ≤ V.n → nx i = true)
theorem WR.inner (h : WR V c0 g all changed s k i) (hg : g s i = true) (hx : ∀ j, j ≤ V.n → nx j = true → V.wk (t, j)) : WJ V c0 nx t g all changed s k i 0 := ⟨h, hg, hx, fun _ j' hj => by omega⟩
/-- whether all are taken may be told at a rule's edge -/
theorem WR.told (h : WR V c0 g all changed s k i) {e : Edg} (he : e ∈ V.N.edges s) (hk : e.kind = 2) (hg : g s i = true) (ho : (s : Int) ≠ V.over) : WR V c0 g (all || V.A e.what.toNat i) changed s k i := by
  refine ⟨⟨h.ws.base, h.ws.snd, fun h0 => by rw [h.ws.all0 h0]; rfl, fun ha => ?_⟩, h.le, h.lt, fun hc => (h.cl hc).allUp fun ha => by rw [ha]; rfl⟩
  rcases Bool.or_eq_true _ _ ▸ ha with ha | ha
  · exact h.ws.allS ha
  · exact .inr ⟨s, i, e, h.ws.snd _ _ hg, ho, he, hk, ha⟩
end

/-! ### what rules take -/
structure OEnv where
  N : Net
  w : List Int
namespace OEnv
def n (O : OEnv) : Nat := O.w.length
def R (O : OEnv) : Nat := O.N.starts.length
def env (O : OEnv) (E : Nat → Nat → Nat → Bool) (A : Nat → Nat → Bool) (r i : Nat) : WEnv := ⟨O.N, O.w, E, A, (O.N.start r, i), -1⟩
end OEnv
def upd3 (E : Nat → Nat → Nat → Bool) (r i j : Nat) : Nat → Nat → Nat → Bool := fun r' i' j' => if r' = r ∧ i' = i ∧ j' = j then true else E r' i' j'
theorem upd3_same (E : Nat → Nat → Nat → Bool) (r i j : Nat) : upd3 E r i j r i j = true := by simp [upd3]
theorem upd3_old {E : Nat → Nat → Nat → Bool} {r i j r' i' j' : Nat} (h : E r' i' j' = true) : upd3 E r i j r' i' j' = true := by unfold upd3; split <;> simp_all
theorem upd3_iff {E : Nat → Nat → Nat → Bool} {r i j r' i' j' : Nat} : upd3 E r i j r' i' j' = true ↔ (r' = r ∧ i' = i ∧ j' = j) ∨ E r' i' j' = true := by unfold upd3; split <;> simp_all
def trs (R n : Nat) : List ((Nat × Nat) × Nat) := (prs R n).flatMap fun p => (List.range (n + 1)).map fun j => (p, j)
theorem mem_trs {R n r i j : Nat} : ((r, i), j) ∈ trs R n ↔ r < R ∧ i ≤ n ∧ j ≤ n := by
  unfold trs
  simp only [List.mem_flatMap, List.mem_range, List.mem_map, Prod.mk.injEq]
  constructor
  · rintro ⟨a, ha, b, hb, rfl, rfl⟩; have := mem_prs.1 ha; exact ⟨this.1, this.2, by omega⟩
  · rintro ⟨h1, h2, h3⟩; exact ⟨(r, i), mem_prs.2 ⟨h1, h2⟩, j, by omega, rfl, rfl⟩
def cntE (R n : Nat) (E : Nat → Nat → Nat → Bool) : Nat := ((trs R n).filter fun p => !E p.1.1 p.1.2 p.2).length
theorem cntE_upd {R n r i j : Nat} {E : Nat → Nat → Nat → Bool} (hr : r < R) (hi : i ≤ n) (hj : j ≤ n) (h : E r i j = false) : cntE R n (upd3 E r i j) < cntE R n E := by
  unfold cntE
  refine filter_lt (fun x _ hx => ?_) (y := ((r, i), j)) (mem_trs.2 ⟨hr, hi, hj⟩) (by simp [h]) (by simp [upd3_same])
  simp only [Bool.not_eq_true'] at hx ⊢
  cases hg : E x.1.1 x.1.2 x.2
  · rfl
  · rw [upd3_old hg] at hx; cases hx

structure OS (O : OEnv) (E : Nat → Nat → Nat → Bool) (A : Nat → Nat → Bool) : Prop where
  e : ∀ r i j, E r i j = true → TgE O.N O.w r i j ∧ r < O.R ∧ i ≤ O.n ∧ j ≤ O.n
  a : ∀ r i, A r i = true → AgP O.N O.w r i
def OCl (O : OEnv) (E : Nat → Nat → Nat → Bool) (A : Nat → Nat → Bool) (r i : Nat) : Prop :=
  (∀ j, j ≤ O.n → (O.env E A r i).wk (O.N.stop r, j) → E r i j = true) ∧ ((O.env E A r i).wall → A r i = true)
def OClTo (O : OEnv) (E : Nat → Nat → Nat → Bool) (A : Nat → Nat → Bool) (r i : Nat) : Prop := ∀ r' i' : Nat, i' ≤ O.n → (r' < r ∨ r' = r ∧ i' < i) → OCl O E A r' i'
structure OR (O : OEnv) (c0 : Nat) (E : Nat → Nat → Nat → Bool) (A : Nat → Nat → Bool) (changed : Bool) (r i : Nat) : Prop where
  os : OS O E A
  le : cntE O.R O.n E + cntF O.R O.n A ≤ c0
  lt : changed = true → cntE O.R O.n E + cntF O.R O.n A < c0
  cl : changed = false → OClTo O E A r i
section
variable {O : OEnv} {E : Nat → Nat → Nat → Bool} {A : Nat → Nat → Bool} {c0 : Nat} {changed : Bool} {r i j : Nat}
theorem OR.begin (h : OS O E A) : OR O (cntE O.R O.n E + cntF O.R O.n A) E A false 0 0 := ⟨h, Nat.le_refl _, fun h => by (cases h), fun _ r' i' _ h => by omega⟩
theorem OR.row (h : OR O c0 E A changed r (O.n + 1)) : OR O c0 E A changed (r + 1) 0 := ⟨h.os, h.le, h.lt, fun hc r' i' hi hl => h.cl hc r' i' hi (by omega)⟩
theorem OS.up (h : OS O E A) : ∀ r i j, (fun r i j => E r i j = true) r i j → TgE O.N O.w r i j := fun r i j hx => (h.e r i j hx).1
theorem OS.tg (h : OS O E A) {p : Pl} (hw : (O.env E A r i).wk p) : Tg O.N O.w (r, i) p := Wk.tg (c := (r, i)) (Wk.mono (fun r i j hx => (h.e r i j hx).1) hw)
theorem OS.ag (h : OS O E A) (hw : (O.env E A r i).wall) : AgP O.N O.w r i := WkAll.ag (c := (r, i)) (WkAll.mono (fun r i j hx => (h.e r i j hx).1) (fun r i hx => h.a r i hx) hw)

/-- behind a walk with what rules took then (E0, A0): its ends are told -/
structure OJ (O : OEnv) (c0 : Nat) (g : Nat → Bool) (E : Nat → Nat → Nat → Bool) (A : Nat → Nat → Bool) (changed : Bool) (r i j : Nat) : Prop where
  or : OR O c0 E A changed r i
  tg : ∀ j, g j = true → Tg O.N O.w (r, i) (O.N.stop r, j)
  wk : changed = false → ∀ j, (O.env E A r i).wk (O.N.stop r, j) → g j = true
  al : changed = false → (O.env E A r i).wall → A r i = true
  got : changed = false → ∀ j', j' < j → g j' = true → E r i j' = true
variable {g : Nat → Bool}
/-- the walk is done: what it tells of all -/
theorem OR.walked (h : OR O c0 E A changed r i) (hr : r < O.R) (hi : i ≤ O.n) {all : Bool} (hg : ∀ j, g j = true ↔ (O.env E A r i).wk (O.N.stop r, j)) (ha : all = true ↔ (O.env E A r i).wall) :
    (all = false ∨ A r i = true → OJ O c0 g E A changed r i 0) ∧ (all = true → A r i = false → OJ O c0 g E (upd2 A r i) true r i 0) := by
  refine ⟨fun hx => ⟨h, fun j hj => h.os.tg ((hg j).1 hj), fun _ j hj => (hg j).2 hj, fun _ hw => ?_, fun _ j' hj => by omega⟩, fun h1 h2 => ?_⟩
  · rcases hx with hx | hx
    · rw [ha.2 hw] at hx; cases hx
    · exact hx
  · have hl := cntF_upd (n := O.n) hr hi h2
    have hle := h.le
    refine ⟨⟨⟨h.os.e, fun r' i' hA => ?_⟩, by omega, fun _ => by omega, fun hc => by cases hc⟩, fun j hj => h.os.tg ((hg j).1 hj), fun hc => by (cases hc), fun hc => by (cases hc), fun hc => by cases hc⟩
    rcases upd2_iff.1 hA with ⟨rfl, rfl⟩ | hA
    · exact h.os.ag (ha.1 h1)
    · exact h.os.a _ _ hA
theorem OJ.skip (h : OJ O c0 g E A changed r i j) (hx : g j = false ∨ E r i j = true) : OJ O c0 g E A changed r i (j + 1) :=
  ⟨h.or, h.tg, h.wk, h.al, fun hc j' hj hg => by
    by_cases e : j' = j
    · subst e
      rcases hx with hx | hx
      · rw [hx] at hg; cases hg
      · exact hx
    · exact h.got hc j' (by omega) hg⟩
theorem OJ.new (h : OJ O c0 g E A changed r i j) (hr : r < O.R) (hi : i ≤ O.n) (hj : j ≤ O.n) (hg : g j = true) (hx : E r i j = false) : OJ O c0 g (upd3 E r i j) A true r i (j + 1) := by
  have hl := cntE_upd (n := O.n) hr hi hj hx
  have hle := h.or.le
  refine ⟨⟨⟨fun r' i' j' hE => ?_, h.or.os.a⟩, by omega, fun _ => by omega, fun hc => by cases hc⟩, h.tg, fun hc => by (cases hc), fun hc => by (cases hc), fun hc => by cases hc⟩
  rcases upd3_iff.1 hE with ⟨rfl, rfl, rfl⟩ | hE
  · exact ⟨h.tg _ hg, hr, hi, hj⟩
  · exact h.or.os.e _ _ _ hE
theorem OJ.place (h : OJ O c0 g E A changed r i (O.n + 1)) : OR O c0 E A changed r (i + 1) :=
  ⟨h.or.os, h.or.le, h.or.lt, fun hc r' i' hi hl => by
    by_cases hx : r' = r ∧ i' = i
    · obtain ⟨rfl, rfl⟩ := hx
      exact ⟨fun j hj hw => h.got hc j (by omega) (h.wk hc j hw), h.al hc⟩
    · exact h.or.cl hc r' i' hi (by omega)⟩
/-- a walk by what was found is one by what is taken -/
theorem wk_found (hN : O.N.Ok) (hS : OS O E A) (hE : ∀ r i j, r < O.R → i ≤ O.n → (E r i j = true ↔ TgE O.N O.w r i j)) {p0 p : Pl} {over : Int} (h0 : p0.2 ≤ O.n) : Wk O.N O.w (fun r i j => E r i j = true) p0 over p ↔ Wk O.N O.w (TgE O.N O.w) p0 over p := by
  constructor
  · exact fun h => h.mono fun r i j hx => (hS.e r i j hx).1
  · intro h
    have : Wk O.N O.w (fun r i j => E r i j = true) p0 over p ∧ p.2 ≤ O.n := by
      induction h with
      | root => exact ⟨.root, h0⟩
      | eps h hg he hk hk' ih => exact ⟨.eps ih.1 hg he hk hk', ih.2⟩
      | tok h hg he hk hw ih => exact ⟨.tok ih.1 hg he hk hw, (List.getElem?_eq_some_iff.1 hw).1⟩
      | @rule s i j e h hg he hk hc ih => exact ⟨.rule ih.1 hg he hk ((hE _ _ _ ((hN.edge _ _ he).2.2 hk) ih.2).2 hc), (Tg.most (p := (O.N.stop e.what.toNat, j)) hc ih.2 : j ≤ _)⟩
    exact this.1
theorem wkAll_found (hN : O.N.Ok) (hS : OS O E A) (hE : ∀ r i j, r < O.R → i ≤ O.n → (E r i j = true ↔ TgE O.N O.w r i j)) (hA : ∀ r i, r < O.R → i ≤ O.n → (A r i = true ↔ AgP O.N O.w r i)) {p0 : Pl} {over : Int} (h0 : p0.2 ≤ O.n) :
    WkAll O.N O.w (fun r i j => E r i j = true) (fun r i => A r i = true) p0 over ↔ WkAll O.N O.w (TgE O.N O.w) (AgP O.N O.w) p0 over := by
  have most : ∀ {p : Pl}, Wk O.N O.w (TgE O.N O.w) p0 over p → p.2 ≤ O.n := by
    intro p h
    induction h with
    | root => exact h0
    | eps h hg he hk hk' ih => exact ih
    | tok h hg he hk hw ih => exact (List.getElem?_eq_some_iff.1 hw).1
    | @rule s i j e h hg he hk hc ih => exact (Tg.most (p := (O.N.stop e.what.toNat, j)) hc ih : j ≤ _)
  constructor
  · rintro (⟨p, h1, h2⟩ | ⟨s, i, e, h1, h2, h3, h4, h5⟩)
    · exact .inl ⟨p, (wk_found hN hS hE h0).1 h1, h2⟩
    · exact .inr ⟨s, i, e, (wk_found hN hS hE h0).1 h1, h2, h3, h4, hS.a _ _ h5⟩
  · rintro (⟨p, h1, h2⟩ | ⟨s, i, e, h1, h2, h3, h4, h5⟩)
    · exact .inl ⟨p, (wk_found hN hS hE h0).2 h1, h2⟩
    · exact .inr ⟨s, i, e, (wk_found hN hS hE h0).2 h1, h2, h3, h4, (hA _ _ ((hN.edge _ _ h3).2.2 h4) (most h1)).2 h5⟩
/-- nothing grows any more: it is what is taken -/
theorem OR.full (h : OR O c0 E A false O.R 0) (hN : O.N.Ok) : (∀ r i j, r < O.R → i ≤ O.n → (E r i j = true ↔ TgE O.N O.w r i j)) ∧ ∀ r i, r < O.R → i ≤ O.n → (A r i = true ↔ AgP O.N O.w r i) := by
  have hE : ∀ r i j, r < O.N.starts.length → i ≤ O.w.length → j ≤ O.w.length → Wk O.N O.w (fun r i j => E r i j = true) (O.N.start r, i) (-1) (O.N.stop r, j) → E r i j = true := fun r i j hr hi hj hw => (h.cl rfl r i hi (.inl hr)).1 j hj hw
  have hA : ∀ r i, r < O.N.starts.length → i ≤ O.w.length → WkAll O.N O.w (fun r i j => E r i j = true) (fun r i => A r i = true) (O.N.start r, i) (-1) → A r i = true := fun r i hr hi hw => (h.cl rfl r i hi (.inl hr)).2 hw
  refine ⟨fun r i j hr hi => ⟨fun hx => (h.os.e r i j hx).1, fun hx => ?_⟩, fun r i hr hi => ⟨fun hx => h.os.a r i hx, fun hx => ?_⟩⟩
  · have hj : j ≤ O.w.length := Tg.most hx hi
    exact hE r i j hr hi hj (Tg.wk hN hE hx hi)
  · exact hA r i hr hi (Ag.wk hN hE hA hx hi)
end
end Go.Proofs.Ytgdcnndmdgcjlaa
