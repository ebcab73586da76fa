/- What is reached from rule to rule: rounds over those that lie between. No program in sight. -/
import Derived.Lib.Hide
import Derived.Test.YtkinlcichclnkaaDoorQO11
namespace Go.Proofs.YtkinlcichclnkaaDoor
open Go.RowKit

def at2 (M : List (List Bool)) (i k : Nat) : Bool := (M.getD i []).getD k false
def set2 (M : List (List Bool)) (i k : Nat) (b : Bool) : List (List Bool) := M.set i ((M.getD i []).set k b)

/-- reached, by so many steps as there are -/
inductive Tc (O : Nat → Nat → Prop) : Nat → Nat → Prop
  | one {i k : Nat} (h : O i k) : Tc O i k
  | more {i j k : Nat} (h : O i j) (t : Tc O j k) : Tc O i k
theorem Tc.trans {O : Nat → Nat → Prop} {i j k : Nat} (h : Tc O i j) (t : Tc O j k) : Tc O i k := by
  induction h with
  | one h => exact .more h t
  | more h _ ih => exact .more h (ih t)

/-- reached, by way of those below b -/
def Via (O : Nat → Nat → Prop) : Nat → Nat → Nat → Prop
  | 0, i, k => O i k
  | b + 1, i, k => Via O b i k ∨ (Via O b i b ∧ Via O b b k)
theorem Via.once {O : Nat → Nat → Prop} : ∀ (b : Nat) {i k : Nat}, O i k → Via O b i k
  | 0, _, _, h => h
  | b + 1, _, _, h => .inl (Via.once b h)
theorem Via.trans {O : Nat → Nat → Prop} : ∀ (b : Nat) {i j k : Nat}, j < b → Via O b i j → Via O b j k → Via O b i k
  | 0, _, _, _, h, _, _ => absurd h (by omega)
  | b + 1, i, j, k, hj, h1, h2 => by
    by_cases e : j = b
    · subst e
      have a : Via O j i j := h1.elim id (·.1)
      have c : Via O j j k := h2.elim id (·.2)
      exact .inr ⟨a, c⟩
    · have hlt : j < b := by omega
      rcases h1 with h1 | ⟨h1, h1'⟩ <;> rcases h2 with h2 | ⟨h2, h2'⟩
      · exact .inl (Via.trans b hlt h1 h2)
      · exact .inr ⟨Via.trans b hlt h1 h2, h2'⟩
      · exact .inr ⟨h1, Via.trans b hlt h1' h2⟩
      · exact .inr ⟨h1, h2'⟩
theorem Via.of_tc {O : Nat → Nat → Prop} {n : Nat} (hO : ∀ i k, O i k → k < n) {i k : Nat} (h : Tc O i k) : Via O n i k := by
  induction h with
  | one h => exact Via.once n h
  | more h _ ih => exact Via.trans n (hO _ _ h) (Via.once n h) ih

/-- a square of bools -/
def Square (n : Nat) (M : List (List Bool)) : Prop := M.length = n ∧ ∀ i (h : i < M.length), M[i].length = n
theorem Square.set {n : Nat} {M : List (List Bool)} (h : Square n M) (i k : Nat) (b : Bool) : Square n (set2 M i k b) := by
  unfold set2
  refine ⟨by simp [h.1], fun j hj => ?_⟩
  rw [List.getElem_set]
  have hj' : j < M.length := by simpa using hj
  split
  · rename_i e
    subst e
    simp [List.getD_eq_getElem?_getD, hj', h.2 i hj']
  · exact h.2 j hj'
theorem at2_set {n : Nat} {M : List (List Bool)} (h : Square n M) {i k : Nat} (hi : i < n) (hk : k < n) (b : Bool) (i' k' : Nat) : at2 (set2 M i k b) i' k' = if i' = i ∧ k' = k then b else at2 M i' k' := by
  have hi' : i < M.length := by rw [h.1]; exact hi
  have hk' : k < M[i].length := by rw [h.2 i hi']; exact hk
  unfold at2 set2
  by_cases e : i' = i
  · subst e
    simp only [List.getD_eq_getElem?_getD, List.getElem?_set_self hi', Option.getD_some, List.getElem?_eq_getElem hi', true_and]
    by_cases e2 : k' = k
    · subst e2
      simp [hk']
    · rw [List.getElem?_set_ne (fun x => e2 x.symm)]
      simp [e2]
  · simp only [List.getD_eq_getElem?_getD, List.getElem?_set_ne (fun x => e x.symm)]
    simp [e]

/-- between rounds, and within one: all below (i, k) are done -/
def Round (O : Nat → Nat → Prop) (n : Nat) (M : List (List Bool)) (by_ i k : Nat) : Prop :=
  Square n M ∧ (∀ a b, at2 M a b = true → Tc O a b) ∧ (∀ a b, a < n → b < n → Via O by_ a b → at2 M a b = true) ∧
    ∀ a b, a < n → b < n → (a < i ∨ (a = i ∧ b < k)) → Via O (by_ + 1) a b → at2 M a b = true

theorem Round.step {O : Nat → Nat → Prop} {n : Nat} {M : List (List Bool)} {by_ i k : Nat} (h : Round O n M by_ i k) (hb : by_ < n) (hi : i < n) (hk : k < n) :
    Round O n (set2 M i k (at2 M i k || (at2 M i by_ && at2 M by_ k))) by_ i (k + 1) := by
  obtain ⟨h1, h2, h3, h4⟩ := h
  have hs := at2_set h1 hi hk (at2 M i k || (at2 M i by_ && at2 M by_ k))
  refine ⟨h1.set i k _, fun a b hab => ?_, fun a b ha hb' hv => ?_, fun a b ha hb' hd hv => ?_⟩
  · rw [hs] at hab
    split at hab
    · rename_i e
      obtain ⟨rfl, rfl⟩ := e
      simp only [Bool.or_eq_true, Bool.and_eq_true] at hab
      rcases hab with hab | ⟨hab, hab'⟩
      · exact h2 _ _ hab
      · exact (h2 _ _ hab).trans (h2 _ _ hab')
    · exact h2 _ _ hab
  · rw [hs]
    have := h3 a b ha hb' hv
    split
    · rename_i e; obtain ⟨rfl, rfl⟩ := e; rw [this]; rfl
    · exact this
  · rw [hs]
    split
    · rename_i e
      obtain ⟨rfl, rfl⟩ := e
      rcases hv with hv | ⟨hv, hv'⟩
      · rw [h3 _ _ ha hb' hv]; rfl
      · rw [h3 _ _ ha hb hv, h3 _ _ hb hb' hv']; simp
    · rename_i e
      refine h4 a b ha hb' ?_ hv
      rcases hd with hd | ⟨hd, hd'⟩
      · exact .inl hd
      · refine .inr ⟨hd, ?_⟩
        have : b ≠ k := fun x => e ⟨hd, x⟩
        omega
theorem Round.row {O : Nat → Nat → Prop} {n : Nat} {M : List (List Bool)} {by_ i : Nat} (h : Round O n M by_ i n) : Round O n M by_ (i + 1) 0 :=
  ⟨h.1, h.2.1, h.2.2.1, fun a b ha hb hd hv => h.2.2.2 a b ha hb (by omega) hv⟩
theorem Round.next {O : Nat → Nat → Prop} {n : Nat} {M : List (List Bool)} {by_ : Nat} (h : Round O n M by_ n 0) : Round O n M (by_ + 1) 0 0 :=
  ⟨h.1, h.2.1, fun a b ha hb hv => h.2.2.2 a b ha hb (by omega) hv, fun a b _ _ hd => absurd hd (by omega)⟩
theorem Round.start {O : Nat → Nat → Prop} {n : Nat} {M : List (List Bool)} (hs : Square n M) (h : ∀ a b, at2 M a b = true ↔ O a b) : Round O n M 0 0 0 :=
  ⟨hs, fun a b hab => .one ((h a b).1 hab), fun a b _ _ hv => (h a b).2 hv, fun a b _ _ hd => absurd hd (by omega)⟩

/-- a square that tells what is reached -/
structure IsReach (O : Nat → Nat → Prop) (n : Nat) (M : List (List Bool)) : Prop where
  sq : Square n M
  tc : ∀ a b, at2 M a b = true ↔ Tc O a b
theorem Round.done {O : Nat → Nat → Prop} {n : Nat} {M : List (List Bool)} (h : Round O n M n 0 0) (hO : ∀ i k, O i k → i < n ∧ k < n) : IsReach O n M := by
  refine ⟨h.1, fun a b => ⟨h.2.1 a b, fun ht => ?_⟩⟩
  have hab : a < n ∧ b < n := by
    induction ht with
    | one h => exact hO _ _ h
    | more h _ ih => exact ⟨(hO _ _ h).1, ih.2⟩
  exact h.2.2.1 a b hab.1 hab.2 (Via.of_tc (fun i k h => (hO i k h).2) ht)

/-- the row of a rule, at once -/
def Gr.onceRow (g : Gr) (es : List Bool) (i : Nat) : List Bool :=
  match g.rules[i]? with
  | some r => g.marks es r.token r.body (List.replicate g.rules.length false)
  | none => []
def Gr.onceM (g : Gr) (es : List Bool) : List (List Bool) := (List.range g.rules.length).map (g.onceRow es)
def Gr.Once (g : Gr) (es : List Bool) (i k : Nat) : Prop := at2 (g.onceM es) i k = true

mutual
theorem marks_length (g : Gr) (es : List Bool) (token : Bool) : ∀ (n : Nd) (l : List Bool), (g.marks es token n l).length = l.length
  | .mk k nm tx set subs, l => by
    rw [Gr.marks]
    split
    · exact marksSeq_length g es token subs l
    · split
      · exact marksAll_length g es token subs l
      · split
        · split <;> simp
        · rfl
theorem marksSeq_length (g : Gr) (es : List Bool) (token : Bool) : ∀ (ns : List Nd) (l : List Bool), (g.marksSeq es token ns l).length = l.length
  | [], l => rfl
  | n :: r, l => by
    rw [Gr.marksSeq]
    split
    · rw [marksSeq_length g es token r, marks_length g es token n]
    · exact marks_length g es token n l
theorem marksAll_length (g : Gr) (es : List Bool) (token : Bool) : ∀ (ns : List Nd) (l : List Bool), (g.marksAll es token ns l).length = l.length
  | [], l => rfl
  | n :: r, l => by rw [Gr.marksAll, marksAll_length g es token r, marks_length g es token n]
end
theorem onceRow_length (g : Gr) (es : List Bool) (i : Nat) (hi : i < g.rules.length) : (g.onceRow es i).length = g.rules.length := by
  unfold Gr.onceRow
  simp [hi, marks_length]
theorem onceM_square (g : Gr) (es : List Bool) : Square g.rules.length (g.onceM es) := by
  refine ⟨by simp [Gr.onceM], fun i hi => ?_⟩
  have hi' : i < g.rules.length := by simpa [Gr.onceM] using hi
  simp only [Gr.onceM, List.getElem_map, List.getElem_range]
  exact onceRow_length g es i hi'
theorem at2_lt {n : Nat} {M : List (List Bool)} (h : Square n M) {i k : Nat} (ha : at2 M i k = true) : i < n ∧ k < n := by
  unfold at2 at ha
  have hi : i < M.length := by
    rcases Nat.lt_or_ge i M.length with h' | h'
    · exact h'
    · simp [List.getD_eq_getElem?_getD, List.getElem?_eq_none h'] at ha
  refine ⟨by rw [← h.1]; exact hi, ?_⟩
  rw [← h.2 i hi]
  rcases Nat.lt_or_ge k M[i].length with h' | h'
  · exact h'
  · simp [List.getD_eq_getElem?_getD, hi, List.getElem?_eq_none h'] at ha
end Go.Proofs.YtkinlcichclnkaaDoor

/- Plain law for ChecksFine: rules that go round no ring are all put in order, by as many rounds as there are rules. -/
namespace Go.Proofs.YtkinlcichclnkaaDoor

/-- is rule i ready: not put yet, and all that it reaches (up to m) put? -/
def readyTo (r : Nat → Nat → Bool) (ds : List Bool) (i : Nat) : Nat → Bool
  | 0 => !ds.getD i false
  | m + 1 => readyTo r ds i m && (!r i m || ds.getD m false)
def putOne (r : Nat → Nat → Bool) (n : Nat) (ds : List Bool) (i : Nat) : List Bool := if readyTo r ds i n then ds.set i true else ds
def putTo (r : Nat → Nat → Bool) (n : Nat) (ds : List Bool) : Nat → List Bool
  | 0 => ds
  | m + 1 => putOne r n (putTo r n ds m) m
def putAll (r : Nat → Nat → Bool) (n : Nat) (ds : List Bool) : Nat → List Bool
  | 0 => ds
  | m + 1 => putTo r n (putAll r n ds m) n

theorem readyTo_iff (r : Nat → Nat → Bool) (ds : List Bool) (i : Nat) : ∀ m, readyTo r ds i m = true ↔ ds.getD i false = false ∧ ∀ k, k < m → r i k = true → ds.getD k false = true
  | 0 => by simp [readyTo]
  | m + 1 => by
    rw [readyTo, Bool.and_eq_true, readyTo_iff r ds i m, Bool.or_eq_true, Bool.not_eq_true']
    refine ⟨fun ⟨⟨h1, h2⟩, h3⟩ => ⟨h1, fun k hk hr => ?_⟩, fun ⟨h1, h2⟩ => ⟨⟨h1, fun k hk hr => h2 k (by omega) hr⟩, ?_⟩⟩
    · by_cases hkm : k = m
      · subst hkm
        rcases h3 with h | h
        · rw [hr] at h
          cases h
        · exact h
      · exact h2 k (by omega) hr
    · cases hr : r i m
      · exact .inl rfl
      · exact .inr (h2 m (Nat.lt_succ_self m) hr)

/-- what is put stays put -/
def leD (a b : List Bool) : Prop := a.length = b.length ∧ ∀ k, a.getD k false = true → b.getD k false = true
theorem leD.refl (a : List Bool) : leD a a := ⟨rfl, fun _ h => h⟩
theorem leD.trans {a b c : List Bool} (h : leD a b) (g : leD b c) : leD a c := ⟨h.1.trans g.1, fun k hk => g.2 k (h.2 k hk)⟩
theorem getD_set (l : List Bool) (i k : Nat) (v : Bool) : (l.set i v).getD k false = if k = i ∧ i < l.length then v else l.getD k false := by
  rw [List.getD_eq_getElem?_getD, List.getD_eq_getElem?_getD, List.getElem?_set]
  by_cases h : i = k
  · subst h
    by_cases h2 : i < l.length
    · simp [h2]
    · simp [h2]
  · rw [if_neg h, if_neg (fun x => h x.1.symm)]
theorem putOne_le (r : Nat → Nat → Bool) (n : Nat) (ds : List Bool) (i : Nat) : leD ds (putOne r n ds i) := by
  unfold putOne
  split
  · refine ⟨by simp, fun k hk => ?_⟩
    rw [getD_set]
    split
    · rfl
    · exact hk
  · exact leD.refl _
theorem putTo_le (r : Nat → Nat → Bool) (n : Nat) (ds : List Bool) : ∀ m, leD ds (putTo r n ds m)
  | 0 => leD.refl _
  | m + 1 => (putTo_le r n ds m).trans (putOne_le r n _ m)
theorem putAll_le (r : Nat → Nat → Bool) (n : Nat) (ds : List Bool) : ∀ m, leD ds (putAll r n ds m)
  | 0 => leD.refl _
  | m + 1 => (putAll_le r n ds m).trans (putTo_le r n _ n)
theorem putTo_mid (r : Nat → Nat → Bool) (n : Nat) (ds : List Bool) : ∀ m i, i < m → leD (putTo r n ds (i + 1)) (putTo r n ds m)
  | 0, i, h => absurd h (by omega)
  | m + 1, i, h => by
    by_cases hi : i = m
    · subst hi
      exact leD.refl _
    · exact (putTo_mid r n ds m i (by omega)).trans (putOne_le r n _ m)

/-- how many are put -/
def putCount (ds : List Bool) : Nat := ds.count true
theorem count_set (l : List Bool) (i : Nat) (h : i < l.length) (hf : l.getD i false = false) : (l.set i true).count true = l.count true + 1 := by
  have hg : l[i] = false := by
    rw [List.getD_eq_getElem?_getD, List.getElem?_eq_getElem h] at hf
    exact hf
  rw [List.count_set h, hg]
  simp
theorem putOne_count (r : Nat → Nat → Bool) (n : Nat) (ds : List Bool) (i : Nat) (h : i < ds.length) : (putOne r n ds i).count true = if readyTo r ds i n then ds.count true + 1 else ds.count true := by
  unfold putOne
  split
  · next hr => exact count_set ds i h ((readyTo_iff r ds i n).1 hr).1
  · rfl
theorem leD_count : ∀ (a b : List Bool), leD a b → a.count true ≤ b.count true
  | [], b, h => by simp
  | x :: a, [], h => absurd h.1 (by simp)
  | x :: a, y :: b, h => by
    have hr : leD a b := ⟨by have := h.1; simpa using this, fun k hk => by have := h.2 (k + 1); simp only [List.getD_cons_succ] at this; exact this hk⟩
    have ih := leD_count a b hr
    have h0 := h.2 0
    simp only [List.getD_cons_zero] at h0
    cases x <;> cases y <;> simp_all <;> omega

/-- how many of n a rule reaches -/
def reachCount (r : Nat → Nat → Bool) (i : Nat) : Nat → Nat
  | 0 => 0
  | m + 1 => reachCount r i m + (if r i m then 1 else 0)
theorem reachCount_le (r : Nat → Nat → Bool) (i k : Nat) : ∀ m, (∀ x, x < m → r k x = true → r i x = true) → reachCount r k m ≤ reachCount r i m
  | 0, _ => Nat.le_refl _
  | m + 1, h => by
    have ih := reachCount_le r i k m (fun x hx => h x (by omega))
    rw [reachCount, reachCount]
    have := h m (Nat.lt_succ_self m)
    cases hk : r k m
    · simp
      omega
    · rw [this hk]
      simp
      omega
theorem reachCount_lt (r : Nat → Nat → Bool) (i k y : Nat) : ∀ m, (∀ x, x < m → r k x = true → r i x = true) → y < m → r i y = true → r k y = false → reachCount r k m < reachCount r i m
  | 0, _, h, _, _ => absurd h (by omega)
  | m + 1, h, hy, h1, h2 => by
    rw [reachCount, reachCount]
    by_cases hm : y = m
    · subst hm
      have := reachCount_le r i k y (fun x hx => h x (by omega))
      rw [h1, h2]
      simp
      omega
    · have ih := reachCount_lt r i k y m (fun x hx => h x (by omega)) (by omega) h1 h2
      have := h m (Nat.lt_succ_self m)
      cases hk : r k m
      · simp
        omega
      · rw [this hk]
        simp
        omega

/-- where no rule reaches itself, one that is not put is ready, if any is not put -/
theorem some_ready (r : Nat → Nat → Bool) (n : Nat) (ds : List Bool) (ht : ∀ i j k, i < n → j < n → k < n → r i j = true → r j k = true → r i k = true) (hir : ∀ i, i < n → r i i = false) :
    ∀ (c i : Nat), reachCount r i n ≤ c → i < n → ds.getD i false = false → ∃ j, j < n ∧ readyTo r ds j n = true := by
  intro c
  induction c with
  | zero =>
    intro i hc hi hd
    refine ⟨i, hi, (readyTo_iff r ds i n).2 ⟨hd, fun k hk hr => ?_⟩⟩
    have := reachCount_lt r i i k n (fun _ _ h => h) hk hr
    apply Classical.byContradiction
    intro _
    have hpos : 0 < reachCount r i n := by
      have hle : ∀ m, k < m → 0 < reachCount r i m := by
        intro m
        induction m with
        | zero => intro h; omega
        | succ m ih =>
          intro h
          rw [reachCount]
          by_cases hkm : k = m
          · subst hkm
            rw [hr]
            simp
          · have := ih (by omega)
            omega
      exact hle n hk
    omega
  | succ c ih =>
    intro i hc hi hd
    by_cases hall : ∀ k, k < n → r i k = true → ds.getD k false = true
    · exact ⟨i, hi, (readyTo_iff r ds i n).2 ⟨hd, hall⟩⟩
    · have : ∃ k, k < n ∧ r i k = true ∧ ds.getD k false = false := by
        apply Classical.byContradiction
        intro hno
        exact hall fun k hk hr => by
          cases hdk : ds.getD k false
          · exact absurd ⟨k, hk, hr, hdk⟩ hno
          · rfl
      obtain ⟨k, hk, hr, hdk⟩ := this
      refine ih k ?_ hk hdk
      have := reachCount_lt r i k k n (fun x hx h => ht i k x hi hk hx hr h) hk hr (hir k hk)
      omega

/-- one round puts one more, if any is not put -/
theorem round_more (r : Nat → Nat → Bool) (n : Nat) (ds : List Bool) (hl : ds.length = n) (ht : ∀ i j k, i < n → j < n → k < n → r i j = true → r j k = true → r i k = true) (hir : ∀ i, i < n → r i i = false) (hn : ds.count true < n) :
    ds.count true < (putTo r n ds n).count true := by
  have hex : ∃ i, i < n ∧ ds.getD i false = false := by
    apply Classical.byContradiction
    intro hno
    have : ∀ x ∈ ds, x = true := fun x hx => by
      obtain ⟨i, hi, rfl⟩ := List.mem_iff_getElem.1 hx
      cases hb : ds[i]
      · exact absurd ⟨i, by omega, by rw [List.getD_eq_getElem?_getD, List.getElem?_eq_getElem hi, hb]; rfl⟩ hno
      · rfl
    have := List.count_eq_length.2 (fun x hx => (this x hx).symm)
    omega
  obtain ⟨i, hi, hd⟩ := hex
  obtain ⟨j, hj, hready⟩ := some_ready r n ds ht hir _ i (Nat.le_refl _) hi hd
  obtain ⟨hdj, hall⟩ := (readyTo_iff r ds j n).1 hready
  have h1 := putTo_le r n ds j
  have hl1 : (putTo r n ds j).length = n := by rw [← h1.1, hl]
  -- at j: put already, or put now
  have hput : (putTo r n ds (j + 1)).getD j false = true := by
    rw [putTo]
    unfold putOne
    cases hb : (putTo r n ds j).getD j false
    · rw [if_pos ((readyTo_iff r _ j n).2 ⟨hb, fun k hk hr => h1.2 k (hall k hk hr)⟩), getD_set, if_pos ⟨rfl, by omega⟩]
    · rw [if_neg (by
        intro hx
        have := ((readyTo_iff r _ j n).1 hx).1
        rw [hb] at this
        cases this)]
      exact hb
  have h2 := (putTo_mid r n ds n j hj).2 j hput
  -- so the count has grown
  have hle := putTo_le r n ds n
  have hset : leD (ds.set j true) (putTo r n ds n) := by
    refine ⟨by rw [List.length_set]; exact hle.1, fun k hk => ?_⟩
    rw [getD_set] at hk
    split at hk
    · next h => rw [h.1]; exact h2
    · exact hle.2 k hk
  have := leD_count _ _ hset
  rw [count_set ds j (by omega) hdj] at this
  omega

/-- so many rounds put all -/
theorem rounds_all (r : Nat → Nat → Bool) (n : Nat) (ds : List Bool) (hl : ds.length = n) (ht : ∀ i j k, i < n → j < n → k < n → r i j = true → r j k = true → r i k = true) (hir : ∀ i, i < n → r i i = false) :
    ∀ m, min m n ≤ (putAll r n ds m).count true
  | 0 => by simp
  | m + 1 => by
    have ih := rounds_all r n ds hl ht hir m
    have h1 := (putAll_le r n ds m).1
    have h2 := leD_count _ _ (putTo_le r n (putAll r n ds m) n)
    rw [putAll]
    by_cases hlt : (putAll r n ds m).count true < n
    · have := round_more r n (putAll r n ds m) (by omega) ht hir hlt
      omega
    · omega
end Go.Proofs.YtkinlcichclnkaaDoor
