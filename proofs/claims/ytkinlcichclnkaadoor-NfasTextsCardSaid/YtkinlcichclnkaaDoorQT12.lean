/- What is reached from rule to rule: rounds over those that lie between. No program in sight. -/
import Derived.Lib.Hide
import Derived.Test.YtkinlcichclnkaaDoorQT11
namespace Go.Proofs.YtkinlcichclnkaaDoor
open Go.RowKit

def at2 (M : List (List Bool)) (i k : Nat) : Bool := (M.getD i []).getD k false
def set2 (M : List (List Bool)) (i k : Nat) (b : Bool) : List (List Bool) := M.set i ((M.getD i []).set k b)

/-- reached, by so many steps as there are -/
inductive Tc (O : Nat → Nat → Prop) : Nat → Nat → Prop
  | one {i k : Nat} (h : O i k) : Tc O i k
  | more {i j k : Nat} (h : O i j) (t : Tc O j k) : Tc O i k
theorem Tc.trans {O : Nat → Nat → Prop} {i j k : Nat} (h : Tc O i j) (t : Tc O j k) : Tc O i k := by
  induction h with
  | one h => exact .more h t
  | more h _ ih => exact .more h (ih t)

/-- reached, by way of those below b -/
def Via (O : Nat → Nat → Prop) : Nat → Nat → Nat → Prop
  | 0, i, k => O i k
  | b + 1, i, k => Via O b i k ∨ (Via O b i b ∧ Via O b b k)
theorem Via.once {O : Nat → Nat → Prop} : ∀ (b : Nat) {i k : Nat}, O i k → Via O b i k
  | 0, _, _, h => h
  | b + 1, _, _, h => .inl (Via.once b h)
theorem Via.trans {O : Nat → Nat → Prop} : ∀ (b : Nat) {i j k : Nat}, j < b → Via O b i j → Via O b j k → Via O b i k
  | 0, _, _, _, h, _, _ => absurd h (by omega)
  | b + 1, i, j, k, hj, h1, h2 => by
    by_cases e : j = b
    · subst e
      have a : Via O j i j := h1.elim id (·.1)
      have c : Via O j j k := h2.elim id (·.2)
      exact .inr ⟨a, c⟩
    · have hlt : j < b := by omega
      rcases h1 with h1 | ⟨h1, h1'⟩ <;> rcases h2 with h2 | ⟨h2, h2'⟩
      · exact .inl (Via.trans b hlt h1 h2)
      · exact .inr ⟨Via.trans b hlt h1 h2, h2'⟩
      · exact .inr ⟨h1, Via.trans b hlt h1' h2⟩
      · exact .inr ⟨h1, h2'⟩
theorem Via.of_tc {O : Nat → Nat → Prop} {n : Nat} (hO : ∀ i k, O i k → k < n) {i k : Nat} (h : Tc O i k) : Via O n i k := by
  induction h with
  | one h => exact Via.once n h
  | more h _ ih => exact Via.trans n (hO _ _ h) (Via.once n h) ih

/-- a square of bools -/
def Square (n : Nat) (M : List (List Bool)) : Prop := M.length = n ∧ ∀ i (h : i < M.length), M[i].length = n
theorem Square.set {n : Nat} {M : List (List Bool)} (h : Square n M) (i k : Nat) (b : Bool) : Square n (set2 M i k b) := by
  unfold set2
  refine ⟨by simp [h.1], fun j hj => ?_⟩
  rw [List.getElem_set]
  have hj' : j < M.length := by simpa using hj
  split
  · rename_i e
    subst e
    simp [List.getD_eq_getElem?_getD, hj', h.2 i hj']
  · exact h.2 j hj'
theorem at2_set {n : Nat} {M : List (List Bool)} (h : Square n M) {i k : Nat} (hi : i < n) (hk : k < n) (b : Bool) (i' k' : Nat) : at2 (set2 M i k b) i' k' = if i' = i ∧ k' = k then b else at2 M i' k' := by
  have hi' : i < M.length := by rw [h.1]; exact hi
  have hk' : k < M[i].length := by rw [h.2 i hi']; exact hk
  unfold at2 set2
  by_cases e : i' = i
  · subst e
    simp only [List.getD_eq_getElem?_getD, List.getElem?_set_self hi', Option.getD_some, List.getElem?_eq_getElem hi', true_and]
    by_cases e2 : k' = k
    · subst e2
      simp [hk']
    · rw [List.getElem?_set_ne (fun x => e2 x.symm)]
      simp [e2]
  · simp only [List.getD_eq_getElem?_getD, List.getElem?_set_ne (fun x => e x.symm)]
    simp [e]

/-- between rounds, and within one: all below (i, k) are done -/
def Round (O : Nat → Nat → Prop) (n : Nat) (M : List (List Bool)) (by_ i k : Nat) : Prop :=
  Square n M ∧ (∀ a b, at2 M a b = true → Tc O a b) ∧ (∀ a b, a < n → b < n → Via O by_ a b → at2 M a b = true) ∧
    ∀ a b, a < n → b < n → (a < i ∨ (a = i ∧ b < k)) → Via O (by_ + 1) a b → at2 M a b = true

theorem Round.step {O : Nat → Nat → Prop} {n : Nat} {M : List (List Bool)} {by_ i k : Nat} (h : Round O n M by_ i k) (hb : by_ < n) (hi : i < n) (hk : k < n) :
    Round O n (set2 M i k (at2 M i k || (at2 M i by_ && at2 M by_ k))) by_ i (k + 1) := by
  obtain ⟨h1, h2, h3, h4⟩ := h
  have hs := at2_set h1 hi hk (at2 M i k || (at2 M i by_ && at2 M by_ k))
  refine ⟨h1.set i k _, fun a b hab => ?_, fun a b ha hb' hv => ?_, fun a b ha hb' hd hv => ?_⟩
  · rw [hs] at hab
    split at hab
    · rename_i e
      obtain ⟨rfl, rfl⟩ := e
      simp only [Bool.or_eq_true, Bool.and_eq_true] at hab
      rcases hab with hab | ⟨hab, hab'⟩
      · exact h2 _ _ hab
      · exact (h2 _ _ hab).trans (h2 _ _ hab')
    · exact h2 _ _ hab
  · rw [hs]
    have := h3 a b ha hb' hv
    split
    · rename_i e; obtain ⟨rfl, rfl⟩ := e; rw [this]; rfl
    · exact this
  · rw [hs]
    split
    · rename_i e
      obtain ⟨rfl, rfl⟩ := e
      rcases hv with hv | ⟨hv, hv'⟩
      · rw [h3 _ _ ha hb' hv]; rfl
      · rw [h3 _ _ ha hb hv, h3 _ _ hb hb' hv']; simp
    · rename_i e
      refine h4 a b ha hb' ?_ hv
      rcases hd with hd | ⟨hd, hd'⟩
      · exact .inl hd
      · refine .inr ⟨hd, ?_⟩
        have : b ≠ k := fun x => e ⟨hd, x⟩
        omega
theorem Round.row {O : Nat → Nat → Prop} {n : Nat} {M : List (List Bool)} {by_ i : Nat} (h : Round O n M by_ i n) : Round O n M by_ (i + 1) 0 :=
  ⟨h.1, h.2.1, h.2.2.1, fun a b ha hb hd hv => h.2.2.2 a b ha hb (by omega) hv⟩
theorem Round.next {O : Nat → Nat → Prop} {n : Nat} {M : List (List Bool)} {by_ : Nat} (h : Round O n M by_ n 0) : Round O n M (by_ + 1) 0 0 :=
  ⟨h.1, h.2.1, fun a b ha hb hv => h.2.2.2 a b ha hb (by omega) hv, fun a b _ _ hd => absurd hd (by omega)⟩
theorem Round.start {O : Nat → Nat → Prop} {n : Nat} {M : List (List Bool)} (hs : Square n M) (h : ∀ a b, at2 M a b = true ↔ O a b) : Round O n M 0 0 0 :=
  ⟨hs, fun a b hab => .one ((h a b).1 hab), fun a b _ _ hv => (h a b).2 hv, fun a b _ _ hd => absurd hd (by omega)⟩

/-- a square that tells what is reached -/
structure IsReach (O : Nat → Nat → Prop) (n : Nat) (M : List (List Bool)) : Prop where
  sq : Square n M
  tc : ∀ a b, at2 M a b = true ↔ Tc O a b
theorem Round.done {O : Nat → Nat → Prop} {n : Nat} {M : List (List Bool)} (h : Round O n M n 0 0) (hO : ∀ i k, O i k → i < n ∧ k < n) : IsReach O n M := by
  refine ⟨h.1, fun a b => ⟨h.2.1 a b, fun ht => ?_⟩⟩
  have hab : a < n ∧ b < n := by
    induction ht with
    | one h => exact hO _ _ h
    | more h _ ih => exact ⟨(hO _ _ h).1, ih.2⟩
  exact h.2.2.1 a b hab.1 hab.2 (Via.of_tc (fun i k h => (hO i k h).2) ht)

/-- the row of a rule, at once -/
def Gr.onceRow (g : Gr) (es : List Bool) (i : Nat) : List Bool :=
  match g.rules[i]? with
  | some r => g.marks es r.token r.body (List.replicate g.rules.length false)
  | none => []
def Gr.onceM (g : Gr) (es : List Bool) : List (List Bool) := (List.range g.rules.length).map (g.onceRow es)
def Gr.Once (g : Gr) (es : List Bool) (i k : Nat) : Prop := at2 (g.onceM es) i k = true

mutual
theorem marks_length (g : Gr) (es : List Bool) (token : Bool) : ∀ (n : Nd) (l : List Bool), (g.marks es token n l).length = l.length
  | .mk k nm tx set subs, l => by
    rw [Gr.marks]
    split
    · exact marksSeq_length g es token subs l
    · split
      · exact marksAll_length g es token subs l
      · split
        · split <;> simp
        · rfl
theorem marksSeq_length (g : Gr) (es : List Bool) (token : Bool) : ∀ (ns : List Nd) (l : List Bool), (g.marksSeq es token ns l).length = l.length
  | [], l => rfl
  | n :: r, l => by
    rw [Gr.marksSeq]
    split
    · rw [marksSeq_length g es token r, marks_length g es token n]
    · exact marks_length g es token n l
theorem marksAll_length (g : Gr) (es : List Bool) (token : Bool) : ∀ (ns : List Nd) (l : List Bool), (g.marksAll es token ns l).length = l.length
  | [], l => rfl
  | n :: r, l => by rw [Gr.marksAll, marksAll_length g es token r, marks_length g es token n]
end
theorem onceRow_length (g : Gr) (es : List Bool) (i : Nat) (hi : i < g.rules.length) : (g.onceRow es i).length = g.rules.length := by
  unfold Gr.onceRow
  simp [hi, marks_length]
theorem onceM_square (g : Gr) (es : List Bool) : Square g.rules.length (g.onceM es) := by
  refine ⟨by simp [Gr.onceM], fun i hi => ?_⟩
  have hi' : i < g.rules.length := by simpa [Gr.onceM] using hi
  simp only [Gr.onceM, List.getElem_map, List.getElem_range]
  exact onceRow_length g es i hi'
theorem at2_lt {n : Nat} {M : List (List Bool)} (h : Square n M) {i k : Nat} (ha : at2 M i k = true) : i < n ∧ k < n := by
  unfold at2 at ha
  have hi : i < M.length := by
    rcases Nat.lt_or_ge i M.length with h' | h'
    · exact h'
    · simp [List.getD_eq_getElem?_getD, List.getElem?_eq_none h'] at ha
  refine ⟨by rw [← h.1]; exact hi, ?_⟩
  rw [← h.2 i hi]
  rcases Nat.lt_or_ge k M[i].length with h' | h'
  · exact h'
  · simp [List.getD_eq_getElem?_getD, hi, List.getElem?_eq_none h'] at ha
end Go.Proofs.YtkinlcichclnkaaDoor

/- Plain law for ChecksFine: rules that go round no ring are all put in order, by as many rounds as there are rules. -/
namespace Go.Proofs.YtkinlcichclnkaaDoor

/-- is rule i ready: not put yet, and all that it reaches (up to m) put? -/
def readyTo (r : Nat → Nat → Bool) (ds : List Bool) (i : Nat) : Nat → Bool
  | 0 => !ds.getD i false
  | m + 1 => readyTo r ds i m && (!r i m || ds.getD m false)
def putOne (r : Nat → Nat → Bool) (n : Nat) (ds : List Bool) (i : Nat) : List Bool := if readyTo r ds i n then ds.set i true else ds
def putTo (r : Nat → Nat → Bool) (n : Nat) (ds : List Bool) : Nat → List Bool
  | 0 => ds
  | m + 1 => putOne r n (putTo r n ds m) m
def putAll (r : Nat → Nat → Bool) (n : Nat) (ds : List Bool) : Nat → List Bool
  | 0 => ds
  | m + 1 => putTo r n (putAll r n ds m) n

theorem readyTo_iff (r : Nat → Nat → Bool) (ds : List Bool) (i : Nat) : ∀ m, readyTo r ds i m = true ↔ ds.getD i false = false ∧ ∀ k, k < m → r i k = true → ds.getD k false = true
  | 0 => by simp [readyTo]
  | m + 1 => by
    rw [readyTo, Bool.and_eq_true, readyTo_iff r ds i m, Bool.or_eq_true, Bool.not_eq_true']
    refine ⟨fun ⟨⟨h1, h2⟩, h3⟩ => ⟨h1, fun k hk hr => ?_⟩, fun ⟨h1, h2⟩ => ⟨⟨h1, fun k hk hr => h2 k (by omega) hr⟩, ?_⟩⟩
    · by_cases hkm : k = m
      · subst hkm
        rcases h3 with h | h
        · rw [hr] at h
          cases h
        · exact h
      · exact h2 k (by omega) hr
    · cases hr : r i m
      · exact .inl rfl
      · exact .inr (h2 m (Nat.lt_succ_self m) hr)

/-- what is put stays put -/
def leD (a b : List Bool) : Prop := a.length = b.length ∧ ∀ k, a.getD k false = true → b.getD k false = true
theorem leD.refl (a : List Bool) : leD a a := ⟨rfl, fun _ h => h⟩
theorem leD.trans {a b c : List Bool} (h : leD a b) (g : leD b c) : leD a c := ⟨h.1.trans g.1, fun k hk => g.2 k (h.2 k hk)⟩
theorem getD_set (l : List Bool) (i k : Nat) (v : Bool) : (l.set i v).getD k false = if k = i ∧ i < l.length then v else l.getD k false := by
  rw [List.getD_eq_getElem?_getD, List.getD_eq_getElem?_getD, List.getElem?_set]
  by_cases h : i = k
  · subst h
    by_cases h2 : i < l.length
    · simp [h2]
    · simp [h2]
  · rw [if_neg h, if_neg (fun x => h x.1.symm)]
theorem putOne_le (r : Nat → Nat → Bool) (n : Nat) (ds : List Bool) (i : Nat) : leD ds (putOne r n ds i) := by
  unfold putOne
  split
  · refine ⟨by simp, fun k hk => ?_⟩
    rw [getD_set]
    split
    · rfl
    · exact hk
  · exact leD.refl _
theorem putTo_le (r : Nat → Nat → Bool) (n : Nat) (ds : List Bool) : ∀ m, leD ds (putTo r n ds m)
  | 0 => leD.refl _
  | m + 1 => (putTo_le r n ds m).trans (putOne_le r n _ m)
theorem putAll_le (r : Nat → Nat → Bool) (n : Nat) (ds : List Bool) : ∀ m, leD ds (putAll r n ds m)
  | 0 => leD.refl _
  | m + 1 => (putAll_le r n ds m).trans (putTo_le r n _ n)
theorem putTo_mid (r : Nat → Nat → Bool) (n : Nat) (ds : List Bool) : ∀ m i, i < m → leD (putTo r n ds (i + 1)) (putTo r n ds m)
  | 0, i, h => absurd h (by omega)
  | m + 1, i, h => by
    by_cases hi : i = m
    · subst hi
      exact leD.refl _
    · exact (putTo_mid r n ds m i (by omega)).trans (putOne_le r n _ m)

/-- how many are put -/
def putCount (ds : List Bool) : Nat := ds.count true
theorem count_set (l : List Bool) (i : Nat) (h : i < l.length) (hf : l.getD i false = false) : (l.set i true).count true = l.count true + 1 := by
  have hg : l[i] = false := by
    rw [List.getD_eq_getElem?_getD, List.getElem?_eq_getElem h] at hf
    exact hf
  rw [List.count_set h, hg]
  simp
theorem putOne_count (r : Nat → Nat → Bool) (n : Nat) (ds : List Bool) (i : Nat) (h : i < ds.length) : (putOne r n ds i).count true = if readyTo r ds i n then ds.count true + 1 else ds.count true := by
  unfold putOne
  split
  · next hr => exact count_set ds i h ((readyTo_iff r ds i n).1 hr).1
  · rfl
theorem leD_count : ∀ (a b : List Bool), leD a b → a.count true ≤ b.count true
  | [], b, h => by simp
  | x :: a, [], h => absurd h.1 (by simp)
  | x :: a, y :: b, h => by
    have hr : leD a b := ⟨by have := h.1; simpa using this, fun k hk => by have := h.2 (k + 1); simp only [List.getD_cons_succ] at this; exact this hk⟩
    have ih := leD_count a b hr
    have h0 := h.2 0
    simp only [List.getD_cons_zero] at h0
    cases x <;> cases y <;> simp_all <;> omega

/-- how many of n a rule reaches -/
def reachCount (r : Nat → Nat → Bool) (i : Nat) : Nat → Nat
  | 0 => 0
  | m + 1 => reachCount r i m + (if r i m then 1 else 0)
theorem reachCount_le (r : Nat → Nat → Bool) (i k : Nat) : ∀ m, (∀ x, x < m → r k x = true → r i x = true) → reachCount r k m ≤ reachCount r i m
  | 0, _ => Nat.le_refl _
  | m + 1, h => by
    have ih := reachCount_le r i k m (fun x hx => h x (by omega))
    rw [reachCount, reachCount]
    have := h m (Nat.lt_succ_self m)
    cases hk : r k m
    · simp
      omega
    · rw [this hk]
      simp
      omega
theorem reachCount_lt (r : Nat → Nat → Bool) (i k y : Nat) : ∀ m, (∀ x, x < m → r k x = true → r i x = true) → y < m → r i y = true → r k y = false → reachCount r k m < reachCount r i m
  | 0, _, h, _, _ => absurd h (by omega)
  | m + 1, h, hy, h1, h2 => by
    rw [reachCount, reachCount]
    by_cases hm : y = m
    · subst hm
      have := reachCount_le r i k y (fun x hx => h x (by omega))
      rw [h1, h2]
      simp
      omega
    · have ih := reachCount_lt r i k y m (fun x hx => h x (by omega)) (by omega) h1 h2
      have := h m (Nat.lt_succ_self m)
      cases hk : r k m
      · simp
        omega
      · rw [this hk]
        simp
        omega

/-- where no rule reaches itself, one that is not put is ready, if any is not put -/
theorem some_ready (r : Nat → Nat → Bool) (n : Nat) (ds : List Bool) (ht : ∀ i j k, i < n → j < n → k < n → r i j = true → r j k = true → r i k = true) (hir : ∀ i, i < n → r i i = false) :
    ∀ (c i : Nat), reachCount r i n ≤ c → i < n → ds.getD i false = false → ∃ j, j < n ∧ readyTo r ds j n = true := by
  intro c
  induction c with
  | zero =>
    intro i hc hi hd
    refine ⟨i, hi, (readyTo_iff r ds i n).2 ⟨hd, fun k hk hr => ?_⟩⟩
    have := reachCount_lt r i i k n (fun _ _ h => h) hk hr
    apply Classical.byContradiction
    intro _
    have hpos : 0 < reachCount r i n := by
      have hle : ∀ m, k < m → 0 < reachCount r i m := by
        intro m
        induction m with
        | zero => intro h; omega
        | succ m ih =>
          intro h
          rw [reachCount]
          by_cases hkm : k = m
          · subst hkm
            rw [hr]
            simp
          · have := ih (by omega)
            omega
      exact hle n hk
    omega
  | succ c ih =>
    intro i hc hi hd
    by_cases hall : ∀ k, k < n → r i k = true → ds.getD k false = true
    · exact ⟨i, hi, (readyTo_iff r ds i n).2 ⟨hd, hall⟩⟩
    · have : ∃ k, k < n ∧ r i k = true ∧ ds.getD k false = false := by
        apply Classical.byContradiction
        intro hno
        exact hall fun k hk hr => by
          cases hdk : ds.getD k false
          · exact absurd ⟨k, hk, hr, hdk⟩ hno
          · rfl
      obtain ⟨k, hk, hr, hdk⟩ := this
      refine ih k ?_ hk hdk
      have := reachCount_lt r i k k n (fun x hx h => ht i k x hi hk hx hr h) hk hr (hir k hk)
      omega

/-- one round puts one more, if any is not put -/
theorem round_more (r : Nat → Nat → Bool) (n : Nat) (ds : List Bool) (hl : ds.length = n) (ht : ∀ i j k, i < n → j < n → k < n → r i j = true → r j k = true → r i k = true) (hir : ∀ i, i < n → r i i = false) (hn : ds.count true < n) :
    ds.count true < (putTo r n ds n).count true := by
  have hex : ∃ i, i < n ∧ ds.getD i false = false := by
    apply Classical.byContradiction
    intro hno
    have : ∀ x ∈ ds, x = true := fun x hx => by
      obtain ⟨i, hi, rfl⟩ := List.mem_iff_getElem.1 hx
      cases hb : ds[i]
      · exact absurd ⟨i, by omega, by rw [List.getD_eq_getElem?_getD, List.getElem?_eq_getElem hi, hb]; rfl⟩ hno
      · rfl
    have := List.count_eq_length.2 (fun x hx => (this x hx).symm)
    omega
  obtain ⟨i, hi, hd⟩ := hex
  obtain ⟨j, hj, hready⟩ := some_ready r n ds ht hir _ i (Nat.le_refl _) hi hd
  obtain ⟨hdj, hall⟩ := (readyTo_iff r ds j n).1 hready
  have h1 := putTo_le r n ds j
  have hl1 : (putTo r n ds j).length = n := by rw [← h1.1, hl]
  -- at j: put already, or put now
  have hput : (putTo r n ds (j + 1)).getD j false = true := by
    rw [putTo]
    unfold putOne
    cases hb : (putTo r n ds j).getD j false
    · rw [if_pos ((readyTo_iff r _ j n).2 ⟨hb, fun k hk hr => h1.2 k (hall k hk hr)⟩), getD_set, if_pos ⟨rfl, by omega⟩]
    · rw [if_neg (by
        intro hx
        have := ((readyTo_iff r _ j n).1 hx).1
        rw [hb] at this
        cases this)]
      exact hb
  have h2 := (putTo_mid r n ds n j hj).2 j hput
  -- so the count has grown
  have hle := putTo_le r n ds n
  have hset : leD (ds.set j true) (putTo r n ds n) := by
    refine ⟨by rw [List.length_set]; exact hle.1, fun k hk => ?_⟩
    rw [getD_set] at hk
    split at hk
    · next h => rw [h.1]; exact h2
    · exact hle.2 k hk
  have := leD_count _ _ hset
  rw [count_set ds j (by omega) hdj] at this
  omega

/-- so many rounds put all -/
theorem rounds_all (r : Nat → Nat → Bool) (n : Nat) (ds : List Bool) (hl : ds.length = n) (ht : ∀ i j k, i < n → j < n → k < n → r i j = true → r j k = true → r i k = true) (hir : ∀ i, i < n → r i i = false) :
    ∀ m, min m n ≤ (putAll r n ds m).count true
  | 0 => by simp
  | m + 1 => by
    have ih := rounds_all r n ds hl ht hir m
    have h1 := (putAll_le r n ds m).1
    have h2 := leD_count _ _ (putTo_le r n (putAll r n ds m) n)
    rw [putAll]
    by_cases hlt : (putAll r n ds m).count true < n
    · have := round_more r n (putAll r n ds m) (by omega) ht hir hlt
      omega
    · omega
end Go.Proofs.YtkinlcichclnkaaDoor

/- Plain law for ChecksFine: what is told of a grammar, and what is so where nothing is told. -/
namespace Go.Proofs.YtkinlcichclnkaaDoor

mutual
/-- all nodes, each ahead of its subs -/
def Nd.all : Nd → List Nd
  | .mk k nm tx set subs => .mk k nm tx set subs :: Nd.allL subs
def Nd.allL : List Nd → List Nd
  | [] => []
  | n :: r => n.all ++ Nd.allL r
end
theorem all_self (n : Nd) : n ∈ n.all := by
  obtain ⟨k, nm, tx, set, subs⟩ := n
  rw [Nd.all]
  exact List.mem_cons_self ..

def Nd.isName (n : Nd) : Bool := n.kind == 5 || n.kind == 6

theorem named_is {g : Gr} {t : Bool} {m : Nd} {k : Nat} (h : g.named t m = (k : Int)) : g.find m.name = (k : Int) ∧ ((g.sortAt (k : Int) == 0) = (m.kind == 5)) ∧ (m.kind = 6 → t = true) := by
  unfold Gr.named at h
  simp only at h
  split at h
  · omega
  · split at h
    · omega
    · next h1 h2 =>
      split at h
      · omega
      · next h3 =>
        rw [h] at h2 h1
        refine ⟨h, by simpa using h2, fun h6 => ?_⟩
        rw [h6] at h3
        simpa using h3

theorem getD_setB (l : List Bool) (i k : Nat) (h : (l.set i true).getD k false = true) : l.getD k false = true ∨ k = i := by
  rw [getD_set] at h
  split at h
  · next hh => exact .inr hh.1
  · exact .inl h

mutual
/-- what is marked is named by some node -/
theorem marks_from (g : Gr) (es : List Bool) (t : Bool) (k : Nat) : ∀ (n : Nd) (l : List Bool), (g.marks es t n l).getD k false = true → l.getD k false = true ∨ ∃ m ∈ n.all, m.isName = true ∧ g.named t m = (k : Int)
  | .mk kd nm tx set subs, l, h => by
    rw [Gr.marks] at h
    rw [Nd.all]
    split at h
    · rcases marksSeq_from g es t k subs l h with h | ⟨m, hm, hh⟩
      · exact .inl h
      · exact .inr ⟨m, List.mem_cons_of_mem _ hm, hh⟩
    · split at h
      · rcases marksAll_from g es t k subs l h with h | ⟨m, hm, hh⟩
        · exact .inl h
        · exact .inr ⟨m, List.mem_cons_of_mem _ hm, hh⟩
      · split at h
        · next hk =>
          split at h
          · next hpos =>
            rcases getD_setB _ _ _ h with h | h
            · exact .inl h
            · refine .inr ⟨_, List.mem_cons_self .., hk, ?_⟩
              omega
          · exact .inl h
        · exact .inl h
theorem marksSeq_from (g : Gr) (es : List Bool) (t : Bool) (k : Nat) : ∀ (ns : List Nd) (l : List Bool), (g.marksSeq es t ns l).getD k false = true → l.getD k false = true ∨ ∃ m ∈ Nd.allL ns, m.isName = true ∧ g.named t m = (k : Int)
  | [], l, h => by
    rw [Gr.marksSeq] at h
    exact .inl h
  | n :: r, l, h => by
    rw [Gr.marksSeq] at h
    rw [Nd.allL]
    split at h
    · rcases marksSeq_from g es t k r _ h with h | ⟨m, hm, hh⟩
      · rcases marks_from g es t k n l h with h | ⟨m, hm, hh⟩
        · exact .inl h
        · exact .inr ⟨m, List.mem_append_left _ hm, hh⟩
      · exact .inr ⟨m, List.mem_append_right _ hm, hh⟩
    · rcases marks_from g es t k n l h with h | ⟨m, hm, hh⟩
      · exact .inl h
      · exact .inr ⟨m, List.mem_append_left _ hm, hh⟩
theorem marksAll_from (g : Gr) (es : List Bool) (t : Bool) (k : Nat) : ∀ (ns : List Nd) (l : List Bool), (g.marksAll es t ns l).getD k false = true → l.getD k false = true ∨ ∃ m ∈ Nd.allL ns, m.isName = true ∧ g.named t m = (k : Int)
  | [], l, h => by
    rw [Gr.marksAll] at h
    exact .inl h
  | n :: r, l, h => by
    rw [Gr.marksAll] at h
    rw [Nd.allL]
    rcases marksAll_from g es t k r _ h with h | ⟨m, hm, hh⟩
    · rcases marks_from g es t k n l h with h | ⟨m, hm, hh⟩
      · exact .inl h
      · exact .inr ⟨m, List.mem_append_left _ hm, hh⟩
    · exact .inr ⟨m, List.mem_append_right _ hm, hh⟩
end

theorem once_names {g : Gr} {es : List Bool} {i k : Nat} (h : g.Once es i k) : ∃ hi : i < g.rules.length, ∃ m ∈ g.rules[i].body.all, m.isName = true ∧ g.named g.rules[i].token m = (k : Int) := by
  unfold Gr.Once at h
  obtain ⟨hi, _⟩ := at2_lt (onceM_square g es) h
  refine ⟨hi, ?_⟩
  unfold at2 Gr.onceM at h
  have hrow : ((List.range g.rules.length).map (g.onceRow es)).getD i [] = g.onceRow es i := by
    rw [List.getD_eq_getElem?_getD, List.getElem?_map, List.getElem?_range hi]
    rfl
  rw [hrow] at h
  unfold Gr.onceRow at h
  rw [List.getElem?_eq_getElem hi] at h
  simp only at h
  rcases marks_from g es _ k _ _ h with h0 | hm
  · rw [List.getD_eq_getElem?_getD, List.getElem?_replicate] at h0
    split at h0 <;> simp at h0
  · exact hm

/-! ### what is told -/
def Rl.parser (r : Rl) : Bool := r.sort == 0
/-- may a node of a rule name a rule of that sort? -/
def sortedB (r : Rl) (n : Nd) (of : Int) : Bool := if n.kind == 5 then r.parser && of == 0 else if r.parser then of == 1 else of == 2
/-- who goes on to whom at once, of rules that are no parser's -/
def Gr.rd0 (g : Gr) (i k : Nat) : Prop := ∃ (hi : i < g.rules.length) (hk : k < g.rules.length), g.rules[i].parser = false ∧ g.rules[k].parser = false ∧ ∃ m ∈ g.rules[i].body.all, m.isName = true ∧ g.find m.name = (k : Int)
structure Prob where
  code : Int
  rule : Int
  name : ByteArray
def Gr.loopBad (g : Gr) (es : List Bool) (r : Rl) (n : Nd) : Bool := (n.kind == 3 || n.kind == 4) && (match n.subs with | [] => false | s :: _ => g.may es r.token s)
def Gr.noneBad (g : Gr) (n : Nd) : Bool := n.isName && decide (g.find n.name < 0)
def Gr.sortBad (g : Gr) (r : Rl) (n : Nd) : Bool := n.isName && (decide (0 ≤ g.find n.name) && !sortedB r n (g.sortAt (g.find n.name)))
def nodesTold (i : Nat) (r : Rl) (code : Int) (wrong : Nd → Bool) : List Prob := (r.body.all.filter wrong).map fun n => ⟨code, i, if code = 6 then r.name else n.name⟩
def Gr.ruleTold (g : Gr) (es : List Bool) (rch rnd : Nat → Nat → Bool) (i : Nat) (r : Rl) : List Prob :=
  (if g.find r.name < (i : Int) then [⟨1, i, r.name⟩] else []) ++ nodesTold i r 2 g.noneBad ++ nodesTold i r 3 (g.sortBad r) ++
  (if r.parser && rch i i then [⟨4, i, r.name⟩] else []) ++ (if rnd i i then [⟨5, i, r.name⟩] else []) ++ nodesTold i r 6 (g.loopBad es r) ++
  (if es.getD i false && (r.sort == 1 || r.sort == 3) then [⟨7, i, r.name⟩] else [])
def Gr.rulesTold (g : Gr) (es : List Bool) (rch rnd : Nat → Nat → Bool) : Nat → List Rl → List Prob
  | _, [] => []
  | i, r :: l => g.ruleTold es rch rnd i r ++ g.rulesTold es rch rnd (i + 1) l
def Gr.start (g : Gr) : Int := ixOf g.rules fun r => r.parser
def Gr.told (g : Gr) (es : List Bool) (rch rnd : Nat → Nat → Bool) : List Prob :=
  g.rulesTold es rch rnd 0 g.rules ++ (if g.start < 0 then [⟨8, -1, { data := #[] }⟩] else [])

theorem rulesTold_at {g : Gr} {es : List Bool} {rch rnd : Nat → Nat → Bool} : ∀ (l : List Rl) (i : Nat), g.rulesTold es rch rnd i l = [] → ∀ j (h : j < l.length), g.ruleTold es rch rnd (i + j) l[j] = []
  | [], _, _, j, h => absurd h (by simp)
  | r :: l, i, hh, j, h => by
    rw [Gr.rulesTold, List.append_eq_nil_iff] at hh
    cases j with
    | zero => exact hh.1
    | succ j =>
      have := rulesTold_at l (i + 1) hh.2 j (by simpa using h)
      rw [show i + (j + 1) = i + 1 + j by omega]
      exact this

/-- nothing is told of a rule -/
structure Quiet (g : Gr) (es : List Bool) (rch rnd : Nat → Nat → Bool) (i : Nat) (r : Rl) : Prop where
  twice : ¬ g.find r.name < (i : Int)
  none_ : ∀ n ∈ r.body.all, g.noneBad n = false
  sorts : ∀ n ∈ r.body.all, g.sortBad r n = false
  left : r.parser = true → rch i i = false
  ring : rnd i i = false
  loop_ : ∀ n ∈ r.body.all, g.loopBad es r n = false
  some_ : es.getD i false = true → r.sort ≠ 1 ∧ r.sort ≠ 3

theorem nodesTold_nil {i : Nat} {r : Rl} {code : Int} {wrong : Nd → Bool} (h : nodesTold i r code wrong = []) : ∀ n ∈ r.body.all, wrong n = false := by
  intro n hn
  cases hw : wrong n
  · rfl
  · have : n ∈ r.body.all.filter wrong := List.mem_filter.2 ⟨hn, hw⟩
    unfold nodesTold at h
    rw [List.map_eq_nil_iff] at h
    rw [h] at this
    cases this
theorem quiet_of {g : Gr} {es : List Bool} {rch rnd : Nat → Nat → Bool} {i : Nat} {r : Rl} (h : g.ruleTold es rch rnd i r = []) : Quiet g es rch rnd i r := by
  unfold Gr.ruleTold at h
  simp only [List.append_eq_nil_iff] at h
  obtain ⟨⟨⟨⟨⟨⟨h1, h2⟩, h3⟩, h4⟩, h5⟩, h6⟩, h7⟩ := h
  refine ⟨?_, nodesTold_nil h2, nodesTold_nil h3, fun hp => ?_, ?_, nodesTold_nil h6, fun he => ?_⟩
  · intro hc
    rw [if_pos hc] at h1
    cases h1
  · cases hr : rch i i
    · rfl
    · rw [if_pos (by rw [hp, hr]; rfl)] at h4
      cases h4
  · cases hr : rnd i i
    · rfl
    · rw [if_pos hr] at h5
      cases h5
  · by_cases hs : r.sort = 1 ∨ r.sort = 3
    · rw [if_pos (by rw [he]; rcases hs with h | h <;> rw [h] <;> rfl)] at h7
      cases h7
    · exact ⟨fun h => hs (.inl h), fun h => hs (.inr h)⟩

/-- where nothing is told no rule reaches itself -/
theorem no_ring {g : Gr} {es : List Bool} {rch rnd : Nat → Nat → Bool} (hq : ∀ i (h : i < g.rules.length), Quiet g es rch rnd i g.rules[i])
    (hr : ∀ i k, rch i k = true → Tc (g.Once es) i k) (hd : ∀ i k, Tc g.rd0 i k → rnd i k = true) (i : Nat) (hi : i < g.rules.length) : rch i i = false := by
  cases hrc : rch i i
  · rfl
  · cases hp : g.rules[i].parser
    · have hone : ∀ a b, (∃ ha : a < g.rules.length, g.rules[a].parser = false) → g.Once es a b → g.rd0 a b := by
        rintro a b ⟨ha, hpa⟩ ho
        obtain ⟨_, m, hm, hn, hnm⟩ := once_names ho
        obtain ⟨hf, _, _⟩ := named_is hnm
        have hsb := (hq a ha).sorts m hm
        have hb : b < g.rules.length := by
          rcases ixOf_cases g.rules (fun r => sameB r.name m.name) with ⟨h1, _⟩ | ⟨j, hj, h1, _⟩
          · unfold Gr.find at hf
            omega
          · unfold Gr.find at hf
            omega
        refine ⟨ha, hb, hpa, ?_, m, hm, hn, hf⟩
        unfold Gr.sortBad at hsb
        rw [hn, hf, sortAt_nat g b hb] at hsb
        unfold sortedB at hsb
        rw [hpa] at hsb
        cases h5 : m.kind == 5
        · rw [h5] at hsb
          have : g.rules[b].sort = 2 := by simpa using hsb
          unfold Rl.parser
          rw [this]
          rfl
        · rw [h5] at hsb
          simp at hsb
      have htc : ∀ a b, Tc (g.Once es) a b → (∃ ha : a < g.rules.length, g.rules[a].parser = false) → Tc g.rd0 a b := by
        intro a b h
        induction h with
        | one h => exact fun hp => .one (hone _ _ hp h)
        | more h _ ih =>
          intro hp
          have h1 := hone _ _ hp h
          obtain ⟨_, hk, _, hpk, _⟩ := h1
          exact .more (hone _ _ hp h) (ih ⟨hk, hpk⟩)
      have := hd i i (htc i i (hr i i hrc) ⟨hi, hp⟩)
      rw [(hq i hi).ring] at this
      cases this
    · have := (hq i hi).left hp
      rw [hrc] at this
      cases this
end Go.Proofs.YtkinlcichclnkaaDoor
