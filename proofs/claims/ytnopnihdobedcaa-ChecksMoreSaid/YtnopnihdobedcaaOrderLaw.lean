/- Plain law for ChecksFine: rules that go round no ring are all put in order, by as many rounds as there are rules. -/
import Derived.Lib.Hide
namespace Go.Proofs.Ytnopnihdobedcaa

/-- is rule i ready: not put yet, and all that it reaches (up to m) put? -/
def readyTo (r : Nat → Nat → Bool) (ds : List Bool) (i : Nat) : Nat → Bool
  | 0 => !ds.getD i false
  | m + 1 => readyTo r ds i m && (!r i m || ds.getD m false)
def putOne (r : Nat → Nat → Bool) (n : Nat) (ds : List Bool) (i : Nat) : List Bool := if readyTo r ds i n then ds.set i true else ds
def putTo (r : Nat → Nat → Bool) (n : Nat) (ds : List Bool) : Nat → List Bool
  | 0 => ds
  | m + 1 => putOne r n (putTo r n ds m) m
def putAll (r : Nat → Nat → Bool) (n : Nat) (ds : List Bool) : Nat → List Bool
  | 0 => ds
  | m + 1 => putTo r n (putAll r n ds m) n

theorem readyTo_iff (r : Nat → Nat → Bool) (ds : List Bool) (i : Nat) : ∀ m, readyTo r ds i m = true ↔ ds.getD i false = false ∧ ∀ k, k < m → r i k = true → ds.getD k false = true
  | 0 => by simp [readyTo]
  | m + 1 => by
    rw [readyTo, Bool.and_eq_true, readyTo_iff r ds i m, Bool.or_eq_true, Bool.not_eq_true']
    refine ⟨fun ⟨⟨h1, h2⟩, h3⟩ => ⟨h1, fun k hk hr => ?_⟩, fun ⟨h1, h2⟩ => ⟨⟨h1, fun k hk hr => h2 k (by omega) hr⟩, ?_⟩⟩
    · by_cases hkm : k = m
      · subst hkm
        rcases h3 with h | h
        · rw [hr] at h
          cases h
        · exact h
      · exact h2 k (by omega) hr
    · cases hr : r i m
      · exact .inl rfl
      · exact .inr (h2 m (Nat.lt_succ_self m) hr)

/-- what is put stays put -/
def leD (a b : List Bool) : Prop := a.length = b.length ∧ ∀ k, a.getD k false = true → b.getD k false = true
theorem leD.refl (a : List Bool) : leD a a := ⟨rfl, fun _ h => h⟩
theorem leD.trans {a b c : List Bool} (h : leD a b) (g : leD b c) : leD a c := ⟨h.1.trans g.1, fun k hk => g.2 k (h.2 k hk)⟩
theorem getD_set (l : List Bool) (i k : Nat) (v : Bool) : (l.set i v).getD k false = if k = i ∧ i < l.length then v else l.getD k false := by
  rw [List.getD_eq_getElem?_getD, List.getD_eq_getElem?_getD, List.getElem?_set]
  by_cases h : i = k
  · subst h
    by_cases h2 : i < l.length
    · simp [h2]
    · simp [h2]
  · rw [if_neg h, if_neg (fun x => h x.1.symm)]
theorem putOne_le (r : Nat → Nat → Bool) (n : Nat) (ds : List Bool) (i : Nat) : leD ds (putOne r n ds i) := by
  unfold putOne
  split
  · refine ⟨by simp, fun k hk => ?_⟩
    rw [getD_set]
    split
    · rfl
    · exact hk
  · exact leD.refl _
theorem putTo_le (r : Nat → Nat → Bool) (n : Nat) (ds : List Bool) : ∀ m, leD ds (putTo r n ds m)
  | 0 => leD.refl _
  | m + 1 => (putTo_le r n ds m).trans (putOne_le r n _ m)
theorem putAll_le (r : Nat → Nat → Bool) (n : Nat) (ds : List Bool) : ∀ m, leD ds (putAll r n ds m)
  | 0 => leD.refl _
  | m + 1 => (putAll_le r n ds m).trans (putTo_le r n _ n)
theorem putTo_mid (r : Nat → Nat → Bool) (n : Nat) (ds : List Bool) : ∀ m i, i < m → leD (putTo r n ds (i + 1)) (putTo r n ds m)
  | 0, i, h => absurd h (by omega)
  | m + 1, i, h => by
    by_cases hi : i = m
    · subst hi
      exact leD.refl _
    · exact (putTo_mid r n ds m i (by omega)).trans (putOne_le r n _ m)

/-- how many are put -/
def putCount (ds : List Bool) : Nat := ds.count true
theorem count_set (l : List Bool) (i : Nat) (h : i < l.length) (hf : l.getD i false = false) : (l.set i true).count true = l.count true + 1 := by
  have hg : l[i] = false := by
    rw [List.getD_eq_getElem?_getD, List.getElem?_eq_getElem h] at hf
    exact hf
  rw [List.count_set h, hg]
  simp
theorem putOne_count (r : Nat → Nat → Bool) (n : Nat) (ds : List Bool) (i : Nat) (h : i < ds.length) : (putOne r n ds i).count true = if readyTo r ds i n then ds.count true + 1 else ds.count true := by
  unfold putOne
  split
  · next hr => exact count_set ds i h ((readyTo_iff r ds i n).1 hr).1
  · rfl
theorem leD_count : ∀ (a b : List Bool), leD a b → a.count true ≤ b.count true
  | [], b, h => by simp
  | x :: a, [], h => absurd h.1 (by simp)
  | x :: a, y :: b, h => by
    have hr : leD a b := ⟨by have := h.1; simpa using this, fun k hk => by have := h.2 (k + 1); simp only [List.getD_cons_succ] at this; exact this hk⟩
    have ih := leD_count a b hr
    have h0 := h.2 0
    simp only [List.getD_cons_zero] at h0
    cases x <;> cases y <;> simp_all <;> omega

/-- how many of n a rule reaches -/
def reachCount (r : Nat → Nat → Bool) (i : Nat) : Nat → Nat
  | 0 => 0
  | m + 1 => reachCount r i m + (if r i m then 1 else 0)
theorem reachCount_le (r : Nat → Nat → Bool) (i k : Nat) : ∀ m, (∀ x, x < m → r k x = true → r i x = true) → reachCount r k m ≤ reachCount r i m
  | 0, _ => Nat.le_refl _
  | m + 1, h => by
    have ih := reachCount_le r i k m (fun x hx => h x (by omega))
    rw [reachCount, reachCount]
    have := h m (Nat.lt_succ_self m)
    cases hk : r k m
    · simp
      omega
    · rw [this hk]
      simp
      omega
theorem reachCount_lt (r : Nat → Nat → Bool) (i k y : Nat) : ∀ m, (∀ x, x < m → r k x = true → r i x = true) → y < m → r i y = true → r k y = false → reachCount r k m < reachCount r i m
  | 0, _, h, _, _ => absurd h (by omega)
  | m + 1, h, hy, h1, h2 => by
    rw [reachCount, reachCount]
    by_cases hm : y = m
    · subst hm
      have := reachCount_le r i k y (fun x hx => h x (by omega))
      rw [h1, h2]
      simp
      omega
    · have ih := reachCount_lt r i k y m (fun x hx => h x (by omega)) (by omega) h1 h2
      have := h m (Nat.lt_succ_self m)
      cases hk : r k m
      · simp
        omega
      · rw [this hk]
        simp
        omega

/-- where no rule reaches itself, one that is not put is ready, if any is not put -/
theorem some_ready (r : Nat → Nat → Bool) (n : Nat) (ds : List Bool) (ht : ∀ i j k, i < n → j < n → k < n → r i j = true → r j k = true → r i k = true) (hir : ∀ i, i < n → r i i = false) :
    ∀ (c i : Nat), reachCount r i n ≤ c → i < n → ds.getD i false = false → ∃ j, j < n ∧ readyTo r ds j n = true := by
  intro c
  induction c with
  | zero =>
    intro i hc hi hd
    refine ⟨i, hi, (readyTo_iff r ds i n).2 ⟨hd, fun k hk hr => ?_⟩⟩
    have := reachCount_lt r i i k n (fun _ _ h => h) hk hr
    apply Classical.byContradiction
    intro _
    have hpos : 0 < reachCount r i n := by
      have hle : ∀ m, k < m → 0 < reachCount r i m := by
        intro m
        induction m with
        | zero => intro h; omega
        | succ m ih =>
          intro h
          rw [reachCount]
          by_cases hkm : k = m
          · subst hkm
            rw [hr]
            simp
          · have := ih (by omega)
            omega
      exact hle n hk
    omega
  | succ c ih =>
    intro i hc hi hd
    by_cases hall : ∀ k, k < n → r i k = true → ds.getD k false = true
    · exact ⟨i, hi, (readyTo_iff r ds i n).2 ⟨hd, hall⟩⟩
    · have : ∃ k, k < n ∧ r i k = true ∧ ds.getD k false = false := by
        apply Classical.byContradiction
        intro hno
        exact hall fun k hk hr => by
          cases hdk : ds.getD k false
          · exact absurd ⟨k, hk, hr, hdk⟩ hno
          · rfl
      obtain ⟨k, hk, hr, hdk⟩ := this
      refine ih k ?_ hk hdk
      have := reachCount_lt r i k k n (fun x hx h => ht i k x hi hk hx hr h) hk hr (hir k hk)
      omega

/-- one round puts one more, if any is not put -/
theorem round_more (r : Nat → Nat → Bool) (n : Nat) (ds : List Bool) (hl : ds.length = n) (ht : ∀ i j k, i < n → j < n → k < n → r i j = true → r j k = true → r i k = true) (hir : ∀ i, i < n → r i i = false) (hn : ds.count true < n) :
    ds.count true < (putTo r n ds n).count true := by
  have hex : ∃ i, i < n ∧ ds.getD i false = false := by
    apply Classical.byContradiction
    intro hno
    have : ∀ x ∈ ds, x = true := fun x hx => by
      obtain ⟨i, hi, rfl⟩ := List.mem_iff_getElem.1 hx
      cases hb : ds[i]
      · exact absurd ⟨i, by omega, by rw [List.getD_eq_getElem?_getD, List.getElem?_eq_getElem hi, hb]; rfl⟩ hno
      · rfl
    have := List.count_eq_length.2 (fun x hx => (this x hx).symm)
    omega
  obtain ⟨i, hi, hd⟩ := hex
  obtain ⟨j, hj, hready⟩ := some_ready r n ds ht hir _ i (Nat.le_refl _) hi hd
  obtain ⟨hdj, hall⟩ := (readyTo_iff r ds j n).1 hready
  have h1 := putTo_le r n ds j
  have hl1 : (putTo r n ds j).length = n := by rw [← h1.1, hl]
  -- at j: put already, or put now
  have hput : (putTo r n ds (j + 1)).getD j false = true := by
    rw [putTo]
    unfold putOne
    cases hb : (putTo r n ds j).getD j false
    · rw [if_pos ((readyTo_iff r _ j n).2 ⟨hb, fun k hk hr => h1.2 k (hall k hk hr)⟩), getD_set, if_pos ⟨rfl, by omega⟩]
    · rw [if_neg (by
        intro hx
        have := ((readyTo_iff r _ j n).1 hx).1
        rw [hb] at this
        cases this)]
      exact hb
  have h2 := (putTo_mid r n ds n j hj).2 j hput
  -- so the count has grown
  have hle := putTo_le r n ds n
  have hset : leD (ds.set j true) (putTo r n ds n) := by
    refine ⟨by rw [List.length_set]; exact hle.1, fun k hk => ?_⟩
    rw [getD_set] at hk
    split at hk
    · next h => rw [h.1]; exact h2
    · exact hle.2 k hk
  have := leD_count _ _ hset
  rw [count_set ds j (by omega) hdj] at this
  omega

/-- so many rounds put all -/
theorem rounds_all (r : Nat → Nat → Bool) (n : Nat) (ds : List Bool) (hl : ds.length = n) (ht : ∀ i j k, i < n → j < n → k < n → r i j = true → r j k = true → r i k = true) (hir : ∀ i, i < n → r i i = false) :
    ∀ m, min m n ≤ (putAll r n ds m).count true
  | 0 => by simp
  | m + 1 => by
    have ih := rounds_all r n ds hl ht hir m
    have h1 := (putAll_le r n ds m).1
    have h2 := leD_count _ _ (putTo_le r n (putAll r n ds m) n)
    rw [putAll]
    by_cases hlt : (putAll r n ds m).count true < n
    · have := round_more r n (putAll r n ds m) (by omega) ht hir hlt
      omega
    · omega
end Go.Proofs.Ytnopnihdobedcaa
