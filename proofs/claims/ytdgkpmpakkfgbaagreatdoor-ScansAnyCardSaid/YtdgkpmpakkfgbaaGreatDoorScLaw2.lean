/- What a scan answers keeps within the text; where a byte of ASCII stands a rune begins. -/
import Derived.Test.YtdgkpmpakkfgbaaGreatDoorScLaw
import Derived.Lib.IndexBytes
import Derived.Lib.Bytes2
namespace Go.Proofs.YtdgkpmpakkfgbaaGreatDoor
open Go.Lib

theorem decode_valid (l : List UInt8) : validRune ((decodeL l).1 : Int) = true := by
  rw [decodeL_N]
  have h0 := (l.getD 0 0).toNat_lt
  unfold validRune
  rcases decodeN_shape l.length (l.getD 0 0).toNat (l.getD 1 0).toNat (l.getD 2 0).toNat (l.getD 3 0).toNat with ⟨c, e⟩ | ⟨c1, c2, c3, cv, e⟩ | ⟨c1, c2, c3, c4, cv, cs, e⟩ | ⟨c1, c2, c3, c4, c5, cv, cw, e⟩ | e
  all_goals rw [e]
  all_goals apply decide_eq_true
  all_goals simp only
  all_goals omega

theorem decodeL_cut (l : List UInt8) (p : Nat) (h : ¬ badAt l) (hne : l ≠ []) (hp : (decodeL l).2 ≤ p) : decodeL (l.take p) = decodeL l := by
  have hp1 := decodeL_pos l
  have hl := List.length_pos_iff.2 hne
  unfold badAt at h
  rw [decodeL_N] at h hp hp1 ⊢
  rw [decodeL_N]
  have hn : (l.take p).length = min p l.length := List.length_take
  have g : ∀ i, i < p → (l.take p).getD i 0 = l.getD i 0 := fun i hi => by
    rw [List.getD_eq_getElem?_getD, List.getD_eq_getElem?_getD, List.getElem?_take, if_pos hi]
  rw [hn, g 0 (by omega)]
  rcases decodeN_shape l.length (l.getD 0 0).toNat (l.getD 1 0).toNat (l.getD 2 0).toNat (l.getD 3 0).toNat with ⟨c, e⟩ | ⟨c1, c2, c3, cv, e⟩ | ⟨c1, c2, c3, c4, cv, cs, e⟩ | ⟨c1, c2, c3, c4, c5, cv, cw, e⟩ | e
  · rw [e]
    unfold decodeN
    rw [if_pos c]
  · rw [e] at hp ⊢
    simp only at hp
    rw [g 1 (by omega), ← e]
    have a1 : 1 < min p l.length := by omega
    unfold decodeN
    simp only [c1, c2, c3, a1, true_and, if_true]
  · rw [e] at hp ⊢
    simp only at hp
    rw [g 1 (by omega), g 2 (by omega), ← e]
    have a1 : 1 < min p l.length := by omega
    have a2 : 2 < min p l.length := by omega
    have b1 : 1 < l.length := by omega
    unfold decodeN
    simp only [c1, c2, c3, c4, a1, a2, b1, true_and, and_self, if_true]
  · rw [e] at hp ⊢
    simp only at hp
    rw [g 1 (by omega), g 2 (by omega), g 3 (by omega), ← e]
    have a1 : 1 < min p l.length := by omega
    have a2 : 2 < min p l.length := by omega
    have a3 : 3 < min p l.length := by omega
    have b1 : 1 < l.length := by omega
    have b2 : 2 < l.length := by omega
    unfold decodeN
    simp only [c1, c2, c3, c4, c5, a1, a2, a3, b1, b2, and_self, if_true]
  · rw [e] at h
    exact absurd ⟨rfl, rfl⟩ h

theorem decodeL_cont (l : List UInt8) (p : Nat) (h0 : 0 < p) (hp : p < (decodeL l).2) : 128 ≤ (l.getD p 0).toNat := by
  rw [decodeL_N] at hp
  rcases decodeN_shape l.length (l.getD 0 0).toNat (l.getD 1 0).toNat (l.getD 2 0).toNat (l.getD 3 0).toNat with ⟨c, e⟩ | ⟨c1, c2, c3, cv, e⟩ | ⟨c1, c2, c3, c4, cv, cs, e⟩ | ⟨c1, c2, c3, c4, c5, cv, cw, e⟩ | e
  all_goals rw [e] at hp
  all_goals simp only at hp
  · omega
  · have : p = 1 := by omega
    subst this
    omega
  · have : p = 1 ∨ p = 2 := by omega
    rcases this with rfl | rfl <;> omega
  · have : p = 1 ∨ p = 2 ∨ p = 3 := by omega
    rcases this with rfl | rfl | rfl <;> omega
  · omega

/-- where a byte of ASCII stands, what is ahead is runes throughout -/
theorem take_good : ∀ (n : Nat) (l : List UInt8) (p q : Nat), l.length ≤ n → badOf l q = -1 → p < l.length → (l.getD p 0).toNat < 128 → badOf (l.take p) q = -1
  | 0, l, p, q, h, _, hp, _ => by omega
  | n + 1, l, p, q, h, hb, hp, ha => by
    rcases Nat.eq_zero_or_pos p with rfl | h0
    · rw [List.take_zero]; exact badOf_nil q
    · have hne : l ≠ [] := by rintro rfl; simp at hp
      rw [badOf_cons l q hne] at hb
      by_cases hba : badAt l
      · rw [if_pos hba] at hb
        omega
      · rw [if_neg hba] at hb
        have hd := decodeL_pos l
        by_cases hdp : (decodeL l).2 ≤ p
        · have hc := decodeL_cut l p hba hne hdp
          have hne2 : l.take p ≠ [] := by
            intro h1
            have := congrArg List.length h1
            rw [List.length_take, List.length_nil] at this
            omega
          have hba2 : ¬ badAt (l.take p) := by
            unfold badAt at hba ⊢
            rw [hc]; exact hba
          rw [badOf_cons _ q hne2, if_neg hba2, hc, List.drop_take]
          refine take_good n _ _ _ (by rw [List.length_drop]; omega) hb (by rw [List.length_drop]; omega) ?_
          rw [List.getD_eq_getElem?_getD, List.getElem?_drop]
          rw [show (decodeL l).2 + (p - (decodeL l).2) = p by omega, ← List.getD_eq_getElem?_getD]
          exact ha
        · have := decodeL_cont l p h0 (by omega)
          omega

theorem among_mem (l : List UInt8) (c : UInt8) (h : amongB l c = true) : c ∈ l := by
  have h0 : 0 ≤ indexByte l c := of_decide_eq_true h
  obtain ⟨o, ho⟩ := Int.eq_ofNat_of_zero_le h0
  have := (indexByte_some ho).1
  exact List.mem_of_getElem? this
theorem among_asc (l : List UInt8) (hl : ∀ x ∈ l, x.toNat < 128) (c : UInt8) (h : amongB l c = true) : c.toNat < 128 := hl c (among_mem l c h)

theorem indexByte_in (l : List UInt8) (c : UInt8) (h : 0 ≤ indexByte l c) : (indexByte l c).toNat < l.length ∧ l[(indexByte l c).toNat]? = some c := by
  obtain ⟨o, ho⟩ := Int.eq_ofNat_of_zero_le h
  have := (indexByte_some ho).1
  rw [ho]
  refine ⟨?_, by simpa using this⟩
  obtain ⟨hlt, _⟩ := List.getElem?_eq_some_iff.1 this
  simpa using hlt

theorem gapF_le (l : List UInt8) : ∀ k p, p ≤ l.length → p ≤ (gapF l k p).1 ∧ (gapF l k p).1 ≤ l.length ∧ ((gapF l k p).2 = 0 ∨ (gapF l k p).2 = 4)
  | 0, p, h => ⟨Nat.le_refl _, h, .inl rfl⟩
  | k + 1, p, h => by
    rw [gapF]
    split
    · next h1 =>
      have : p < l.length := by
        apply Classical.byContradiction
        intro hn
        exact h1.1 (List.drop_eq_nil_of_le (by omega))
      have := gapF_le l k (p + 1) (by omega)
      omega
    · split
      · next h2 =>
        split
        · next h3 =>
          have hi := (indexByte_in _ _ h3).1
          rw [List.length_drop] at hi
          have := gapF_le l k (p + (indexByte (l.drop p) 10).toNat) (by omega)
          omega
        · have := gapF_le l k l.length (Nat.le_refl _)
          omega
      · split
        · split
          · exact ⟨Nat.le_refl _, h, .inr rfl⟩
          · next h3 =>
            have hr := index_room (((l.drop p).drop 2)) [42, 47] (by omega)
            rw [List.length_drop, List.length_drop] at hr
            simp only [List.length_cons, List.length_nil] at hr
            have := gapF_le l k (p + ((index ((l.drop p).drop 2) [42, 47]).toNat + 4)) (by omega)
            omega
        · exact ⟨Nat.le_refl _, h, .inl rfl⟩

theorem trimLeftS_le (s cs : List UInt8) : (trimLeftS s cs).length ≤ s.length := by
  unfold trimLeftS
  exact (List.dropWhile_sublist _).length_le
theorem manyN_le (s cs : List UInt8) : manyN s cs ≤ s.length := by unfold manyN; omega
theorem manyN_pos (s cs : List UInt8) (hne : s ≠ []) (h : s.getD 0 0 ∈ cs) : 0 < manyN s cs := by
  cases s with
  | nil => exact absurd rfl hne
  | cons c t =>
    unfold manyN trimLeftS
    rw [List.dropWhile_cons, if_pos (by simpa using h)]
    have := (List.dropWhile_sublist (l := t) (cs.contains ·)).length_le
    simp only [List.length_cons]
    omega

theorem cut_len (s : List UInt8) (c : UInt8) (h : (cut s [c]).2.2 = true) : (cut s [c]).1.length + 1 ≤ s.length ∧ (cut s [c]).1.length = (index s [c]).toNat ∧ 0 ≤ index s [c] := by
  unfold cut at h ⊢
  by_cases hi : 0 ≤ index s [c]
  · rw [if_pos hi]
    have hr := index_room s [c] hi
    simp only [List.length_cons, List.length_nil] at hr
    simp only [List.length_take]
    exact ⟨by omega, by omega, hi⟩
  · rw [if_neg hi] at h
    simp at h

theorem numF_in (s : List UInt8) (r n : Nat) (h : numF s = some (r, n)) : 1 ≤ n ∧ n ≤ s.length ∧ validRune r = true := by
  unfold numF at h
  simp only at h
  split at h
  · next hc =>
    obtain ⟨h1, h2, h3, h4, h5⟩ := hc
    simp only [Option.some.injEq, Prod.mk.injEq] at h
    obtain ⟨rfl, rfl⟩ := h
    have := cut_len s 125 h1
    exact ⟨by omega, by omega, h5⟩
  · exact absurd h (by simp)

theorem escF_in (s : List UInt8) (r n : Nat) (h : escF s = some (r, n)) : 2 ≤ n ∧ n ≤ s.length ∧ validRune r = true := by
  unfold escF at h
  split at h
  · next c t =>
    have hv : ∀ c : UInt8, validRune (c.toNat : Int) = true := fun c => by
      have := c.toNat_lt
      unfold validRune
      apply decide_eq_true
      omega
    repeat' split at h
    all_goals try (simp only [Option.some.injEq, Prod.mk.injEq] at h; obtain ⟨rfl, rfl⟩ := h; first | exact ⟨by omega, by simp, by decide⟩ | exact ⟨by omega, by simp, hv _⟩)
    all_goals try (simp at h; done)
    next u =>
      cases hn : numF u with
      | none => rw [hn] at h; exact absurd h (by simp)
      | some x =>
        obtain ⟨r', n'⟩ := x
        rw [hn] at h
        simp only [Option.map_some, Option.some.injEq, Prod.mk.injEq] at h
        obtain ⟨rfl, rfl⟩ := h
        have := numF_in u r' n' hn
        simp only [List.length_cons]
        exact ⟨by omega, by omega, this.2.2⟩
  · exact absurd h (by simp)

theorem decodeL_le (l : List UInt8) (hne : l ≠ []) (h : ¬ badAt l) : (decodeL l).2 ≤ l.length := (decodeL_ext l [] h hne).2.2

theorem runeF_in (but s : List UInt8) (r n : Nat) (h : runeF but s = some (r, n)) : 1 ≤ n ∧ n ≤ s.length ∧ validRune r = true := by
  unfold runeF at h
  cases he : escF s with
  | some x =>
    rw [he] at h
    simp only [Option.some.injEq] at h
    subst h
    have := escF_in s r n he
    exact ⟨by omega, this.2.1, this.2.2⟩
  | none =>
    rw [he] at h
    simp only at h
    split at h
    · exact absurd h (by simp)
    · next hc =>
      simp only [Option.some.injEq, Prod.mk.injEq] at h
      obtain ⟨rfl, rfl⟩ := h
      have h1 : s ≠ [] := fun e => hc (.inl e)
      have h2 : ¬ badAt s := fun e => hc (.inr (.inl e))
      exact ⟨decodeL_pos s, decodeL_le s h1 h2, decode_valid s⟩

theorem drop_head (l : List UInt8) (p : Nat) (c : UInt8) (h : (l.drop p).head? = some c) : p < l.length := by
  apply Classical.byContradiction
  intro hn
  rw [List.drop_eq_nil_of_le (by omega)] at h
  simp at h

theorem bytesOf_ne (r : Int) (h : validRune r = true) : bytesOf r ≠ [] := by
  have := (decode_bytes r h []).2
  intro h0
  rw [h0] at this
  simp at this

theorem textF_in (l : List UInt8) (f : Nat) : ∀ k p acc, p ≤ l.length → ((textF l f k p acc).2.1 = 0 → p < (textF l f k p acc).1 ∧ (textF l f k p acc).1 ≤ l.length ∧ (textF l f k p acc).2.2 ≠ []) ∧
    ((textF l f k p acc).2.1 ≠ 0 → (textF l f k p acc).1 = f ∧ (textF l f k p acc).2.1 = 4)
  | 0, p, acc, h => ⟨fun h => absurd h (by simp [textF]), fun _ => ⟨rfl, rfl⟩⟩
  | k + 1, p, acc, h => by
    rw [textF]
    split
    · next h1 =>
      have := drop_head l p _ h1
      split
      · exact ⟨fun h => absurd h (by simp), fun _ => ⟨rfl, rfl⟩⟩
      · next h2 => exact ⟨fun _ => ⟨by simp, by simp only; omega, h2⟩, fun h => absurd rfl h⟩
    · cases hr : runeF [39] (l.drop p) with
      | none => exact ⟨fun h => absurd h (by simp), fun _ => ⟨rfl, rfl⟩⟩
      | some x =>
        obtain ⟨r, n⟩ := x
        have := runeF_in _ _ _ _ hr
        rw [List.length_drop] at this
        have ih := textF_in l f k (p + n) (acc ++ bytesOf r) (by omega)
        simp only
        exact ⟨fun h => by obtain ⟨a1, a2, a3⟩ := ih.1 h; exact ⟨by omega, a2, a3⟩, ih.2⟩

theorem rangeF_in (l : List UInt8) (p : Nat) (x : Nat × Nat) (q : Nat) (hp : p ≤ l.length) (h : rangeF l p = some (x, q)) : p < q ∧ q ≤ l.length ∧ validRune x.1 = true ∧ validRune x.2 = true ∧ x.1 ≤ x.2 := by
  unfold rangeF at h
  cases hr : runeF [91, 93, 45] (l.drop p) with
  | none => rw [hr] at h; exact absurd h (by simp)
  | some y =>
    obtain ⟨r, n⟩ := y
    have h1 := runeF_in _ _ _ _ hr
    rw [List.length_drop] at h1
    rw [hr] at h
    simp only at h
    split at h
    · next h45 =>
      cases hr2 : runeF [91, 93, 45] (l.drop (p + n + 1)) with
      | none => rw [hr2] at h; exact absurd h (by simp)
      | some z =>
        obtain ⟨s, m⟩ := z
        have h2 := runeF_in _ _ _ _ hr2
        rw [List.length_drop] at h2
        rw [hr2] at h
        simp only at h
        split at h
        · exact absurd h (by simp)
        · next hlt =>
          simp only [Option.some.injEq, Prod.mk.injEq] at h
          obtain ⟨rfl, rfl⟩ := h
          exact ⟨by omega, by omega, h1.2.2, h2.2.2, by simp only; omega⟩
    · simp only [Option.some.injEq, Prod.mk.injEq] at h
      obtain ⟨rfl, rfl⟩ := h
      exact ⟨by omega, by omega, h1.2.2, h1.2.2, Nat.le_refl _⟩

theorem setF_in (l : List UInt8) (f : Nat) : ∀ k p acc, p ≤ l.length → ((setF l f k p acc).2.1 = 0 → p < (setF l f k p acc).1 ∧ (setF l f k p acc).1 ≤ l.length) ∧
    ((setF l f k p acc).2.1 ≠ 0 → (setF l f k p acc).1 = f ∧ (setF l f k p acc).2.1 = 4)
  | 0, p, acc, h => ⟨fun h => absurd h (by simp [setF]), fun _ => ⟨rfl, rfl⟩⟩
  | k + 1, p, acc, h => by
    rw [setF]
    split
    · next h1 =>
      have := drop_head l p _ h1
      split
      · exact ⟨fun h => absurd h (by simp), fun _ => ⟨rfl, rfl⟩⟩
      · exact ⟨fun _ => ⟨by simp, by simp only; omega⟩, fun h => absurd rfl h⟩
    · cases hr : rangeF l p with
      | none => exact ⟨fun h => absurd h (by simp), fun _ => ⟨rfl, rfl⟩⟩
      | some x =>
        obtain ⟨r, q⟩ := x
        have := rangeF_in _ _ _ _ h hr
        have ih := setF_in l f k q (acc ++ [r]) (by omega)
        simp only
        exact ⟨fun h => by have := ih.1 h; omega, ih.2⟩

def WdOk (l : List UInt8) (w : Wd) : Prop :=
  w.at_ < l.length ∧ (l.getD w.at_ 0).toNat < 128 ∧ w.kind ≤ 4 ∧ ((w.kind = 0 ∨ w.kind = 1 ∨ w.kind = 4) → w.text ≠ [] ∧ w.at_ + w.text.length ≤ l.length ∧ w.text = (l.drop w.at_).take w.text.length)

theorem take_ok (l : List UInt8) (p n : Nat) (h0 : 0 < n) (h : p + n ≤ l.length) : (l.drop p).take n ≠ [] ∧ p + ((l.drop p).take n).length ≤ l.length ∧ (l.drop p).take n = (l.drop p).take ((l.drop p).take n).length := by
  have hl : ((l.drop p).take n).length = n := by rw [List.length_take, List.length_drop]; omega
  rw [hl]
  refine ⟨fun e => ?_, by omega, rfl⟩
  rw [e] at hl
  simp at hl
  omega

theorem markF_in (s : List UInt8) (h : s ≠ []) : markF s ≤ s.length ∧ (markF s ≠ 0 → (s.getD 0 0).toNat < 128) := by
  have hpos := List.length_pos_iff.2 h
  unfold markF
  have hh : ∀ a b : UInt8, hasPrefix s [a, b] = true → 2 ≤ s.length ∧ s.getD 0 0 = a := fun a b hp => by
    have hl := hasPrefix_le hp
    unfold hasPrefix at hp
    cases s with
    | nil => exact absurd rfl h
    | cons x t =>
      simp at hp
      exact ⟨hl, by simp [hp.1]⟩
  repeat' split
  · next h1 =>
    have := hh _ _ h1
    exact ⟨this.1, fun _ => by rw [this.2]; decide⟩
  · next h1 =>
    have := hh _ _ h1
    exact ⟨this.1, fun _ => by rw [this.2]; decide⟩
  · next h1 => exact ⟨by omega, fun _ => among_asc marksL (by decide) _ h1⟩
  · exact ⟨by omega, fun h => absurd rfl h⟩

theorem getD_drop (l : List UInt8) (p : Nat) : (l.drop p).getD 0 0 = l.getD p 0 := by
  rw [List.getD_eq_getElem?_getD, List.getD_eq_getElem?_getD, List.getElem?_drop, Nat.add_zero]

theorem wordF_ok (l : List UInt8) (p : Nat) (hp : p < l.length) : (wordF l p).1.at_ = p ∧ ((wordF l p).2.2 = 0 → WdOk l (wordF l p).1 ∧ p < (wordF l p).2.1 ∧ (wordF l p).2.1 ≤ l.length) ∧
    ((wordF l p).2.2 ≠ 0 → (wordF l p).2.1 = p ∧ ((wordF l p).2.2 = 3 ∨ (wordF l p).2.2 = 4)) := by
  have hne : l.drop p ≠ [] := by
    intro h
    have := congrArg List.length h
    rw [List.length_drop] at this
    simp at this
    omega
  have hlen : (l.drop p).length = l.length - p := List.length_drop
  have hL : ∀ x ∈ lettersL, x ∈ nameL := fun x hx => by unfold nameL; simp [hx]
  unfold wordF
  simp only
  split
  · next h1 =>
    have hm := manyN_pos (l.drop p) nameL hne (hL _ (among_mem _ _ h1))
    have hle := manyN_le (l.drop p) nameL
    split
    · exact ⟨rfl, fun h => absurd h (by simp), fun _ => ⟨rfl, .inl rfl⟩⟩
    · have := take_ok l p (manyN (l.drop p) nameL) hm (by omega)
      refine ⟨rfl, fun _ => ⟨⟨hp, ?_, by simp, fun _ => this⟩, by simp only; omega, by simp only; omega⟩, fun h => absurd rfl h⟩
      simp only
      rw [← getD_drop]
      exact among_asc lettersL (by decide) _ h1
  · split
    · next h1 =>
      have hm := manyN_pos (l.drop p) digitsL hne (among_mem _ _ h1)
      have hle := manyN_le (l.drop p) digitsL
      split
      · exact ⟨rfl, fun h => absurd h (by simp), fun _ => ⟨rfl, .inl rfl⟩⟩
      · have := take_ok l p (manyN (l.drop p) digitsL) hm (by omega)
        refine ⟨rfl, fun _ => ⟨⟨hp, ?_, by simp, fun _ => this⟩, by simp only; omega, by simp only; omega⟩, fun h => absurd rfl h⟩
        simp only
        rw [← getD_drop]
        exact among_asc digitsL (by decide) _ h1
    · split
      · next h1 =>
        have ht := textF_in l p (l.length + 1) (p + 1) [] (by omega)
        refine ⟨rfl, fun h => ⟨⟨hp, ?_, by simp, fun h => absurd h (by simp)⟩, ?_, ?_⟩, fun h => ?_⟩
        · simp only
          rw [← getD_drop, h1]
          decide
        · have := ht.1 h; simp only; omega
        · have := ht.1 h; simp only; omega
        · exact ⟨(ht.2 h).1, .inr (ht.2 h).2⟩
      · split
        · next h1 =>
          have ht := setF_in l p (l.length + 1) (p + 1) [] (by omega)
          refine ⟨rfl, fun h => ⟨⟨hp, ?_, by simp, fun h => absurd h (by simp)⟩, ?_, ?_⟩, fun h => ?_⟩
          · simp only
            rw [← getD_drop, h1]
            decide
          · have := ht.1 h; simp only; omega
          · have := ht.1 h; simp only; omega
          · exact ⟨(ht.2 h).1, .inr (ht.2 h).2⟩
        · have hm := markF_in (l.drop p) hne
          by_cases h0 : markF (l.drop p) = 0
          · rw [if_pos h0, h0]
            exact ⟨rfl, fun h => absurd h (by simp), fun _ => ⟨rfl, .inr rfl⟩⟩
          · rw [if_neg h0]
            have := take_ok l p (markF (l.drop p)) (by omega) (by omega)
            refine ⟨rfl, fun _ => ⟨⟨hp, ?_, by simp, fun _ => this⟩, by simp only; omega, by simp only; omega⟩, fun h => absurd rfl h⟩
            simp only
            rw [← getD_drop]
            exact hm.2 h0

/-- words that stand in a text, one behind the other -/
def WdsOk (l : List UInt8) (ws : List Wd) : Prop := (∀ w ∈ ws, WdOk l w) ∧ ws.Pairwise fun a b => a.at_ < b.at_

theorem wordsF_ok (l : List UInt8) : ∀ k p acc, p ≤ l.length → WdsOk l acc → (∀ w ∈ acc, w.at_ < p) →
    ((wordsF l k p acc).2.2 = 0 → (wordsF l k p acc).2.1 = 0 ∧ WdsOk l (wordsF l k p acc).1) ∧ ((wordsF l k p acc).2.2 ≠ 0 → (wordsF l k p acc).1 = [] ∧ (wordsF l k p acc).2.1 ≤ l.length ∧ ((wordsF l k p acc).2.2 = 3 ∨ (wordsF l k p acc).2.2 = 4))
  | 0, p, acc, hp, ha, hb => ⟨fun _ => ⟨rfl, ha⟩, fun h => absurd rfl h⟩
  | k + 1, p, acc, hp, ha, hb => by
    have hg := gapF_le l (l.length + 1) p hp
    rw [wordsF]
    simp only
    split
    · next h => exact ⟨fun h2 => absurd h2 h, fun _ => ⟨rfl, hg.2.1, .inr (hg.2.2.resolve_left h)⟩⟩
    · split
      · exact ⟨fun _ => ⟨rfl, ha⟩, fun h => absurd rfl h⟩
      · next hge =>
        have hw := wordF_ok l (gapF l (l.length + 1) p).1 (by omega)
        split
        · next he => exact ⟨fun h2 => absurd h2 he, fun _ => ⟨rfl, by have := hw.2.2 he; simp only; omega, (hw.2.2 he).2⟩⟩
        · next he =>
          obtain ⟨h1, h2, h3⟩ := hw.2.1 (by simpa using he)
          refine wordsF_ok l k _ _ h3 ⟨fun w hm => ?_, ?_⟩ fun w hm => ?_
          · rcases List.mem_append.1 hm with h | h
            · exact ha.1 w h
            · rw [List.mem_singleton.1 h]; exact h1
          · rw [List.pairwise_append]
            refine ⟨ha.2, by simp, fun a hA b hB => ?_⟩
            rw [List.mem_singleton.1 hB, hw.1]
            have := hb a hA
            omega
          · rcases List.mem_append.1 hm with h | h
            · have := hb w h; omega
            · rw [List.mem_singleton.1 h, hw.1]; exact h2

theorem badL_lt : ∀ (f : Nat) (l : List UInt8) (p : Nat), badL f l p < (p + l.length : Nat) ∨ badL f l p = -1
  | 0, _, _ => .inr rfl
  | f + 1, l, p => by
    rw [badL]
    split
    · exact .inr rfl
    · next hne =>
      have := List.length_pos_iff.2 hne
      split
      · left; omega
      · next hb =>
        have h2 := decodeL_le l hne hb
        rcases badL_lt f (l.drop (decodeL l).2) (p + (decodeL l).2) with h | h
        · left
          rw [List.length_drop] at h
          omega
        · exact .inr h

/-- what a scan answers -/
theorem scanF_ok (l : List UInt8) : ((scanF l).2.2 = 0 → (scanF l).2.1 = 0 ∧ WdsOk l (scanF l).1 ∧ badOf l 0 = -1) ∧ ((scanF l).2.2 ≠ 0 → (scanF l).1 = [] ∧ (scanF l).2.1 ≤ l.length ∧ ((scanF l).2.2 = 3 ∨ (scanF l).2.2 = 4)) := by
  unfold scanF
  split
  · exact ⟨fun h => absurd h (by simp), fun _ => ⟨rfl, Nat.zero_le _, .inl rfl⟩⟩
  · split
    · have hb : badOf l 0 < ((0 + l.length : Nat) : Int) ∨ badOf l 0 = -1 := badL_lt l.length l 0
      refine ⟨fun h => absurd h (by simp), fun _ => ⟨rfl, ?_, .inr rfl⟩⟩
      show (badOf l 0).toNat ≤ l.length
      omega
    · have := wordsF_ok l (l.length + 1) 0 [] (Nat.zero_le _) ⟨fun w h => absurd h (by simp), by simp⟩ (fun w h => absurd h (by simp))
      have hge : ∀ (f : Nat) (l : List UInt8) (p : Nat), -1 ≤ badL f l p := by
        intro f
        induction f with
        | zero => intro l p; simp [badL]
        | succ f ih =>
          intro l p
          rw [badL]
          split
          · omega
          · split
            · omega
            · exact ih _ _
      refine ⟨fun h => ⟨(this.1 h).1, (this.1 h).2, ?_⟩, this.2⟩
      have := hge l.length l 0
      unfold badOf at *
      omega
end Go.Proofs.YtdgkpmpakkfgbaaGreatDoor
