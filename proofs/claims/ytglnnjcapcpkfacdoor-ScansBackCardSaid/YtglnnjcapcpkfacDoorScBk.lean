/- Words that are written anew, with gaps between, are read as the same words. -/
import Derived.Test.YtglnnjcapcpkfacDoorScTx
namespace Go.Proofs.YtglnnjcapcpkfacDoor
open Go.Lib

/-- the texts of runes, one behind the other -/
def textsL : List Int → List UInt8
  | [] => []
  | r :: l => textL r ++ textsL l
/-- the text of a set's ranges -/
def rangesL : List (Nat × Nat) → List UInt8
  | [] => []
  | (a, b) :: l => textL (a : Int) ++ 45 :: (textL (b : Int) ++ rangesL l)
/-- a word, written anew; R: the runes of its text -/
def writtenL (w : Wd) (R : List Int) : List UInt8 :=
  if w.kind = 2 then 39 :: (textsL R ++ [39]) else if w.kind = 3 then 91 :: (rangesL w.set ++ [93]) else w.text

/-- what a word that was read is like -/
structure Whole (w : Wd) (R : List Int) : Prop where
  name : w.kind = 0 → w.set = [] ∧ (∃ c t, w.text = c :: t ∧ amongB lettersL c = true) ∧ (∀ c ∈ w.text, c ∈ nameL) ∧ w.text.length ≤ 64
  num : w.kind = 1 → w.set = [] ∧ (∃ c t, w.text = c :: t ∧ amongB digitsL c = true) ∧ (∀ c ∈ w.text, c ∈ digitsL) ∧ w.text.length ≤ 9
  text : w.kind = 2 → w.set = [] ∧ R ≠ [] ∧ (∀ r ∈ R, Lib.validRune r = true) ∧ w.text = allBytes R
  set : w.kind = 3 → w.text = [] ∧ w.set ≠ [] ∧ ∀ x ∈ w.set, Lib.validRune (x.1 : Int) = true ∧ Lib.validRune (x.2 : Int) = true ∧ x.1 ≤ x.2
  mark : w.kind = 4 → w.set = [] ∧ (w.text = [61, 62] ∨ w.text = [46, 46] ∨ ∃ c, w.text = [c] ∧ c ∈ marksL)
  kind : w.kind ≤ 4

theorem drop_more {l : List UInt8} {p : Nat} {a m : List UInt8} (h : l.drop p = a ++ m) : l.drop (p + a.length) = m := by
  rw [← List.drop_drop, h, List.drop_left]

theorem textF_back (l : List UInt8) (f : Nat) (m : List UInt8) : ∀ (R : List Int) (k p : Nat) (acc : List UInt8), R.length < k → (∀ r ∈ R, Lib.validRune r = true) → acc ++ allBytes R ≠ [] →
    l.drop p = textsL R ++ 39 :: m → textF l f k p acc = (p + (textsL R).length + 1, 0, acc ++ allBytes R)
  | [], 0, p, acc, hk, _, _, _ => by simp at hk
  | [], k + 1, p, acc, _, _, hne, hl => by
    rw [textF, hl]
    have : acc ≠ [] := by simpa [allBytes] using hne
    simp [textsL, allBytes, this]
  | r :: R, 0, _, _, hk, _, _, _ => by simp at hk
  | r :: R, k + 1, p, acc, hk, hv, hne, hl => by
    have hr := hv r (by simp)
    obtain ⟨c, t, hc, h39, _, _, _⟩ := textL_head r hr
    have hl2 : l.drop p = textL r ++ (textsL R ++ 39 :: m) := by rw [hl, textsL, List.append_assoc]
    rw [textF, hl2, if_neg (by rw [hc]; simp [h39])]
    rw [runeF_text [39] (by simp) r hr]
    simp only
    have hvi := valid_in r hr
    rw [show ((r.toNat : Nat) : Int) = r by omega]
    rw [textF_back l f m R k (p + (textL r).length) (acc ++ bytesOf r) (by simp at hk; omega) (fun x hx => hv x (by simp [hx])) (by rw [List.append_assoc]; exact hne) (drop_more hl2)]
    rw [textsL, List.length_append, allBytes, List.append_assoc]
    simp
    omega

theorem rangeF_back (l : List UInt8) (p : Nat) (a b : Nat) (m : List UInt8) (ha : Lib.validRune (a : Int) = true) (hb : Lib.validRune (b : Int) = true) (hab : a ≤ b) (hl : l.drop p = textL (a : Int) ++ 45 :: (textL (b : Int) ++ m)) :
    rangeF l p = some ((a, b), p + (textL (a : Int)).length + 1 + (textL (b : Int)).length) := by
  have h1 := drop_more hl
  have h2 : l.drop (p + (textL (a : Int)).length + 1) = textL (b : Int) ++ m := by rw [← List.drop_drop, h1]; rfl
  unfold rangeF
  rw [hl, runeF_text [91, 93, 45] (by simp) a ha]
  simp only
  rw [h1, List.head?_cons, if_pos rfl, h2, runeF_text [91, 93, 45] (by simp) b hb]
  simp only [Int.toNat_natCast]
  rw [if_neg (by omega)]

theorem setF_back (l : List UInt8) (f : Nat) (m : List UInt8) (R : List (Nat × Nat)) : ∀ (k p : Nat) (acc : List (Nat × Nat)), R.length < k → (∀ x ∈ R, Lib.validRune (x.1 : Int) = true ∧ Lib.validRune (x.2 : Int) = true ∧ x.1 ≤ x.2) → acc ++ R ≠ [] →
    l.drop p = rangesL R ++ 93 :: m → setF l f k p acc = (p + (rangesL R).length + 1, 0, acc ++ R) := by
  induction R with
  | nil =>
    intro k p acc hk _ hne hl
    cases k with
    | zero => simp at hk
    | succ k =>
      rw [setF, hl]
      have : acc ≠ [] := by simpa using hne
      simp [rangesL, this]
  | cons x R ih =>
    intro k p acc hk hv hne hl
    cases k with
    | zero => simp at hk
    | succ k =>
      obtain ⟨a, b⟩ := x
      obtain ⟨ha, hb, hab⟩ := hv (a, b) (by simp)
      simp only at ha hb hab
      obtain ⟨c, t, hc, _, h93, _, _⟩ := textL_head (a : Int) ha
      have hl2 : l.drop p = textL (a : Int) ++ 45 :: (textL (b : Int) ++ (rangesL R ++ 93 :: m)) := by rw [hl, rangesL, List.append_assoc, List.cons_append, List.append_assoc]
      have h3 : l.drop (p + (textL (a : Int)).length + 1 + (textL (b : Int)).length) = rangesL R ++ 93 :: m := by
        have h1 := drop_more hl2
        have h2 : l.drop (p + (textL (a : Int)).length + 1) = textL (b : Int) ++ (rangesL R ++ 93 :: m) := by rw [← List.drop_drop, h1]; rfl
        exact drop_more h2
      have hk2 : R.length < k := by rw [List.length_cons] at hk; omega
      have hv2 : ∀ x ∈ R, Lib.validRune (x.1 : Int) = true ∧ Lib.validRune (x.2 : Int) = true ∧ x.1 ≤ x.2 := fun x hx => hv x (List.mem_cons_of_mem _ hx)
      have hne2 : (acc ++ [(a, b)]) ++ R ≠ [] := by simp
      have e := ih k _ (acc ++ [(a, b)]) hk2 hv2 hne2 h3
      have hh : ¬ (l.drop p).head? = some 93 := by
        rw [hl2, hc]
        simp [h93]
      have hlen : (rangesL ((a, b) :: R)).length = (textL (a : Int)).length + 1 + (textL (b : Int)).length + (rangesL R).length := by
        rw [rangesL, List.length_append, List.length_cons, List.length_append]
        clear e hh hl hl2 h3 ih hv hne hne2 hc ha hb
        generalize (textL (a : Int)).length = x
        generalize (textL (b : Int)).length = y
        omega
      rw [setF, if_neg hh, rangeF_back l p a b _ ha hb hab hl2]
      simp only
      rw [e, hlen, List.append_assoc]
      clear e hlen hl hl2 h3 ih hv hne hne2 hc hh ha hb
      generalize (textL (a : Int)).length = x
      generalize (textL (b : Int)).length = y
      refine Prod.ext ?_ (Prod.ext rfl rfl)
      simp only
      omega

theorem manyN_back (a m cs : List UInt8) (h : ∀ c ∈ a, c ∈ cs) (hm : ∀ c, m.head? = some c → c ∉ cs) : manyN (a ++ m) cs = a.length := by
  unfold manyN trimLeftS
  have hd : (a ++ m).dropWhile (cs.contains ·) = m := by
    induction a with
    | nil =>
      cases m with
      | nil => rfl
      | cons c t =>
        have := hm c rfl
        simp [this]
    | cons c t ih =>
      have hc := h c (by simp)
      rw [List.cons_append, List.dropWhile_cons, if_pos (by simpa using hc)]
      exact ih fun x hx => h x (by simp [hx])
  rw [hd]
  simp

/-- a gap stands there: it begins with no byte of a name, and no mark's second byte -/
def GapHead (m : List UInt8) : Prop := ∀ c, m.head? = some c → c ∉ nameL ∧ c ≠ 62 ∧ c ≠ 46

theorem kind_ways {n : Nat} (h : n ≤ 4) : n = 0 ∨ n = 1 ∨ n = 2 ∨ n = 3 ∨ n = 4 := by omega

theorem among_of_mem {l : List UInt8} {c : UInt8} (h : c ∈ l) : amongB l c = true := by
  unfold amongB
  apply decide_eq_true
  induction l with
  | nil => exact absurd h (by simp)
  | cons x t ih =>
    rw [indexByte]
    by_cases hx : (x == c) = true
    · rw [if_pos hx]; omega
    · rw [if_neg hx]
      have : c ∈ t := by
        rcases List.mem_cons.1 h with rfl | h
        · simp at hx
        · exact h
      have := ih this
      cases hi : indexByte t c with
      | ofNat n => simp; omega
      | negSucc n => omega
theorem not_among {l : List UInt8} {c : UInt8} (h : c ∉ l) : amongB l c = false := by
  cases hx : amongB l c
  · rfl
  · exact absurd (among_mem _ _ hx) h

theorem textsL_length (R : List Int) : R.length ≤ (textsL R).length ∨ ∃ r ∈ R, Lib.validRune r = false := by
  induction R with
  | nil => exact .inl (Nat.le_refl _)
  | cons r R ih =>
    cases hr : Lib.validRune r
    · exact .inr ⟨r, by simp, hr⟩
    · rcases ih with ih | ⟨x, hx, h⟩
      · have := (textL_len r hr).1
        left
        rw [textsL, List.length_append, List.length_cons]
        omega
      · exact .inr ⟨x, by simp [hx], h⟩
theorem textsL_le (R : List Int) (h : ∀ r ∈ R, Lib.validRune r = true) : R.length ≤ (textsL R).length := by
  rcases textsL_length R with h1 | ⟨r, hr, h1⟩
  · exact h1
  · rw [h r hr] at h1; exact absurd h1 (by simp)
theorem rangesL_le (R : List (Nat × Nat)) : R.length ≤ (rangesL R).length := by
  induction R with
  | nil => exact Nat.le_refl _
  | cons x R ih =>
    obtain ⟨a, b⟩ := x
    have e : (rangesL ((a, b) :: R)).length = (textL (a : Int)).length + ((textL (b : Int)).length + (rangesL R).length + 1) := by
      rw [rangesL, List.length_append, List.length_cons, List.length_append]
    rw [e, List.length_cons]
    clear e
    generalize (textL (a : Int)).length = x
    generalize (textL (b : Int)).length = y
    omega

theorem wordF_back (l : List UInt8) (p : Nat) (w : Wd) (R : List Int) (m : List UInt8) (hw : Whole w R) (hm : GapHead m) (hl : l.drop p = writtenL w R ++ m) :
    wordF l p = ({ w with at_ := p }, p + (writtenL w R).length, 0) := by
  have hlen : (writtenL w R).length ≤ l.length := by
    have := congrArg List.length hl
    rw [List.length_drop, List.length_append] at this
    omega
  obtain ⟨kind, text, set, at_⟩ := w
  have hk := hw.kind
  simp only at hk
  unfold wordF
  simp only
  rcases kind_ways hk with rfl | rfl | rfl | rfl | rfl
  · obtain ⟨h1, ⟨c, t, h2, h3⟩, h4, h5⟩ := hw.name rfl
    simp only at h1 h2 h4 h5
    subst h1 h2
    have hwr : writtenL ⟨0, c :: t, [], at_⟩ R = c :: t := rfl
    rw [hwr] at hl ⊢
    rw [hl, List.cons_append, List.getD_cons_zero, if_pos h3]
    rw [← List.cons_append, manyN_back (c :: t) m nameL h4 fun c hc => (hm c hc).1]
    rw [if_neg (by omega)]
    simp
  · obtain ⟨h1, ⟨c, t, h2, h3⟩, h4, h5⟩ := hw.num rfl
    simp only at h1 h2 h4 h5
    subst h1 h2
    have hwr : writtenL ⟨1, c :: t, [], at_⟩ R = c :: t := rfl
    rw [hwr] at hl ⊢
    have hnl : amongB lettersL c = false := by
      have : ∀ x ∈ digitsL, amongB lettersL x = false := by decide +kernel
      exact this c (h4 c (by simp))
    have hsub : ∀ x ∈ digitsL, x ∈ nameL := by decide +kernel
    rw [hl, List.cons_append, List.getD_cons_zero, hnl, if_neg (by simp), if_pos h3]
    rw [← List.cons_append, manyN_back (c :: t) m digitsL h4 fun c hc hx => (hm c hc).1 (hsub c hx)]
    rw [if_neg (by omega)]
    simp
  · obtain ⟨h1, h2, h3, h4⟩ := hw.text rfl
    simp only at h1 h4
    subst h1 h4
    have hwr : writtenL ⟨2, allBytes R, [], at_⟩ R = 39 :: (textsL R ++ [39]) := rfl
    rw [hwr] at hl hlen ⊢
    have hl1 : l.drop (p + 1) = textsL R ++ 39 :: m := by rw [← List.drop_drop, hl]; simp
    have hne : allBytes R ≠ [] := by
      cases R with
      | nil => exact absurd rfl h2
      | cons r R =>
        rw [allBytes]
        intro e
        exact bytesOf_ne r (h3 r (by simp)) (List.append_eq_nil_iff.1 e).1
    have hle := textsL_le R h3
    rw [hl, List.cons_append, List.getD_cons_zero]
    rw [show amongB lettersL 39 = false by decide +kernel, show amongB digitsL 39 = false by decide +kernel, if_neg (by simp), if_neg (by simp), if_pos rfl]
    rw [textF_back l p m R (l.length + 1) (p + 1) [] (by simp at hlen; omega) h3 (by simpa using hne) hl1]
    simp
    omega
  · obtain ⟨h1, h2, h3⟩ := hw.set rfl
    simp only at h1 h2 h3
    subst h1
    have hwr : writtenL ⟨3, [], set, at_⟩ R = 91 :: (rangesL set ++ [93]) := rfl
    rw [hwr] at hl hlen ⊢
    have hl1 : l.drop (p + 1) = rangesL set ++ 93 :: m := by rw [← List.drop_drop, hl]; simp
    have hle := rangesL_le set
    rw [hl, List.cons_append, List.getD_cons_zero]
    rw [show amongB lettersL 91 = false by decide +kernel, show amongB digitsL 91 = false by decide +kernel, if_neg (by simp), if_neg (by simp), if_neg (by decide), if_pos rfl]
    rw [setF_back l p m set (l.length + 1) (p + 1) [] (by simp at hlen; omega) h3 (by simpa using h2) hl1]
    simp
    omega
  · obtain ⟨h1, h2⟩ := hw.mark rfl
    simp only at h1 h2
    subst h1
    have hwr : writtenL ⟨4, text, [], at_⟩ R = text := rfl
    rw [hwr] at hl ⊢
    rw [hl]
    have hmk : markF (text ++ m) = text.length ∧ text.length ≠ 0 ∧ amongB lettersL ((text ++ m).getD 0 0) = false ∧ amongB digitsL ((text ++ m).getD 0 0) = false ∧ (text ++ m).getD 0 0 ≠ 39 ∧ (text ++ m).getD 0 0 ≠ 91 := by
      rcases h2 with rfl | rfl | ⟨c, rfl, hc⟩
      · simp only [List.cons_append, List.getD_cons_zero]
        exact ⟨rfl, by decide, by decide +kernel, by decide +kernel, by decide, by decide⟩
      · simp only [List.cons_append, List.getD_cons_zero]
        exact ⟨rfl, by decide, by decide +kernel, by decide +kernel, by decide, by decide⟩
      · have hall : ∀ c ∈ marksL, amongB lettersL c = false ∧ amongB digitsL c = false ∧ c ≠ 39 ∧ c ≠ 91 := by decide +kernel
        have h4 := hall c hc
        refine ⟨?_, by simp, h4⟩
        unfold markF
        have p1 : hasPrefix ([c] ++ m) [61, 62] = false := by
          cases m with
          | nil => simp [hasPrefix, List.isPrefixOf]
          | cons d m =>
            have := (hm d rfl).2.1
            simp [hasPrefix, List.isPrefixOf, Ne.symm this]
        have p2 : hasPrefix ([c] ++ m) [46, 46] = false := by
          cases m with
          | nil => simp [hasPrefix, List.isPrefixOf]
          | cons d m =>
            have := (hm d rfl).2.2
            simp [hasPrefix, List.isPrefixOf, Ne.symm this]
        rw [p1, p2, if_neg (by simp), if_neg (by simp), if_pos]
        · rfl
        · exact among_of_mem hc
    obtain ⟨g1, g2, g3, g4, g5, g6⟩ := hmk
    rw [g1, g3, g4, if_neg (by simp), if_neg (by simp), if_neg g5, if_neg g6, if_neg g2]
    simp
end Go.Proofs.YtglnnjcapcpkfacDoor
