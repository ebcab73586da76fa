/- The chapter's example of expects: what its table tells. Plain. -/
import Derived.Test.YtppjmdanckdobaaGreatDoorQV39
import Derived.Test.YtppjmdanckdobaaGreatDoorQV42
namespace Go.Proofs.YtppjmdanckdobaaGreatDoor
open Go.RowKit
def aN : List Int → Nat → Bool
  | [], t => t == 0 || t == 1
  | [x], t => tk27 x 0 && t == 0
  | x :: y :: r, t => tk27 x 0 && (tk27 y 0 && aN r t)
theorem inv_nt {w : List Int} {c : UInt8} {i t : Nat} (h : Nx B27 w (t27 c) i t) : i = w.length ∧ t = B27.tok (s27 c) := by
  unfold t27 at h
  cases h with
  | tok h => exact ⟨h, rfl⟩
theorem inv_nr {w : List Int} {c : UInt8} {i t : Nat} (h : Nx B27 w (r27 c) i t) : ∃ n, B27.bodies[B27.rule (s27 c)]? = some n ∧ Nx B27 w n i t := by
  unfold r27 at h
  cases h with
  | ref hg h hd => exact ⟨_, h, hd⟩
theorem inv_nb {w : List Int} {i t : Nat} (h : Nx B27 w b27 i t) : (i = w.length ∧ t = 0) ∨ (tokM w i 0 ∧ Nx B27 w a27 (i + 1) t) := by
  unfold b27 n27 at h
  cases h with
  | seq hg h =>
    cases h with
    | here h =>
      obtain ⟨h1, h2⟩ := inv_nt h
      exact .inl ⟨h1, h2⟩
    | next hd h =>
      obtain ⟨h3, rfl⟩ := inv_t hd
      cases h with
      | here h =>
        obtain ⟨n, hn, hd⟩ := inv_nr h
        have : n = a27 := (Option.some.inj (hn.symm.trans (show B27.bodies[B27.rule (s27 97)]? = some a27 by kernel_rfl)))
        subst this
        exact .inr ⟨h3, hd⟩
      | next _ h => cases h
  | loop hk => omega
  | again hk => omega
theorem inv_na {w : List Int} {i t : Nat} (h : Nx B27 w a27 i t) : (i = w.length ∧ (t = 0 ∨ t = 1)) ∨ (tokM w i 0 ∧ Nx B27 w b27 (i + 1) t) := by
  unfold a27 n27 at h
  cases h with
  | alt hx h =>
    rcases List.mem_cons.1 hx with rfl | hx
    · cases h with
      | seq hg h =>
        cases h with
        | here h =>
          obtain ⟨h1, h2⟩ := inv_nt h
          exact .inl ⟨h1, .inl h2⟩
        | next hd h =>
          obtain ⟨h3, rfl⟩ := inv_t hd
          cases h with
          | here h =>
            cases h with
            | loop hk hg h =>
              obtain ⟨n, hn, hd⟩ := inv_nr h
              have : n = b27 := (Option.some.inj (hn.symm.trans (show B27.bodies[B27.rule (s27 98)]? = some b27 by kernel_rfl)))
              subst this
              exact .inr ⟨h3, hd⟩
            | again hk => omega
          | next _ h => cases h
      | loop hk => omega
      | again hk => omega
    · obtain rfl := List.mem_singleton.1 hx
      obtain ⟨h1, h2⟩ := inv_nt h
      exact .inl ⟨h1, .inr h2⟩
  | loop hk => omega
  | again hk => omega
theorem mk_nb0 {w : List Int} {i : Nat} (h : i = w.length) : Nx B27 w b27 i 0 :=
  .seq (by kernel_rfl) (.here (show Nx B27 w (t27 65) i (B27.tok (s27 65)) from .tok h))
theorem mk_nb {w : List Int} {i t : Nat} (h1 : tokM w i 0) (h2 : Nx B27 w a27 (i + 1) t) : Nx B27 w b27 i t :=
  .seq (by kernel_rfl) (.next (.tok (show tokM w i (B27.tok (s27 65)) from h1)) (.here (.ref (by kernel_rfl) (show B27.bodies[B27.rule (s27 97)]? = some a27 by kernel_rfl) h2)))
theorem mk_na0 {w : List Int} {i : Nat} (h : i = w.length) : Nx B27 w a27 i 0 :=
  .alt (x := n27 1 [t27 65, n27 2 [r27 98]]) (by simp) (.seq (by kernel_rfl) (.here (show Nx B27 w (t27 65) i (B27.tok (s27 65)) from .tok h)))
theorem mk_na1 {w : List Int} {i : Nat} (h : i = w.length) : Nx B27 w a27 i 1 :=
  .alt (x := t27 66) (by simp) (show Nx B27 w (t27 66) i (B27.tok (s27 66)) from .tok h)
theorem mk_na {w : List Int} {i t : Nat} (h1 : tokM w i 0) (h2 : Nx B27 w b27 (i + 1) t) : Nx B27 w a27 i t :=
  .alt (x := n27 1 [t27 65, n27 2 [r27 98]]) (by simp) (.seq (by kernel_rfl) (.next (.tok (show tokM w i (B27.tok (s27 65)) from h1)) (.here (.loop (.inl rfl) (by kernel_rfl) (.ref (by kernel_rfl) (show B27.bodies[B27.rule (s27 98)]? = some b27 by kernel_rfl) h2)))))
theorem nx_aN {w : List Int} {t : Nat} : ∀ (l : List Int) (i : Nat), w.drop i = l → i ≤ w.length → (Nx B27 w a27 i t ↔ aN l t = true)
  | [], i, hd, hi => by
    have hl : i = w.length := by have := List.drop_eq_nil_iff.1 hd; omega
    have no : ∀ t, ¬ tokM w i t := fun t ⟨x, hx, _⟩ => by
      have := (List.getElem?_eq_some_iff.1 hx).1
      omega
    unfold aN
    rw [Bool.or_eq_true, beq_iff_eq, beq_iff_eq]
    constructor
    · intro h
      rcases inv_na h with ⟨_, h⟩ | ⟨h, _⟩
      · exact h
      · exact absurd h (no _)
    · rintro (rfl | rfl)
      · exact mk_na0 hl
      · exact mk_na1 hl
  | [x], i, hd, hi => by
    have hlen : w.length = i + 1 := by have := congrArg List.length hd; rw [List.length_drop, List.length_singleton] at this; omega
    have hx : w[i]? = some x := by rw [← Nat.add_zero i, ← List.getElem?_drop, hd]; rfl
    have ht : ∀ t, tokM w i t ↔ tk27 x t = true := fun t => by
      rw [tok27]
      exact ⟨fun ⟨y, h1, h2⟩ => by rw [hx] at h1; cases h1; exact h2, fun h => ⟨x, hx, h⟩⟩
    have no : ∀ t, ¬ tokM w (i + 1) t := fun t ⟨x, hx, _⟩ => by
      have := (List.getElem?_eq_some_iff.1 hx).1
      omega
    unfold aN
    rw [Bool.and_eq_true, beq_iff_eq]
    constructor
    · intro h
      rcases inv_na h with ⟨h1, _⟩ | ⟨h1, h2⟩
      · omega
      · rcases inv_nb h2 with ⟨_, h3⟩ | ⟨h3, _⟩
        · exact ⟨(ht 0).1 h1, h3⟩
        · exact absurd h3 (no _)
    · rintro ⟨h1, rfl⟩
      exact mk_na ((ht 0).2 h1) (mk_nb0 hlen.symm)
  | x :: y :: r, i, hd, hi => by
    have hlen : w.length = i + 2 + r.length := by have := congrArg List.length hd; rw [List.length_drop, List.length_cons, List.length_cons] at this; omega
    have hx : w[i]? = some x := by rw [← Nat.add_zero i, ← List.getElem?_drop, hd]; rfl
    have hy : w[i + 1]? = some y := by rw [← List.getElem?_drop, hd]; rfl
    have hr : w.drop (i + 1 + 1) = r := by
      have : (w.drop i).drop 2 = r := by rw [hd]; rfl
      rw [List.drop_drop] at this
      exact this
    have ht : ∀ t, tokM w i t ↔ tk27 x t = true := fun t => by
      rw [tok27]
      exact ⟨fun ⟨y, h1, h2⟩ => by rw [hx] at h1; cases h1; exact h2, fun h => ⟨x, hx, h⟩⟩
    have hu : ∀ t, tokM w (i + 1) t ↔ tk27 y t = true := fun t => by
      rw [tok27]
      exact ⟨fun ⟨z, h1, h2⟩ => by rw [hy] at h1; cases h1; exact h2, fun h => ⟨y, hy, h⟩⟩
    have ih := nx_aN (t := t) r (i + 1 + 1) hr (by omega)
    unfold aN
    rw [Bool.and_eq_true, Bool.and_eq_true, ← ih]
    constructor
    · intro h
      rcases inv_na h with ⟨h1, _⟩ | ⟨h1, h2⟩
      · omega
      · rcases inv_nb h2 with ⟨h3, _⟩ | ⟨h3, h4⟩
        · omega
        · exact ⟨(ht 0).1 h1, (hu 0).1 h3, h4⟩
    · rintro ⟨h1, h2, h3⟩
      exact mk_na ((ht 0).2 h1) (mk_nb ((hu 0).2 h2) h3)
theorem next_27 (w : List Int) (x : Int) : NextS B27 0 w x ↔ (x = -1 ∧ aB w = true) ∨ ∃ t : Nat, x = (t : Int) ∧ aN w t = true := by
  unfold NextS XNextS
  rw [d0_27]
  have h0 : ∀ t, Nx B27 w a27 0 t ↔ aN w t = true := fun t => nx_aN w 0 rfl (Nat.zero_le _)
  refine or_congr Iff.rfl ⟨?_, ?_⟩
  · rintro ⟨n, t, hn, h, rfl⟩
    cases Option.some.inj hn
    exact ⟨t, rfl, (h0 t).1 h⟩
  · rintro ⟨t, rfl, h⟩
    exact ⟨a27, t, rfl, (h0 t).2 h, rfl⟩
theorem b27_okx (h : g27.Fine) : B27.Okx := b27_of ▸ book_okx g27_sound h (by decide)
theorem nextL_27 {w L : List Int} (hr : L.Pairwise (· < ·)) (hL : ∀ x, x ∈ L ↔ (x = -1 ∧ aB w = true) ∨ ∃ t : Nat, x = (t : Int) ∧ aN w t = true) : NextL B27 0 w L := ⟨hr, fun x => by rw [next_27]; exact hL x⟩
theorem next_nil : NextL B27 0 [] [0, 1] := nextL_27 (by decide) fun x => by
  have h1 : aB [] = false := rfl
  have h2 : ∀ t, aN [] t = (t == 0 || t == 1) := fun _ => rfl
  simp only [h1, h2, List.mem_cons, List.not_mem_nil, or_false, Bool.or_eq_true, beq_iff_eq]
  constructor
  · rintro (rfl | rfl)
    · exact .inr ⟨0, rfl, .inl rfl⟩
    · exact .inr ⟨1, rfl, .inr rfl⟩
  · rintro (⟨_, h⟩ | ⟨t, rfl, h⟩)
    · cases h
    · omega
theorem next_0 : NextL B27 0 [0] [-1, 0] := nextL_27 (by decide) fun x => by
  have h1 : aB [0] = true := by kernel_rfl
  have h2 : ∀ t, aN [0] t = (t == 0) := fun _ => rfl
  simp only [h1, h2, List.mem_cons, List.not_mem_nil, or_false, beq_iff_eq]
  constructor
  · rintro (rfl | rfl)
    · exact .inl ⟨rfl, trivial⟩
    · exact .inr ⟨0, rfl, rfl⟩
  · rintro (⟨h, _⟩ | ⟨t, rfl, h⟩)
    · exact .inl h
    · omega
theorem next_00 : NextL B27 0 [0, 0] [0, 1] := nextL_27 (by decide) fun x => by
  have h1 : aB [0, 0] = false := by kernel_rfl
  have h2 : ∀ t, aN [0, 0] t = (t == 0 || t == 1) := fun _ => rfl
  simp only [h1, h2, List.mem_cons, List.not_mem_nil, or_false, Bool.or_eq_true, beq_iff_eq]
  constructor
  · rintro (rfl | rfl)
    · exact .inr ⟨0, rfl, .inl rfl⟩
    · exact .inr ⟨1, rfl, .inr rfl⟩
  · rintro (⟨_, h⟩ | ⟨t, rfl, h⟩)
    · cases h
    · omega
theorem next_1 : NextL B27 0 [1] [-1] := nextL_27 (by decide) fun x => by
  have h1 : aB [1] = true := by kernel_rfl
  have h2 : ∀ t, aN [1] t = false := fun _ => rfl
  simp only [h1, h2, List.mem_cons, List.not_mem_nil, or_false]
  constructor
  · rintro rfl
    exact .inl ⟨rfl, trivial⟩
  · rintro (⟨h, _⟩ | ⟨t, rfl, h⟩)
    · exact h
    · cases h
theorem next_11 : NextL B27 0 [1, 1] [] := nextL_27 (by decide) fun x => by
  have h1 : aB [1, 1] = false := by kernel_rfl
  have h2 : ∀ t, aN [1, 1] t = false := fun _ => rfl
  simp only [h1, h2, List.not_mem_nil]
  constructor
  · exact False.elim
  · rintro (⟨_, h⟩ | ⟨t, rfl, h⟩) <;> cases h
theorem rest_27 {v : List Int} (h : RestV B27 0 [0, 0] 3 v) : v = [0] := by
  have h0 : aB ([0, 0] ++ rep 0) = false := by kernel_rfl
  have h1 : aB ([0, 0] ++ rep 1) = true := by kernel_rfl
  have hl : v.length = 1 := by
    rcases Nat.lt_trichotomy v.length 1 with hl | hl | hl
    · have e : v.length = 0 := by omega
      have := h.der
      rw [e, d0_27, h0] at this
      cases this
    · exact hl
    · exact absurd ((d0_27 _).2 h1) (h.no 1 hl)
  have hf := h.fil
  rw [hl] at hf
  obtain ⟨x, u, rfl, hx, hd, hno, hu⟩ := hf
  have hu' : u = [] := hu
  subst hu'
  have hx' : x = 0 ∨ x = 1 := by
    have : x ∈ ([0, 1] : List Int) := hx
    simpa using this
  rcases hx' with rfl | rfl
  · rfl
  · exact absurd ((d0_27 _).2 (show aB ([0, 0] ++ 0 :: rep 0) = true by kernel_rfl)) (hno 0 (show (0 : Int) ∈ ([0, 1] : List Int) by simp) (by decide))
theorem rest_some : ¬ ∀ m, m ≤ mostN [0, 0] 3 → ¬ B27.D 0 ([0, 0] ++ rep m) := fun h => h 1 (by decide) ((d0_27 _).2 (show aB ([0, 0] ++ rep 1) = true by kernel_rfl))
theorem ask_27 {w : List Int} (h : (decide (w.length ≤ 48) && !(w.any fun y => (-2 : Int) == y)) = true) : askB B27 0 w = true := by
  unfold askB hasX
  have h2 : B27.longN (0 : Int).toNat = 1 := by kernel_rfl
  have h3 : B27.bodies.length = 2 := rfl
  rw [h2, h3]
  rw [Bool.and_eq_true] at h
  rw [h.1, h.2]
  decide
theorem okN_27 {w L : List Int} (h : (decide (w.length ≤ 48) && !(w.any fun y => (-2 : Int) == y)) = true) (hL : NextL B27 0 w L) : OkN B27 0 w ↔ L ≠ [] := by
  unfold OkN
  constructor
  · rintro ⟨_, x, hx⟩ rfl
    have := (hL.mem x).2 hx
    cases this
  · intro hn
    cases L with
    | nil => exact absurd rfl hn
    | cons x r => exact ⟨ask_27 h, x, (hL.mem x).1 (List.mem_cons_self ..)⟩
theorem far_27 {x : Int} (h : FarIs B27 0 [1, 1] x) : x = 1 := by
  have h1 := h.lt
  have h2 := h.lo
  have e : ([1, 1] : List Int).length = 2 := rfl
  rw [e] at h1
  have h3 : ¬ OkN B27 0 [1, 1] := fun hk => (okN_27 (by decide) next_11).1 hk rfl
  have h4 : OkN B27 0 [1] := (okN_27 (by decide) next_1).2 (by simp)
  have h5 : ¬ x = 2 := fun e => by
    subst e
    exact h3 (h.ok (by decide))
  have h6 : ¬ x < 1 := fun hl => h.no 1 (by omega) (by decide) h4
  omega
end Go.Proofs.YtppjmdanckdobaaGreatDoor
