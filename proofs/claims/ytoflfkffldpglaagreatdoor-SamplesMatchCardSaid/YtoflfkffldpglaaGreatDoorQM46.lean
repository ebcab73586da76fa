/- The chapter's example of samples: its grammar, that nothing is wrong with it, its book, what that derives. Plain. -/
import Derived.Test.YtoflfkffldpglaaGreatDoorQM32
import Derived.Test.YtoflfkffldpglaaGreatDoorQM13
import Derived.Test.YtoflfkffldpglaaGreatDoorQM44
namespace Go.Proofs.YtoflfkffldpglaaGreatDoor
open Go.RowKit
def s27 (c : UInt8) : ByteArray := { data := #[c] }
def t27 (c : UInt8) : Nd := .mk 6 { data := #[c] } { data := #[] } [] []
def r27 (c : UInt8) : Nd := .mk 5 { data := #[c] } { data := #[] } [] []
def x27 (c : UInt8) : Nd := .mk 8 { data := #[] } { data := #[c] } [] []
def n27 (k : Int) (subs : List Nd) : Nd := .mk k { data := #[] } { data := #[] } [] subs
def a27 : Nd := n27 0 [n27 1 [t27 65, n27 2 [r27 98]], t27 66]
def b27 : Nd := n27 1 [t27 65, r27 97]
def g27 : Gr := ⟨{ data := #[71] }, 1, 9, [⟨{ data := #[97] }, 0, a27, 0, 0, 0⟩, ⟨{ data := #[98] }, 0, b27, 0, 0, 0⟩, ⟨{ data := #[65] }, 1, x27 120, 0, 0, 0⟩, ⟨{ data := #[66] }, 1, x27 121, 0, 0, 0⟩]⟩
theorem g27_empty {es : List Bool} (h : g27.IsEmpty es) : es = [false, false, false, false] := by
  refine h.unique ⟨Gr.Sound.start g27, fun i hi hm => ?_⟩
  have hi' : i < 4 := hi
  match i, hi' with
  | 0, _ =>
    have hf : g27.may [false, false, false, false] (Rl.token ⟨{ data := #[97] }, 0, a27, 0, 0, 0⟩) a27 = false := by kernel_rfl
    exact absurd (hf.symm.trans hm) (by decide)
  | 1, _ =>
    have hf : g27.may [false, false, false, false] (Rl.token ⟨{ data := #[98] }, 0, b27, 0, 0, 0⟩) b27 = false := by kernel_rfl
    exact absurd (hf.symm.trans hm) (by decide)
  | 2, _ =>
    have hf : g27.may [false, false, false, false] (Rl.token ⟨{ data := #[65] }, 1, x27 120, 0, 0, 0⟩) (x27 120) = false := by kernel_rfl
    exact absurd (hf.symm.trans hm) (by decide)
  | 3, _ =>
    have hf : g27.may [false, false, false, false] (Rl.token ⟨{ data := #[66] }, 1, x27 121, 0, 0, 0⟩) (x27 121) = false := by kernel_rfl
    exact absurd (hf.symm.trans hm) (by decide)
theorem no_tc27 {O : Nat → Nat → Prop} (hn : ∀ i k, ¬ O i k) {n : Nat} {M : List (List Bool)} (h : IsReach O n M) (i k : Nat) : at2 M i k = false := by
  cases hh : at2 M i k
  · rfl
  · have := (h.tc _ _).1 hh
    cases this with
    | one h => exact absurd h (hn _ _)
    | more h _ => exact absurd h (hn _ _)
theorem g27_once (i k : Nat) : ¬ g27.Once [false, false, false, false] i k := by
  unfold Gr.Once
  have hM : g27.onceM [false, false, false, false] = List.replicate 4 [false, false, false, false] := by kernel_rfl
  rw [hM]
  unfold at2
  rcases i with _ | _ | _ | _ | i <;> rcases k with _ | _ | _ | _ | k <;> simp [List.replicate]
theorem g27_rd0 (i k : Nat) : ¬ g27.rd0 i k := by
  rintro ⟨hi, hk, h, _, m, hm, h3, _⟩
  have hi' : i < 4 := hi
  have hall : ∀ c, (x27 c).all = [x27 c] := fun c => by kernel_rfl
  match i, hi' with
  | 0, _ => cases h
  | 1, _ => cases h
  | 2, _ =>
    replace hm : m ∈ [x27 120] := Eq.mp (congrArg (m ∈ ·) (hall _)) hm
    obtain rfl := List.mem_singleton.1 hm
    exact absurd h3 (by decide)
  | 3, _ =>
    replace hm : m ∈ [x27 121] := Eq.mp (congrArg (m ∈ ·) (hall _)) hm
    obtain rfl := List.mem_singleton.1 hm
    exact absurd h3 (by decide)
theorem g27_told {es : List Bool} {M N : List (List Bool)} (he : g27.IsEmpty es) (hM : IsReach (g27.Once es) g27.rules.length M) (hN : IsReach g27.rd0 g27.rules.length N) : g27.told es (at2 M) (at2 N) = [] := by
  obtain rfl := g27_empty he
  have h1 : at2 M = fun _ _ => false := by funext i k; exact no_tc27 g27_once hM i k
  have h2 : at2 N = fun _ _ => false := by funext i k; exact no_tc27 g27_rd0 hN i k
  rw [h1, h2]
  have : (g27.told [false, false, false, false] (fun _ _ => false) (fun _ _ => false)).isEmpty = true := by kernel_rfl
  exact List.isEmpty_iff.1 this
def goodB (token : Bool) (n : Nd) : Bool := decide ((n.alld 1).length ≤ 2048) && (n.alld 1).all fun p => decide (p.1 ≤ 64) && plainN token p.2
theorem good_of {token : Bool} {n : Nd} (h : goodB token n = true) : GoodN token n := by
  unfold goodB at h
  rw [Bool.and_eq_true, decide_eq_true_eq, List.all_eq_true] at h
  refine ⟨h.1, fun p hp => ?_⟩
  have := h.2 p hp
  rw [Bool.and_eq_true, decide_eq_true_eq] at this
  exact this
theorem g27_sound : soundP g27 := by
  have hk : ∀ (s : ByteArray), Lib.containsS (keptL.take 4) s = false → ¬ keptP s := fun s h e => by
    unfold keptP at e
    rw [h] at e
    cases e
  refine ⟨.inr (good_of (by kernel_rfl)), by decide, by decide, fun i hi => ?_⟩
  have hi' : i < 4 := hi
  match i, hi' with
  | 0, _ => exact ⟨show (0 : Int) ≤ 3 by decide, ⟨good_of (by kernel_rfl), hk _ (by kernel_rfl)⟩, good_of (by kernel_rfl)⟩
  | 1, _ => exact ⟨show (0 : Int) ≤ 3 by decide, ⟨good_of (by kernel_rfl), hk _ (by kernel_rfl)⟩, good_of (by kernel_rfl)⟩
  | 2, _ => exact ⟨show (1 : Int) ≤ 3 by decide, ⟨good_of (by kernel_rfl), hk _ (by kernel_rfl)⟩, good_of (by kernel_rfl)⟩
  | 3, _ => exact ⟨show (1 : Int) ≤ 3 by decide, ⟨good_of (by kernel_rfl), hk _ (by kernel_rfl)⟩, good_of (by kernel_rfl)⟩
theorem g27_few : g27.Few := by
  refine ⟨by decide, fun i hi => ?_⟩
  have hi' : i < 4 := hi
  match i, hi' with
  | 0, _ => exact (by kernel_rfl : decide (a27.all.length ≤ 4000) = true) |> of_decide_eq_true
  | 1, _ => exact (by kernel_rfl : decide (b27.all.length ≤ 4000) = true) |> of_decide_eq_true
  | 2, _ => exact (by kernel_rfl : decide ((x27 120).all.length ≤ 4000) = true) |> of_decide_eq_true
  | 3, _ => exact (by kernel_rfl : decide ((x27 121).all.length ≤ 4000) = true) |> of_decide_eq_true
theorem g27_tot : ∀ i (h : i < g27.rules.length), g27.rules[i].body.total ≤ 3000 := fun i hi => by
  have hi' : i < 4 := hi
  match i, hi' with
  | 0, _ => exact (by kernel_rfl : decide (a27.total ≤ 3000) = true) |> of_decide_eq_true
  | 1, _ => exact (by kernel_rfl : decide (b27.total ≤ 3000) = true) |> of_decide_eq_true
  | 2, _ => exact (by kernel_rfl : decide ((x27 120).total ≤ 3000) = true) |> of_decide_eq_true
  | 3, _ => exact (by kernel_rfl : decide ((x27 121).total ≤ 3000) = true) |> of_decide_eq_true
def B27 : Bk := ⟨[(s27 97, 0), (s27 98, 1)], [(s27 65, 0), (s27 66, 1)], [0, 1], [a27, b27], [⟨1, [0]⟩, ⟨2, [0, 0]⟩]⟩
theorem b27_of : bookOf g27 = B27 := by kernel_rfl
theorem b27_good (h : g27.Fine) : B27.Good := b27_of ▸ book_good g27_sound h
/-! ### what it derives -/
def tk27 (x : Int) (t : Nat) : Bool := x == (t : Int) || x == -2
def aB : List Int → Bool
  | [] => false
  | [x] => tk27 x 0 || tk27 x 1
  | x :: y :: r => tk27 x 0 && tk27 y 0 && aB r
theorem tok27 {w : List Int} {i t : Nat} : tokM w i t ↔ ∃ x, w[i]? = some x ∧ tk27 x t = true := by
  unfold tokM tk27
  constructor
  · rintro ⟨x, h1, h2⟩
    exact ⟨x, h1, by simpa using h2⟩
  · rintro ⟨x, h1, h2⟩
    exact ⟨x, h1, by simpa using h2⟩
theorem inv_t {w : List Int} {c : UInt8} {i j : Nat} (h : Der B27 w (t27 c) i j) : tokM w i (B27.tok (s27 c)) ∧ j = i + 1 := by
  unfold t27 at h
  cases h with
  | tok h => exact ⟨h, rfl⟩
  | other hk => omega
theorem inv_r {w : List Int} {c : UInt8} {i j : Nat} (h : Der B27 w (r27 c) i j) : ∃ n, B27.bodies[B27.rule (s27 c)]? = some n ∧ Der B27 w n i j := by
  unfold r27 at h
  cases h with
  | ref h hd => exact ⟨_, h, hd⟩
  | other hk => omega
theorem inv_b {w : List Int} {i j : Nat} (h : Der B27 w b27 i j) : tokM w i 0 ∧ Der B27 w a27 (i + 1) j := by
  unfold b27 n27 at h
  cases h with
  | seq h =>
    cases h with
    | cons h1 h2 =>
      obtain ⟨h3, rfl⟩ := inv_t h1
      cases h2 with
      | cons h4 h5 =>
        cases h5
        obtain ⟨n, hn, hd⟩ := inv_r h4
        have : n = a27 := (Option.some.inj (hn.symm.trans (show B27.bodies[B27.rule (s27 97)]? = some a27 by kernel_rfl)))
        subst this
        exact ⟨h3, hd⟩
  | other hk => omega
theorem inv_a {w : List Int} {i j : Nat} (h : Der B27 w a27 i j) : (tokM w i 0 ∧ (j = i + 1 ∨ Der B27 w b27 (i + 1) j)) ∨ (tokM w i 1 ∧ j = i + 1) := by
  unfold a27 n27 at h
  cases h with
  | alt hx h =>
    rcases List.mem_cons.1 hx with rfl | hx
    · left
      cases h with
      | seq h =>
        cases h with
        | cons h1 h2 =>
          obtain ⟨h3, rfl⟩ := inv_t h1
          cases h2 with
          | cons h4 h5 =>
            cases h5
            refine ⟨h3, ?_⟩
            cases h4 with
            | opt0 => exact .inl rfl
            | opt h =>
              obtain ⟨n, hn, hd⟩ := inv_r h
              have : n = b27 := (Option.some.inj (hn.symm.trans (show B27.bodies[B27.rule (s27 98)]? = some b27 by kernel_rfl)))
              subst this
              exact .inr hd
            | other hk => omega
      | other hk => omega
    · obtain rfl := List.mem_singleton.1 hx
      right
      exact inv_t h
  | other hk => omega
theorem mk_b {w : List Int} {i j : Nat} (h1 : tokM w i 0) (h2 : Der B27 w a27 (i + 1) j) : Der B27 w b27 i j :=
  .seq (.cons (.tok (show tokM w i (B27.tok (s27 65)) from h1)) (.cons (.ref (show B27.bodies[B27.rule (s27 97)]? = some a27 by kernel_rfl) h2) .nil))
theorem mk_a1 {w : List Int} {i j : Nat} (h1 : tokM w i 0) (h2 : Der B27 w b27 (i + 1) j) : Der B27 w a27 i j :=
  .alt (x := n27 1 [t27 65, n27 2 [r27 98]]) (by simp) (.seq (.cons (.tok (show tokM w i (B27.tok (s27 65)) from h1)) (.cons (.opt (.ref (show B27.bodies[B27.rule (s27 98)]? = some b27 by kernel_rfl) h2)) .nil)))
theorem mk_a0 {w : List Int} {i : Nat} (h1 : tokM w i 0) : Der B27 w a27 i (i + 1) :=
  .alt (x := n27 1 [t27 65, n27 2 [r27 98]]) (by simp) (.seq (.cons (.tok (show tokM w i (B27.tok (s27 65)) from h1)) (.cons .opt0 .nil)))
theorem mk_a2 {w : List Int} {i : Nat} (h1 : tokM w i 1) : Der B27 w a27 i (i + 1) :=
  .alt (x := t27 66) (by simp) (.tok (show tokM w i (B27.tok (s27 66)) from h1))
theorem der_aB {w : List Int} : ∀ (l : List Int) (i : Nat), w.drop i = l → i ≤ w.length → (Der B27 w a27 i w.length ↔ aB l = true)
  | [], i, hd, hi => by
    have hl : w.length ≤ i := List.drop_eq_nil_iff.1 hd
    have no : ∀ t, ¬ tokM w i t := fun t ⟨x, hx, _⟩ => by
      have := (List.getElem?_eq_some_iff.1 hx).1
      omega
    refine ⟨fun h => ?_, fun h => by cases h⟩
    rcases inv_a h with ⟨h1, -⟩ | ⟨h1, -⟩
    · exact absurd h1 (no _)
    · exact absurd h1 (no _)
  | [x], i, hd, hi => by
    have hlen : w.length = i + 1 := by have := congrArg List.length hd; rw [List.length_drop, List.length_singleton] at this; omega
    have hx : w[i]? = some x := by rw [← Nat.add_zero i, ← List.getElem?_drop, hd]; rfl
    have ht : ∀ t, tokM w i t ↔ tk27 x t = true := fun t => by
      rw [tok27]
      exact ⟨fun ⟨y, h1, h2⟩ => by rw [hx] at h1; cases h1; exact h2, fun h => ⟨x, hx, h⟩⟩
    unfold aB
    rw [Bool.or_eq_true]
    constructor
    · intro h
      rcases inv_a h with ⟨h1, -⟩ | ⟨h1, -⟩
      · exact .inl ((ht 0).1 h1)
      · exact .inr ((ht 1).1 h1)
    · rintro (h | h)
      · rw [hlen]; exact mk_a0 ((ht 0).2 h)
      · rw [hlen]; exact mk_a2 ((ht 1).2 h)
  | x :: y :: r, i, hd, hi => by
    have hlen : w.length = i + 2 + r.length := by have := congrArg List.length hd; rw [List.length_drop, List.length_cons, List.length_cons] at this; omega
    have hx : w[i]? = some x := by rw [← Nat.add_zero i, ← List.getElem?_drop, hd]; rfl
    have hy : w[i + 1]? = some y := by rw [← List.getElem?_drop, hd]; rfl
    have hr : w.drop (i + 1 + 1) = r := by
      have : (w.drop i).drop 2 = r := by rw [hd]; rfl
      rw [List.drop_drop] at this
      exact this
    have ht : ∀ t, tokM w i t ↔ tk27 x t = true := fun t => by
      rw [tok27]
      exact ⟨fun ⟨y, h1, h2⟩ => by rw [hx] at h1; cases h1; exact h2, fun h => ⟨x, hx, h⟩⟩
    have hu : ∀ t, tokM w (i + 1) t ↔ tk27 y t = true := fun t => by
      rw [tok27]
      exact ⟨fun ⟨z, h1, h2⟩ => by rw [hy] at h1; cases h1; exact h2, fun h => ⟨y, hy, h⟩⟩
    have ih := der_aB r (i + 1 + 1) hr (by omega)
    unfold aB
    rw [Bool.and_eq_true, Bool.and_eq_true, ← ih]
    constructor
    · intro h
      rcases inv_a h with ⟨h1, h2 | h2⟩ | ⟨-, h2⟩
      · omega
      · obtain ⟨h3, h4⟩ := inv_b h2
        exact ⟨⟨(ht 0).1 h1, (hu 0).1 h3⟩, h4⟩
      · omega
    · rintro ⟨⟨h1, h2⟩, h3⟩
      exact mk_a1 ((ht 0).2 h1) (mk_b ((hu 0).2 h2) h3)
def bB : List Int → Bool
  | [] => false
  | x :: r => tk27 x 0 && aB r
theorem d0_27 (w : List Int) : B27.D 0 w ↔ aB w = true := by
  unfold Bk.D
  rw [← der_aB w 0 rfl (by omega)]
  exact ⟨fun ⟨n, hn, hd⟩ => by cases Option.some.inj hn; exact hd, fun h => ⟨_, rfl, h⟩⟩
theorem d1_27 (w : List Int) : B27.D 1 w ↔ bB w = true := by
  unfold Bk.D
  have e : (∃ n, B27.bodies[1]? = some n ∧ Der B27 w n 0 w.length) ↔ Der B27 w b27 0 w.length := ⟨fun ⟨n, hn, hd⟩ => by cases Option.some.inj hn; exact hd, fun h => ⟨_, rfl, h⟩⟩
  rw [e]
  cases w with
  | nil =>
    refine ⟨fun h => ?_, fun h => by cases h⟩
    obtain ⟨⟨x, hx, -⟩, -⟩ := inv_b h
    cases hx
  | cons x r =>
    have ih := der_aB (w := x :: r) r 1 rfl (by simp)
    unfold bB
    rw [Bool.and_eq_true, ← ih]
    have ht : tokM (x :: r) 0 0 ↔ tk27 x 0 = true := by
      rw [tok27]
      exact ⟨fun ⟨y, h1, h2⟩ => by cases h1; exact h2, fun h => ⟨x, rfl, h⟩⟩
    exact ⟨fun h => by obtain ⟨h1, h2⟩ := inv_b h; exact ⟨ht.1 h1, h2⟩, fun ⟨h1, h2⟩ => mk_b (ht.2 h1) h2⟩
theorem db_27 : B27.dB 0 = aB := by
  funext w
  exact (Bk.dB_iff (d0_27 w).symm).symm
theorem all_27 : B27.allL 0 3 9 = some [[0], [1], [0, 0, 0], [0, 0, 1]] ∧ B27.allL 0 3 3 = none := by
  unfold Bk.allL
  rw [show (0 : Int).toNat = 0 from rfl, db_27]
  exact ⟨by kernel_rfl, by kernel_rfl⟩
end Go.Proofs.YtoflfkffldpglaaGreatDoor
