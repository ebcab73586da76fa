/- The chapter's example of samples: its grammar, that nothing is wrong with it, its book, what that derives. Plain. -/
import Derived.Test.YtgegjjfjhpokpaaGreatDoorQW42
import Derived.Test.YtgegjjfjhpokpaaGreatDoorQW17
import Derived.Test.YtgegjjfjhpokpaaGreatDoorQW50
import Derived.Test.YtgegjjfjhpokpaaGreatDoorQW40
import Derived.Test.YtgegjjfjhpokpaaGreatDoorQW51
import Derived.Test.YtgegjjfjhpokpaaGreatDoorQW41
namespace Go.Proofs.YtgegjjfjhpokpaaGreatDoor
open Go.RowKit

def s27 (c : UInt8) : ByteArray := { data := #[c] }
def t27 (c : UInt8) : Nd := .mk 6 { data := #[c] } { data := #[] } [] []
def r27 (c : UInt8) : Nd := .mk 5 { data := #[c] } { data := #[] } [] []
def x27 (c : UInt8) : Nd := .mk 8 { data := #[] } { data := #[c] } [] []
def n27 (k : Int) (subs : List Nd) : Nd := .mk k { data := #[] } { data := #[] } [] subs
def a27 : Nd := n27 0 [n27 1 [t27 65, n27 2 [r27 98]], t27 66]
def b27 : Nd := n27 1 [t27 65, r27 97]
def g27 : Gr := ⟨{ data := #[71] }, 1, 9, [⟨{ data := #[97] }, 0, a27, 0, 0, 0⟩, ⟨{ data := #[98] }, 0, b27, 0, 0, 0⟩, ⟨{ data := #[65] }, 1, x27 120, 0, 0, 0⟩, ⟨{ data := #[66] }, 1, x27 121, 0, 0, 0⟩]⟩
theorem g27_empty {es : List Bool} (h : g27.IsEmpty es) : es = [false, false, false, false] := by
  refine h.unique ⟨Gr.Sound.start g27, fun i hi hm => ?_⟩
  have hi' : i < 4 := hi
  match i, hi' with
  | 0, _ =>
    have hf : g27.may [false, false, false, false] (Rl.token ⟨{ data := #[97] }, 0, a27, 0, 0, 0⟩) a27 = false := by kernel_rfl
    exact absurd (hf.symm.trans hm) (by decide)
  | 1, _ =>
    have hf : g27.may [false, false, false, false] (Rl.token ⟨{ data := #[98] }, 0, b27, 0, 0, 0⟩) b27 = false := by kernel_rfl
    exact absurd (hf.symm.trans hm) (by decide)
  | 2, _ =>
    have hf : g27.may [false, false, false, false] (Rl.token ⟨{ data := #[65] }, 1, x27 120, 0, 0, 0⟩) (x27 120) = false := by kernel_rfl
    exact absurd (hf.symm.trans hm) (by decide)
  | 3, _ =>
    have hf : g27.may [false, false, false, false] (Rl.token ⟨{ data := #[66] }, 1, x27 121, 0, 0, 0⟩) (x27 121) = false := by kernel_rfl
    exact absurd (hf.symm.trans hm) (by decide)
theorem no_tc27 {O : Nat → Nat → Prop} (hn : ∀ i k, ¬ O i k) {n : Nat} {M : List (List Bool)} (h : IsReach O n M) (i k : Nat) : at2 M i k = false := by
  cases hh : at2 M i k
  · rfl
  · have := (h.tc _ _).1 hh
    cases this with
    | one h => exact absurd h (hn _ _)
    | more h _ => exact absurd h (hn _ _)
theorem g27_once (i k : Nat) : ¬ g27.Once [false, false, false, false] i k := by
  unfold Gr.Once
  have hM : g27.onceM [false, false, false, false] = List.replicate 4 [false, false, false, false] := by kernel_rfl
  rw [hM]
  unfold at2
  rcases i with _ | _ | _ | _ | i <;> rcases k with _ | _ | _ | _ | k <;> simp [List.replicate]
theorem g27_rd0 (i k : Nat) : ¬ g27.rd0 i k := by
  rintro ⟨hi, hk, h, _, m, hm, h3, _⟩
  have hi' : i < 4 := hi
  have hall : ∀ c, (x27 c).all = [x27 c] := fun c => by kernel_rfl
  match i, hi' with
  | 0, _ => cases h
  | 1, _ => cases h
  | 2, _ =>
    replace hm : m ∈ [x27 120] := Eq.mp (congrArg (m ∈ ·) (hall _)) hm
    obtain rfl := List.mem_singleton.1 hm
    exact absurd h3 (by decide)
  | 3, _ =>
    replace hm : m ∈ [x27 121] := Eq.mp (congrArg (m ∈ ·) (hall _)) hm
    obtain rfl := List.mem_singleton.1 hm
    exact absurd h3 (by decide)
theorem g27_told {es : List Bool} {M N : List (List Bool)} (he : g27.IsEmpty es) (hM : IsReach (g27.Once es) g27.rules.length M) (hN : IsReach g27.rd0 g27.rules.length N) : g27.told es (at2 M) (at2 N) = [] := by
  obtain rfl := g27_empty he
  have h1 : at2 M = fun _ _ => false := by funext i k; exact no_tc27 g27_once hM i k
  have h2 : at2 N = fun _ _ => false := by funext i k; exact no_tc27 g27_rd0 hN i k
  rw [h1, h2]
  have : (g27.told [false, false, false, false] (fun _ _ => false) (fun _ _ => false)).isEmpty = true := by kernel_rfl
  exact List.isEmpty_iff.1 this
def goodB (token : Bool) (n : Nd) : Bool := decide ((n.alld 1).length ≤ 2048) && (n.alld 1).all fun p => decide (p.1 ≤ 64) && plainN token p.2
theorem good_of {token : Bool} {n : Nd} (h : goodB token n = true) : GoodN token n := by
  unfold goodB at h
  rw [Bool.and_eq_true, decide_eq_true_eq, List.all_eq_true] at h
  refine ⟨h.1, fun p hp => ?_⟩
  have := h.2 p hp
  rw [Bool.and_eq_true, decide_eq_true_eq] at this
  exact this
theorem g27_sound : soundP g27 := by
  have hk : ∀ (s : ByteArray), Lib.containsS (keptL.take 4) s = false → ¬ keptP s := fun s h e => by
    unfold keptP at e
    rw [h] at e
    cases e
  refine ⟨.inr (good_of (by kernel_rfl)), by decide, by decide, fun i hi => ?_⟩
  have hi' : i < 4 := hi
  match i, hi' with
  | 0, _ => exact ⟨show (0 : Int) ≤ 3 by decide, ⟨good_of (by kernel_rfl), hk _ (by kernel_rfl)⟩, good_of (by kernel_rfl)⟩
  | 1, _ => exact ⟨show (0 : Int) ≤ 3 by decide, ⟨good_of (by kernel_rfl), hk _ (by kernel_rfl)⟩, good_of (by kernel_rfl)⟩
  | 2, _ => exact ⟨show (1 : Int) ≤ 3 by decide, ⟨good_of (by kernel_rfl), hk _ (by kernel_rfl)⟩, good_of (by kernel_rfl)⟩
  | 3, _ => exact ⟨show (1 : Int) ≤ 3 by decide, ⟨good_of (by kernel_rfl), hk _ (by kernel_rfl)⟩, good_of (by kernel_rfl)⟩
theorem g27_few : g27.Few := by
  refine ⟨by decide, fun i hi => ?_⟩
  have hi' : i < 4 := hi
  match i, hi' with
  | 0, _ => exact (by kernel_rfl : decide (a27.all.length ≤ 4000) = true) |> of_decide_eq_true
  | 1, _ => exact (by kernel_rfl : decide (b27.all.length ≤ 4000) = true) |> of_decide_eq_true
  | 2, _ => exact (by kernel_rfl : decide ((x27 120).all.length ≤ 4000) = true) |> of_decide_eq_true
  | 3, _ => exact (by kernel_rfl : decide ((x27 121).all.length ≤ 4000) = true) |> of_decide_eq_true
theorem g27_tot : ∀ i (h : i < g27.rules.length), g27.rules[i].body.total ≤ 3000 := fun i hi => by
  have hi' : i < 4 := hi
  match i, hi' with
  | 0, _ => exact (by kernel_rfl : decide (a27.total ≤ 3000) = true) |> of_decide_eq_true
  | 1, _ => exact (by kernel_rfl : decide (b27.total ≤ 3000) = true) |> of_decide_eq_true
  | 2, _ => exact (by kernel_rfl : decide ((x27 120).total ≤ 3000) = true) |> of_decide_eq_true
  | 3, _ => exact (by kernel_rfl : decide ((x27 121).total ≤ 3000) = true) |> of_decide_eq_true
def B27 : Bk := ⟨[(s27 97, 0), (s27 98, 1)], [(s27 65, 0), (s27 66, 1)], [0, 1], [a27, b27], [⟨1, [0]⟩, ⟨2, [0, 0]⟩]⟩
theorem b27_of : bookOf g27 = B27 := by kernel_rfl
theorem b27_good (h : g27.Fine) : B27.Good := b27_of ▸ book_good g27_sound h

/-! ### what it derives -/
def tk27 (x : Int) (t : Nat) : Bool := x == (t : Int) || x == -2
/-- does a derive the list? -/
def aB : List Int → Bool
  | [] => false
  | [x] => tk27 x 0 || tk27 x 1
  | x :: y :: r => tk27 x 0 && tk27 y 0 && aB r
theorem tok27 {w : List Int} {i t : Nat} : tokM w i t ↔ ∃ x, w[i]? = some x ∧ tk27 x t = true := by
  unfold tokM tk27
  constructor
  · rintro ⟨x, h1, h2⟩
    exact ⟨x, h1, by simpa using h2⟩
  · rintro ⟨x, h1, h2⟩
    exact ⟨x, h1, by simpa using h2⟩
theorem inv_t {w : List Int} {c : UInt8} {i j : Nat} (h : Der B27 w (t27 c) i j) : tokM w i (B27.tok (s27 c)) ∧ j = i + 1 := by
  unfold t27 at h
  cases h with
  | tok h => exact ⟨h, rfl⟩
  | other hk => omega
theorem inv_r {w : List Int} {c : UInt8} {i j : Nat} (h : Der B27 w (r27 c) i j) : ∃ n, B27.bodies[B27.rule (s27 c)]? = some n ∧ Der B27 w n i j := by
  unfold r27 at h
  cases h with
  | ref h hd => exact ⟨_, h, hd⟩
  | other hk => omega
theorem inv_b {w : List Int} {i j : Nat} (h : Der B27 w b27 i j) : tokM w i 0 ∧ Der B27 w a27 (i + 1) j := by
  unfold b27 n27 at h
  cases h with
  | seq h =>
    cases h with
    | cons h1 h2 =>
      obtain ⟨h3, rfl⟩ := inv_t h1
      cases h2 with
      | cons h4 h5 =>
        cases h5
        obtain ⟨n, hn, hd⟩ := inv_r h4
        have : n = a27 := (Option.some.inj (hn.symm.trans (show B27.bodies[B27.rule (s27 97)]? = some a27 by kernel_rfl)))
        subst this
        exact ⟨h3, hd⟩
  | other hk => omega
theorem inv_a {w : List Int} {i j : Nat} (h : Der B27 w a27 i j) : (tokM w i 0 ∧ (j = i + 1 ∨ Der B27 w b27 (i + 1) j)) ∨ (tokM w i 1 ∧ j = i + 1) := by
  unfold a27 n27 at h
  cases h with
  | alt hx h =>
    rcases List.mem_cons.1 hx with rfl | hx
    · left
      cases h with
      | seq h =>
        cases h with
        | cons h1 h2 =>
          obtain ⟨h3, rfl⟩ := inv_t h1
          cases h2 with
          | cons h4 h5 =>
            cases h5
            refine ⟨h3, ?_⟩
            cases h4 with
            | opt0 => exact .inl rfl
            | opt h =>
              obtain ⟨n, hn, hd⟩ := inv_r h
              have : n = b27 := (Option.some.inj (hn.symm.trans (show B27.bodies[B27.rule (s27 98)]? = some b27 by kernel_rfl)))
              subst this
              exact .inr hd
            | other hk => omega
      | other hk => omega
    · obtain rfl := List.mem_singleton.1 hx
      right
      exact inv_t h
  | other hk => omega
theorem mk_b {w : List Int} {i j : Nat} (h1 : tokM w i 0) (h2 : Der B27 w a27 (i + 1) j) : Der B27 w b27 i j :=
  .seq (.cons (.tok (show tokM w i (B27.tok (s27 65)) from h1)) (.cons (.ref (show B27.bodies[B27.rule (s27 97)]? = some a27 by kernel_rfl) h2) .nil))
theorem mk_a1 {w : List Int} {i j : Nat} (h1 : tokM w i 0) (h2 : Der B27 w b27 (i + 1) j) : Der B27 w a27 i j :=
  .alt (x := n27 1 [t27 65, n27 2 [r27 98]]) (by simp) (.seq (.cons (.tok (show tokM w i (B27.tok (s27 65)) from h1)) (.cons (.opt (.ref (show B27.bodies[B27.rule (s27 98)]? = some b27 by kernel_rfl) h2)) .nil)))
theorem mk_a0 {w : List Int} {i : Nat} (h1 : tokM w i 0) : Der B27 w a27 i (i + 1) :=
  .alt (x := n27 1 [t27 65, n27 2 [r27 98]]) (by simp) (.seq (.cons (.tok (show tokM w i (B27.tok (s27 65)) from h1)) (.cons .opt0 .nil)))
theorem mk_a2 {w : List Int} {i : Nat} (h1 : tokM w i 1) : Der B27 w a27 i (i + 1) :=
  .alt (x := t27 66) (by simp) (.tok (show tokM w i (B27.tok (s27 66)) from h1))
theorem der_aB {w : List Int} : ∀ (l : List Int) (i : Nat), w.drop i = l → i ≤ w.length → (Der B27 w a27 i w.length ↔ aB l = true)
  | [], i, hd, hi => by
    have hl : w.length ≤ i := List.drop_eq_nil_iff.1 hd
    have no : ∀ t, ¬ tokM w i t := fun t ⟨x, hx, _⟩ => by
      have := (List.getElem?_eq_some_iff.1 hx).1
      omega
    refine ⟨fun h => ?_, fun h => by cases h⟩
    rcases inv_a h with ⟨h1, -⟩ | ⟨h1, -⟩
    · exact absurd h1 (no _)
    · exact absurd h1 (no _)
  | [x], i, hd, hi => by
    have hlen : w.length = i + 1 := by have := congrArg List.length hd; rw [List.length_drop, List.length_singleton] at this; omega
    have hx : w[i]? = some x := by rw [← Nat.add_zero i, ← List.getElem?_drop, hd]; rfl
    have ht : ∀ t, tokM w i t ↔ tk27 x t = true := fun t => by
      rw [tok27]
      exact ⟨fun ⟨y, h1, h2⟩ => by rw [hx] at h1; cases h1; exact h2, fun h => ⟨x, hx, h⟩⟩
    unfold aB
    rw [Bool.or_eq_true]
    constructor
    · intro h
      rcases inv_a h with ⟨h1, -⟩ | ⟨h1, -⟩
      · exact .inl ((ht 0).1 h1)
      · exact .inr ((ht 1).1 h1)
    · rintro (h | h)
      · rw [hlen]; exact mk_a0 ((ht 0).2 h)
      · rw [hlen]; exact mk_a2 ((ht 1).2 h)
  | x :: y :: r, i, hd, hi => by
    have hlen : w.length = i + 2 + r.length := by have := congrArg List.length hd; rw [List.length_drop, List.length_cons, List.length_cons] at this; omega
    have hx : w[i]? = some x := by rw [← Nat.add_zero i, ← List.getElem?_drop, hd]; rfl
    have hy : w[i + 1]? = some y := by rw [← List.getElem?_drop, hd]; rfl
    have hr : w.drop (i + 1 + 1) = r := by
      have : (w.drop i).drop 2 = r := by rw [hd]; rfl
      rw [List.drop_drop] at this
      exact this
    have ht : ∀ t, tokM w i t ↔ tk27 x t = true := fun t => by
      rw [tok27]
      exact ⟨fun ⟨y, h1, h2⟩ => by rw [hx] at h1; cases h1; exact h2, fun h => ⟨x, hx, h⟩⟩
    have hu : ∀ t, tokM w (i + 1) t ↔ tk27 y t = true := fun t => by
      rw [tok27]
      exact ⟨fun ⟨z, h1, h2⟩ => by rw [hy] at h1; cases h1; exact h2, fun h => ⟨y, hy, h⟩⟩
    have ih := der_aB r (i + 1 + 1) hr (by omega)
    unfold aB
    rw [Bool.and_eq_true, Bool.and_eq_true, ← ih]
    constructor
    · intro h
      rcases inv_a h with ⟨h1, h2 | h2⟩ | ⟨-, h2⟩
      · omega
      · obtain ⟨h3, h4⟩ := inv_b h2
        exact ⟨⟨(ht 0).1 h1, (hu 0).1 h3⟩, h4⟩
      · omega
    · rintro ⟨⟨h1, h2⟩, h3⟩
      exact mk_a1 ((ht 0).2 h1) (mk_b ((hu 0).2 h2) h3)
/-- does b? -/
def bB : List Int → Bool
  | [] => false
  | x :: r => tk27 x 0 && aB r
theorem d0_27 (w : List Int) : B27.D 0 w ↔ aB w = true := by
  unfold Bk.D
  rw [← der_aB w 0 rfl (by omega)]
  exact ⟨fun ⟨n, hn, hd⟩ => by cases Option.some.inj hn; exact hd, fun h => ⟨_, rfl, h⟩⟩
theorem d1_27 (w : List Int) : B27.D 1 w ↔ bB w = true := by
  unfold Bk.D
  have e : (∃ n, B27.bodies[1]? = some n ∧ Der B27 w n 0 w.length) ↔ Der B27 w b27 0 w.length := ⟨fun ⟨n, hn, hd⟩ => by cases Option.some.inj hn; exact hd, fun h => ⟨_, rfl, h⟩⟩
  rw [e]
  cases w with
  | nil =>
    refine ⟨fun h => ?_, fun h => by cases h⟩
    obtain ⟨⟨x, hx, -⟩, -⟩ := inv_b h
    cases hx
  | cons x r =>
    have ih := der_aB (w := x :: r) r 1 rfl (by simp)
    unfold bB
    rw [Bool.and_eq_true, ← ih]
    have ht : tokM (x :: r) 0 0 ↔ tk27 x 0 = true := by
      rw [tok27]
      exact ⟨fun ⟨y, h1, h2⟩ => by cases h1; exact h2, fun h => ⟨x, rfl, h⟩⟩
    exact ⟨fun h => by obtain ⟨h1, h2⟩ := inv_b h; exact ⟨ht.1 h1, h2⟩, fun ⟨h1, h2⟩ => mk_b (ht.2 h1) h2⟩
theorem db_27 : B27.dB 0 = aB := by
  funext w
  exact (Bk.dB_iff (d0_27 w).symm).symm
theorem all_27 : B27.allL 0 3 9 = some [[0], [1], [0, 0, 0], [0, 0, 1]] ∧ B27.allL 0 3 3 = none := by
  unfold Bk.allL
  rw [show (0 : Int).toNat = 0 from rfl, db_27]
  exact ⟨by kernel_rfl, by kernel_rfl⟩
end Go.Proofs.YtgegjjfjhpokpaaGreatDoor

/- harbingerlaw27.Grammar: the example's grammar in memory. Printed by gensagram.py. -/
namespace Go.Proofs.YtgegjjfjhpokpaaGreatDoor
open Go.RowKit

theorem set_four {w : World} {b T : Nat} {x0 x1 x2 x3 : Value} (h : Owns w b [x0, x1, x2, x3] T) (y0 y1 y2 y3 : Value) :
    But (fun q => q = b) w ((((w.setCell ⟨b, 0, none⟩ y0).setCell ⟨b, 1, none⟩ y1).setCell ⟨b, 2, none⟩ y2).setCell ⟨b, 3, none⟩ y3) ∧ Owns ((((w.setCell ⟨b, 0, none⟩ y0).setCell ⟨b, 1, none⟩ y1).setCell ⟨b, 2, none⟩ y2).setCell ⟨b, 3, none⟩ y3) b [y0, y1, y2, y3] T := by
  have h1 := h.set 0 y0
  have h2 := h1.set 1 y1
  have h3 := h2.set 2 y2
  exact ⟨(((set_but h).trans (set_but h1) fun _ _ e => e).trans (set_but h2) fun _ _ e => e).trans (set_but h3) fun _ _ e => e, h3.set 3 y3⟩
def Gram27 (W : World) (e : Ending) (W' : World) : Prop := ∃ v3, e = .returned (.agg #[.string { data := #[71] }, .int .i64 1, .int .i64 9, v3]) ∧ GrAt W' W'.heap.size (some (.string { data := #[71] })) (some (.int .i64 1)) (some (.int .i64 9)) (some v3) g27 ∧ Grew W W'
set_option maxHeartbeats 4000000 in
set_option maxRecDepth 40000 in
theorem gram27_at {w : World} {f : Nat} (h3 : Owns w (f + 1 + 1 + 1) [.int .u8 5, .string { data := #[98] }, .string { data := #[] }, .slice none 0 0, .slice none 0 0] 68) (h4 : Owns w (f + 1 + 1 + 1 + 1) [.int .u8 6, .string { data := #[65] }, .string { data := #[] }, .slice none 0 0, .slice none 0 0, .int .u8 2, .string { data := #[] }, .string { data := #[] }, .slice none 0 0, .slice (some ⟨f + 1 + 1 + 1, 0, none⟩) 1 1] 68) (h6 : Owns w (f + 1 + 1 + 1 + 1 + 1 + 1) [.int .u8 6, .string { data := #[65] }, .string { data := #[] }, .slice none 0 0, .slice none 0 0, .int .u8 5, .string { data := #[97] }, .string { data := #[] }, .slice none 0 0, .slice none 0 0] 68) (h9 : Owns w (f + 1 + 1 + 1 + 1 + 1 + 1 + 1 + 1 + 1) [.int .u8 1, .string { data := #[] }, .string { data := #[] }, .slice none 0 0, .slice (some ⟨f + 1 + 1 + 1 + 1, 0, none⟩) 2 2, .int .u8 6, .string { data := #[66] }, .string { data := #[] }, .slice none 0 0, .slice none 0 0] 68) (h10 : Owns w (f + 1 + 1 + 1 + 1 + 1 + 1 + 1 + 1 + 1 + 1) [.string { data := #[97] }, .int .u8 0, .int .u8 0, .string { data := #[] }, .string { data := #[] }, .slice none 0 0, .slice (some ⟨f + 1 + 1 + 1 + 1 + 1 + 1 + 1 + 1 + 1, 0, none⟩) 2 2, .int .i64 0, .int .i64 0, .int .i64 0, .string { data := #[98] }, .int .u8 0, .int .u8 1, .string { data := #[] }, .string { data := #[] }, .slice none 0 0, .slice (some ⟨f + 1 + 1 + 1 + 1 + 1 + 1, 0, none⟩) 2 2, .int .i64 0, .int .i64 0, .int .i64 0, .string { data := #[65] }, .int .u8 1, .int .u8 8, .string { data := #[] }, .string { data := #[120] }, .slice none 0 0, .slice none 0 0, .int .i64 0, .int .i64 0, .int .i64 0, .string { data := #[66] }, .int .u8 1, .int .u8 8, .string { data := #[] }, .string { data := #[121] }, .slice none 0 0, .slice none 0 0, .int .i64 0, .int .i64 0, .int .i64 0] 72) : GrAt w w.heap.size (some (.string { data := #[71] })) (some (.int .i64 1)) (some (.int .i64 9)) (some (.slice (some ⟨f + 1 + 1 + 1 + 1 + 1 + 1 + 1 + 1 + 1 + 1, 0, none⟩) 4 4)) g27 := by
  have c3_0 := h3.cell_at (i := 0) rfl
  have c3_1 := h3.cell_at (i := 1) rfl
  have c3_2 := h3.cell_at (i := 2) rfl
  have c3_3 := h3.cell_at (i := 3) rfl
  have c3_4 := h3.cell_at (i := 4) rfl
  have l3 := h3.lt
  clear h3
  have c4_0 := h4.cell_at (i := 0) rfl
  have c4_1 := h4.cell_at (i := 1) rfl
  have c4_2 := h4.cell_at (i := 2) rfl
  have c4_3 := h4.cell_at (i := 3) rfl
  have c4_4 := h4.cell_at (i := 4) rfl
  have c4_5 := h4.cell_at (i := 5) rfl
  have c4_6 := h4.cell_at (i := 6) rfl
  have c4_7 := h4.cell_at (i := 7) rfl
  have c4_8 := h4.cell_at (i := 8) rfl
  have c4_9 := h4.cell_at (i := 9) rfl
  have l4 := h4.lt
  clear h4
  have c6_0 := h6.cell_at (i := 0) rfl
  have c6_1 := h6.cell_at (i := 1) rfl
  have c6_2 := h6.cell_at (i := 2) rfl
  have c6_3 := h6.cell_at (i := 3) rfl
  have c6_4 := h6.cell_at (i := 4) rfl
  have c6_5 := h6.cell_at (i := 5) rfl
  have c6_6 := h6.cell_at (i := 6) rfl
  have c6_7 := h6.cell_at (i := 7) rfl
  have c6_8 := h6.cell_at (i := 8) rfl
  have c6_9 := h6.cell_at (i := 9) rfl
  have l6 := h6.lt
  clear h6
  have c9_0 := h9.cell_at (i := 0) rfl
  have c9_1 := h9.cell_at (i := 1) rfl
  have c9_2 := h9.cell_at (i := 2) rfl
  have c9_3 := h9.cell_at (i := 3) rfl
  have c9_4 := h9.cell_at (i := 4) rfl
  have c9_5 := h9.cell_at (i := 5) rfl
  have c9_6 := h9.cell_at (i := 6) rfl
  have c9_7 := h9.cell_at (i := 7) rfl
  have c9_8 := h9.cell_at (i := 8) rfl
  have c9_9 := h9.cell_at (i := 9) rfl
  have l9 := h9.lt
  clear h9
  have c10_0 := h10.cell_at (i := 0) rfl
  have c10_1 := h10.cell_at (i := 1) rfl
  have c10_2 := h10.cell_at (i := 2) rfl
  have c10_3 := h10.cell_at (i := 3) rfl
  have c10_4 := h10.cell_at (i := 4) rfl
  have c10_5 := h10.cell_at (i := 5) rfl
  have c10_6 := h10.cell_at (i := 6) rfl
  have c10_7 := h10.cell_at (i := 7) rfl
  have c10_8 := h10.cell_at (i := 8) rfl
  have c10_9 := h10.cell_at (i := 9) rfl
  have c10_10 := h10.cell_at (i := 10) rfl
  have c10_11 := h10.cell_at (i := 11) rfl
  have c10_12 := h10.cell_at (i := 12) rfl
  have c10_13 := h10.cell_at (i := 13) rfl
  have c10_14 := h10.cell_at (i := 14) rfl
  have c10_15 := h10.cell_at (i := 15) rfl
  have c10_16 := h10.cell_at (i := 16) rfl
  have c10_17 := h10.cell_at (i := 17) rfl
  have c10_18 := h10.cell_at (i := 18) rfl
  have c10_19 := h10.cell_at (i := 19) rfl
  have c10_20 := h10.cell_at (i := 20) rfl
  have c10_21 := h10.cell_at (i := 21) rfl
  have c10_22 := h10.cell_at (i := 22) rfl
  have c10_23 := h10.cell_at (i := 23) rfl
  have c10_24 := h10.cell_at (i := 24) rfl
  have c10_25 := h10.cell_at (i := 25) rfl
  have c10_26 := h10.cell_at (i := 26) rfl
  have c10_27 := h10.cell_at (i := 27) rfl
  have c10_28 := h10.cell_at (i := 28) rfl
  have c10_29 := h10.cell_at (i := 29) rfl
  have c10_30 := h10.cell_at (i := 30) rfl
  have c10_31 := h10.cell_at (i := 31) rfl
  have c10_32 := h10.cell_at (i := 32) rfl
  have c10_33 := h10.cell_at (i := 33) rfl
  have c10_34 := h10.cell_at (i := 34) rfl
  have c10_35 := h10.cell_at (i := 35) rfl
  have c10_36 := h10.cell_at (i := 36) rfl
  have c10_37 := h10.cell_at (i := 37) rfl
  have c10_38 := h10.cell_at (i := 38) rfl
  have c10_39 := h10.cell_at (i := 39) rfl
  have l10 := h10.lt
  clear h10
  simp [GrAt, g27, a27, b27, t27, r27, x27, n27, RulesAt, RuleAt, NodesAt, NodeAt, RangesAt, reachN, InI64, ByteArray.size, and_assoc, *]
set_option maxHeartbeats 4000000 in
set_option maxRecDepth 40000 in
theorem grammar27_ok (W : World) : Calls Tryz.prog 23 #[] W (Gram27 W) := by
  obtain ⟨Q, hQ⟩ : ∃ Q, Gram27 W = Q := ⟨_, rfl⟩
  rw [hQ]
  have HQ := Lib.hid hQ
  clear hQ
  obtain ⟨f, hf⟩ : ∃ f, W.heap.size = f := ⟨_, rfl⟩
  have HFS := Lib.hid hf
  have hs0 := Lib.hid hf
  go_enter Tryz.func23, Tryz.ntmps23
  go_upto_region 3 with fail
  obtain ⟨w1, hw1⟩ : ∃ w1, W.alloc (.cells #[.string { data := #[] }, .int .i64 0, .int .i64 0, .slice none 0 0] 46) = w1 := ⟨_, rfl⟩
  have G1 := Lib.hid (show Grew W w1 from hw1 ▸ grew_alloc W _)
  have O0 := Lib.hid (show Owns w1 (f) [.string { data := #[] }, .int .i64 0, .int .i64 0, .slice none 0 0] 46 from hf ▸ hw1 ▸ Owns.alloc W _ _)
  have Y1 := Lib.hid (show w1.heap.size = f + 1 by rw [← hf, ← hw1]; exact World.size_alloc _ _)
  rw [hw1]
  clear hw1
  clear hf
  obtain ⟨w2, hw2⟩ : ∃ w2, w1.alloc (.cells #[.int .u8 6, .string { data := #[65] }, .string { data := #[] }, .slice none 0 0, .slice none 0 0] 68) = w2 := ⟨_, rfl⟩
  have G2 := Lib.hid (show Grew w1 w2 from hw2 ▸ grew_alloc w1 _)
  have O1 := Lib.hid (show Owns w2 (f + 1) [.int .u8 6, .string { data := #[65] }, .string { data := #[] }, .slice none 0 0, .slice none 0 0] 68 from Y1.out ▸ hw2 ▸ Owns.alloc w1 _ _)
  have Y2 := Lib.hid (show w2.heap.size = f + 1 + 1 by rw [← Y1.out, ← hw2]; exact World.size_alloc _ _)
  rw [hw2]
  clear hw2
  obtain ⟨w3, hw3⟩ : ∃ w3, w2.alloc (.cells #[.int .u8 6, .string { data := #[66] }, .string { data := #[] }, .slice none 0 0, .slice none 0 0] 68) = w3 := ⟨_, rfl⟩
  have G3 := Lib.hid (show Grew w2 w3 from hw3 ▸ grew_alloc w2 _)
  have O2 := Lib.hid (show Owns w3 (f + 1 + 1) [.int .u8 6, .string { data := #[66] }, .string { data := #[] }, .slice none 0 0, .slice none 0 0] 68 from Y2.out ▸ hw3 ▸ Owns.alloc w2 _ _)
  have Y3 := Lib.hid (show w3.heap.size = f + 1 + 1 + 1 by rw [← Y2.out, ← hw3]; exact World.size_alloc _ _)
  rw [hw3]
  clear hw3
  have u1_h := Lib.hid (O1.out.keep G3.out)
  have u1_0 := u1_h.out.cell_at (i := 0) rfl
  have u1_1 := u1_h.out.cell_at (i := 1) rfl
  have u1_2 := u1_h.out.cell_at (i := 2) rfl
  have u1_3 := u1_h.out.cell_at (i := 3) rfl
  have u1_4 := u1_h.out.cell_at (i := 4) rfl
  have u1_l := u1_h.out.lt
  have hs3 := Y3.out
  go_upto_region 4 with fail
  clear u1_0 u1_1 u1_2 u1_3 u1_4 u1_l
  clear hs3
  obtain ⟨w4, hw4⟩ : ∃ w4, w3.alloc (.cells #[.int .u8 5, .string { data := #[98] }, .string { data := #[] }, .slice none 0 0, .slice none 0 0] 68) = w4 := ⟨_, rfl⟩
  have G4 := Lib.hid (show Grew w3 w4 from hw4 ▸ grew_alloc w3 _)
  have O3 := Lib.hid (show Owns w4 (f + 1 + 1 + 1) [.int .u8 5, .string { data := #[98] }, .string { data := #[] }, .slice none 0 0, .slice none 0 0] 68 from Y3.out ▸ hw4 ▸ Owns.alloc w3 _ _)
  have Y4 := Lib.hid (show w4.heap.size = f + 1 + 1 + 1 + 1 by rw [← Y3.out, ← hw4]; exact World.size_alloc _ _)
  rw [hw4]
  clear hw4
  obtain ⟨w5, hw5⟩ : ∃ w5, w4.alloc (.cells #[.int .u8 6, .string { data := #[65] }, .string { data := #[] }, .slice none 0 0, .slice none 0 0, .int .u8 2, .string { data := #[] }, .string { data := #[] }, .slice none 0 0, .slice (some ⟨f + 1 + 1 + 1, 0, none⟩) 1 1] 68) = w5 := ⟨_, rfl⟩
  have G5 := Lib.hid (show Grew w4 w5 from hw5 ▸ grew_alloc w4 _)
  have O4 := Lib.hid (show Owns w5 (f + 1 + 1 + 1 + 1) [.int .u8 6, .string { data := #[65] }, .string { data := #[] }, .slice none 0 0, .slice none 0 0, .int .u8 2, .string { data := #[] }, .string { data := #[] }, .slice none 0 0, .slice (some ⟨f + 1 + 1 + 1, 0, none⟩) 1 1] 68 from Y4.out ▸ hw5 ▸ Owns.alloc w4 _ _)
  have Y5 := Lib.hid (show w5.heap.size = f + 1 + 1 + 1 + 1 + 1 by rw [← Y4.out, ← hw5]; exact World.size_alloc _ _)
  rw [hw5]
  clear hw5
  obtain ⟨w6, hw6⟩ : ∃ w6, w5.alloc (.cells #[.int .u8 1, .string { data := #[] }, .string { data := #[] }, .slice none 0 0, .slice (some ⟨f + 1 + 1 + 1 + 1, 0, none⟩) 2 2] 68) = w6 := ⟨_, rfl⟩
  have G6 := Lib.hid (show Grew w5 w6 from hw6 ▸ grew_alloc w5 _)
  have O5 := Lib.hid (show Owns w6 (f + 1 + 1 + 1 + 1 + 1) [.int .u8 1, .string { data := #[] }, .string { data := #[] }, .slice none 0 0, .slice (some ⟨f + 1 + 1 + 1 + 1, 0, none⟩) 2 2] 68 from Y5.out ▸ hw6 ▸ Owns.alloc w5 _ _)
  have Y6 := Lib.hid (show w6.heap.size = f + 1 + 1 + 1 + 1 + 1 + 1 by rw [← Y5.out, ← hw6]; exact World.size_alloc _ _)
  rw [hw6]
  clear hw6
  have u2_h := Lib.hid (O1.out.keep (((G3.out.trans G4.out).trans G5.out).trans G6.out))
  have u2_0 := u2_h.out.cell_at (i := 0) rfl
  have u2_1 := u2_h.out.cell_at (i := 1) rfl
  have u2_2 := u2_h.out.cell_at (i := 2) rfl
  have u2_3 := u2_h.out.cell_at (i := 3) rfl
  have u2_4 := u2_h.out.cell_at (i := 4) rfl
  have u2_l := u2_h.out.lt
  have hs6 := Y6.out
  go_upto_region 5 with fail
  clear u2_0 u2_1 u2_2 u2_3 u2_4 u2_l
  clear hs6
  obtain ⟨w7, hw7⟩ : ∃ w7, w6.alloc (.cells #[.int .u8 6, .string { data := #[65] }, .string { data := #[] }, .slice none 0 0, .slice none 0 0, .int .u8 5, .string { data := #[97] }, .string { data := #[] }, .slice none 0 0, .slice none 0 0] 68) = w7 := ⟨_, rfl⟩
  have G7 := Lib.hid (show Grew w6 w7 from hw7 ▸ grew_alloc w6 _)
  have O6 := Lib.hid (show Owns w7 (f + 1 + 1 + 1 + 1 + 1 + 1) [.int .u8 6, .string { data := #[65] }, .string { data := #[] }, .slice none 0 0, .slice none 0 0, .int .u8 5, .string { data := #[97] }, .string { data := #[] }, .slice none 0 0, .slice none 0 0] 68 from Y6.out ▸ hw7 ▸ Owns.alloc w6 _ _)
  have Y7 := Lib.hid (show w7.heap.size = f + 1 + 1 + 1 + 1 + 1 + 1 + 1 by rw [← Y6.out, ← hw7]; exact World.size_alloc _ _)
  rw [hw7]
  clear hw7
  obtain ⟨w8, hw8⟩ : ∃ w8, w7.alloc (.cells #[.int .u8 1, .string { data := #[] }, .string { data := #[] }, .slice none 0 0, .slice (some ⟨f + 1 + 1 + 1 + 1 + 1 + 1, 0, none⟩) 2 2] 68) = w8 := ⟨_, rfl⟩
  have G8 := Lib.hid (show Grew w7 w8 from hw8 ▸ grew_alloc w7 _)
  have O7 := Lib.hid (show Owns w8 (f + 1 + 1 + 1 + 1 + 1 + 1 + 1) [.int .u8 1, .string { data := #[] }, .string { data := #[] }, .slice none 0 0, .slice (some ⟨f + 1 + 1 + 1 + 1 + 1 + 1, 0, none⟩) 2 2] 68 from Y7.out ▸ hw8 ▸ Owns.alloc w7 _ _)
  have Y8 := Lib.hid (show w8.heap.size = f + 1 + 1 + 1 + 1 + 1 + 1 + 1 + 1 by rw [← Y7.out, ← hw8]; exact World.size_alloc _ _)
  rw [hw8]
  clear hw8
  have hs8 := Y8.out
  go_upto_region 6 with fail
  clear hs8
  obtain ⟨w9, hw9⟩ : ∃ w9, w8.alloc (.cells #[.string { data := #[71] }, .int .i64 1, .int .i64 9, .slice none 0 0] 46) = w9 := ⟨_, rfl⟩
  have G9 := Lib.hid (show Grew w8 w9 from hw9 ▸ grew_alloc w8 _)
  have O8 := Lib.hid (show Owns w9 (f + 1 + 1 + 1 + 1 + 1 + 1 + 1 + 1) [.string { data := #[71] }, .int .i64 1, .int .i64 9, .slice none 0 0] 46 from Y8.out ▸ hw9 ▸ Owns.alloc w8 _ _)
  have Y9 := Lib.hid (show w9.heap.size = f + 1 + 1 + 1 + 1 + 1 + 1 + 1 + 1 + 1 by rw [← Y8.out, ← hw9]; exact World.size_alloc _ _)
  rw [hw9]
  clear hw9
  have u3_h := Lib.hid (O5.out.keep ((G7.out.trans G8.out).trans G9.out))
  have u3_0 := u3_h.out.cell_at (i := 0) rfl
  have u3_1 := u3_h.out.cell_at (i := 1) rfl
  have u3_2 := u3_h.out.cell_at (i := 2) rfl
  have u3_3 := u3_h.out.cell_at (i := 3) rfl
  have u3_4 := u3_h.out.cell_at (i := 4) rfl
  have u3_l := u3_h.out.lt
  have u4_h := Lib.hid (O2.out.keep (((((G4.out.trans G5.out).trans G6.out).trans G7.out).trans G8.out).trans G9.out))
  have u4_0 := u4_h.out.cell_at (i := 0) rfl
  have u4_1 := u4_h.out.cell_at (i := 1) rfl
  have u4_2 := u4_h.out.cell_at (i := 2) rfl
  have u4_3 := u4_h.out.cell_at (i := 3) rfl
  have u4_4 := u4_h.out.cell_at (i := 4) rfl
  have u4_l := u4_h.out.lt
  have hs9 := Y9.out
  obtain ⟨w10, hw10⟩ : ∃ w10, w9.alloc (.cells #[.int .u8 1, .string { data := #[] }, .string { data := #[] }, .slice none 0 0, .slice (some ⟨f + 1 + 1 + 1 + 1, 0, none⟩) 2 2, .int .u8 6, .string { data := #[66] }, .string { data := #[] }, .slice none 0 0, .slice none 0 0] 68) = w10 := ⟨_, rfl⟩
  have G10 := Lib.hid (show Grew w9 w10 from hw10 ▸ grew_alloc w9 _)
  have O9 := Lib.hid (show Owns w10 (f + 1 + 1 + 1 + 1 + 1 + 1 + 1 + 1 + 1) [.int .u8 1, .string { data := #[] }, .string { data := #[] }, .slice none 0 0, .slice (some ⟨f + 1 + 1 + 1 + 1, 0, none⟩) 2 2, .int .u8 6, .string { data := #[66] }, .string { data := #[] }, .slice none 0 0, .slice none 0 0] 68 from Y9.out ▸ hw10 ▸ Owns.alloc w9 _ _)
  have Y10 := Lib.hid (show w10.heap.size = f + 1 + 1 + 1 + 1 + 1 + 1 + 1 + 1 + 1 + 1 by rw [← Y9.out, ← hw10]; exact World.size_alloc _ _)
  have u5_h := Lib.hid (O7.out.keep (G9.out.trans G10.out))
  have u5_0 := u5_h.out.cell_at (i := 0) rfl
  have u5_1 := u5_h.out.cell_at (i := 1) rfl
  have u5_2 := u5_h.out.cell_at (i := 2) rfl
  have u5_3 := u5_h.out.cell_at (i := 3) rfl
  have u5_4 := u5_h.out.cell_at (i := 4) rfl
  have u5_l := u5_h.out.lt
  have hs10 := Y10.out
  obtain ⟨w11, hw11⟩ : ∃ w11, w10.alloc (.cells #[.string { data := #[97] }, .int .u8 0, .int .u8 0, .string { data := #[] }, .string { data := #[] }, .slice none 0 0, .slice (some ⟨f + 1 + 1 + 1 + 1 + 1 + 1 + 1 + 1 + 1, 0, none⟩) 2 2, .int .i64 0, .int .i64 0, .int .i64 0, .string { data := #[98] }, .int .u8 0, .int .u8 1, .string { data := #[] }, .string { data := #[] }, .slice none 0 0, .slice (some ⟨f + 1 + 1 + 1 + 1 + 1 + 1, 0, none⟩) 2 2, .int .i64 0, .int .i64 0, .int .i64 0, .string { data := #[65] }, .int .u8 1, .int .u8 8, .string { data := #[] }, .string { data := #[120] }, .slice none 0 0, .slice none 0 0, .int .i64 0, .int .i64 0, .int .i64 0, .string { data := #[66] }, .int .u8 1, .int .u8 8, .string { data := #[] }, .string { data := #[121] }, .slice none 0 0, .slice none 0 0, .int .i64 0, .int .i64 0, .int .i64 0] 72) = w11 := ⟨_, rfl⟩
  have G11 := Lib.hid (show Grew w10 w11 from hw11 ▸ grew_alloc w10 _)
  have O10 := Lib.hid (show Owns w11 (f + 1 + 1 + 1 + 1 + 1 + 1 + 1 + 1 + 1 + 1) [.string { data := #[97] }, .int .u8 0, .int .u8 0, .string { data := #[] }, .string { data := #[] }, .slice none 0 0, .slice (some ⟨f + 1 + 1 + 1 + 1 + 1 + 1 + 1 + 1 + 1, 0, none⟩) 2 2, .int .i64 0, .int .i64 0, .int .i64 0, .string { data := #[98] }, .int .u8 0, .int .u8 1, .string { data := #[] }, .string { data := #[] }, .slice none 0 0, .slice (some ⟨f + 1 + 1 + 1 + 1 + 1 + 1, 0, none⟩) 2 2, .int .i64 0, .int .i64 0, .int .i64 0, .string { data := #[65] }, .int .u8 1, .int .u8 8, .string { data := #[] }, .string { data := #[120] }, .slice none 0 0, .slice none 0 0, .int .i64 0, .int .i64 0, .int .i64 0, .string { data := #[66] }, .int .u8 1, .int .u8 8, .string { data := #[] }, .string { data := #[121] }, .slice none 0 0, .slice none 0 0, .int .i64 0, .int .i64 0, .int .i64 0] 72 from Y10.out ▸ hw11 ▸ Owns.alloc w10 _ _)
  have Y11 := Lib.hid (show w11.heap.size = f + 1 + 1 + 1 + 1 + 1 + 1 + 1 + 1 + 1 + 1 + 1 by rw [← Y10.out, ← hw11]; exact World.size_alloc _ _)
  have v8 := O8.out.keep (G10.out.trans G11.out)
  have v8_l := v8.lt
  have v8_f := v8.free 3
  have v8_c := v8.cell_at (i := 3) rfl
  have V8 := Lib.hid v8
  clear v8
  go_upto_region 7 with fail
  clear u3_0 u3_1 u3_2 u3_3 u3_4 u3_l u4_0 u4_1 u4_2 u4_3 u4_4 u4_l u5_0 u5_1 u5_2 u5_3 u5_4 u5_l v8_l v8_f v8_c hs9 hs10
  clear hw10 hw11
  have k3 := O3.out.keep ((((((G5.out.trans G6.out).trans G7.out).trans G8.out).trans G9.out).trans G10.out).trans G11.out)
  have k4 := O4.out.keep (((((G6.out.trans G7.out).trans G8.out).trans G9.out).trans G10.out).trans G11.out)
  have k6 := O6.out.keep (((G8.out.trans G9.out).trans G10.out).trans G11.out)
  have k9 := O9.out.keep G11.out
  have k10 := O10.out.keep (Grew.refl w11)
  have v0 := O0.out.keep (((((((((G2.out.trans G3.out).trans G4.out).trans G5.out).trans G6.out).trans G7.out).trans G8.out).trans G9.out).trans G10.out).trans G11.out)
  have hbA := set_but (i := 3) (v := .slice (some ⟨f + 1 + 1 + 1 + 1 + 1 + 1 + 1 + 1 + 1 + 1, 0, none⟩) 4 4) V8.out
  have oA := show Owns _ (f + 1 + 1 + 1 + 1 + 1 + 1 + 1 + 1) [.string { data := #[71] }, .int .i64 1, .int .i64 9, .slice (some ⟨f + 1 + 1 + 1 + 1 + 1 + 1 + 1 + 1 + 1 + 1, 0, none⟩) 4 4] 46 from V8.out.set 3 (.slice (some ⟨f + 1 + 1 + 1 + 1 + 1 + 1 + 1 + 1 + 1 + 1, 0, none⟩) 4 4)
  have oB := hbA.owns v0 (by omega)
  have hgr := ((((((((((G1.out.trans G2.out).trans G3.out).trans G4.out).trans G5.out).trans G6.out).trans G7.out).trans G8.out).trans G9.out).trans G10.out).trans G11.out)
  have k3 := Lib.hid (hbA.owns k3 (by omega))
  have k4 := Lib.hid (hbA.owns k4 (by omega))
  have k6 := Lib.hid (hbA.owns k6 (by omega))
  have k9 := Lib.hid (hbA.owns k9 (by omega))
  have k10 := Lib.hid (hbA.owns k10 (by omega))
  have hgA := Lib.hid (show Grew W _ from Below.trans hgr (hbA.below hgr.size fun q e => by have := HFS.out; omega))
  clear v0 hbA hgr G1 G2 G3 G4 G5 G6 G7 G8 G9 G10 G11 O0 O1 O2 O3 O4 O5 O6 O7 O8 O9 O10 Y1 Y2 Y3 Y4 Y5 Y6 Y7 Y8 Y9 Y10 Y11 V8 hs0 u1_h u2_h u3_h u4_h u5_h
  generalize w11.setCell ⟨f + 1 + 1 + 1 + 1 + 1 + 1 + 1 + 1, 3, none⟩ (.slice (some ⟨f + 1 + 1 + 1 + 1 + 1 + 1 + 1 + 1 + 1 + 1, 0, none⟩) 4 4) = wA at *
  have a_0 := oA.cell_at (i := 0) rfl
  have b_0 := oB.cell_at (i := 0) rfl
  have e_0 := oB.free 0
  have a_1 := oA.cell_at (i := 1) rfl
  have b_1 := oB.cell_at (i := 1) rfl
  have e_1 := oB.free 1
  have a_2 := oA.cell_at (i := 2) rfl
  have b_2 := oB.cell_at (i := 2) rfl
  have e_2 := oB.free 2
  have a_3 := oA.cell_at (i := 3) rfl
  have b_3 := oB.cell_at (i := 3) rfl
  have e_3 := oB.free 3
  have a_l := oA.lt
  have b_l := oB.lt
  obtain ⟨hbC, oC⟩ := set_four oB (.string { data := #[71] }) (.int .i64 1) (.int .i64 9) (.slice (some ⟨f + 1 + 1 + 1 + 1 + 1 + 1 + 1 + 1 + 1 + 1, 0, none⟩) 4 4)
  have k3 := hbC.owns k3.out (by omega)
  have k4 := hbC.owns k4.out (by omega)
  have k6 := hbC.owns k6.out (by omega)
  have k9 := hbC.owns k9.out (by omega)
  have k10 := hbC.owns k10.out (by omega)
  have HAT := Lib.hid (gram27_at k3 k4 k6 k9 k10)
  have HGR := Lib.hid (show Grew W _ from Below.trans hgA.out (hbC.below hgA.out.size fun q e => by have := HFS.out; omega))
  have OC := Lib.hid oC
  clear oA oB oC hbC k3 k4 k6 k9 k10
  go_wp2_with fail
  refine bodyPost_ret (results_cell_row (d := Tryz.prog.underlying 46 |>.getD default) rfl _ _ f 46 _ (0, 0) rfl OC.out rfl rfl rfl) rfl ?_
  rw [← HQ.out]
  exact ⟨_, rfl, HAT.out, HGR.out⟩
end Go.Proofs.YtgegjjfjhpokpaaGreatDoor

/- lives of chapter 27: it answers true. -/
namespace Go.Proofs.YtgegjjfjhpokpaaGreatDoor
open Go.RowKit

theorem row_of_owns {w : World} {b : Nat} {l : List Int} (h : Owns w b (intVs l) 3) (hl : l.length ≤ 1000) : looseRow w 0 3 1 (.slice (some ⟨b, 0, none⟩) l.length l.length) l.length (intVs l) := by
  have e : (intVs l).length = l.length := by unfold intVs; rw [List.length_map]
  refine ⟨by rw [e]; omega, .inr ⟨b, l.length, _, rfl, Nat.zero_le _, h, Nat.le_refl _, by unfold maxLen; omega, by simp [e], ?_⟩⟩
  show (intVs l).take (l.length * 1) = intVs l
  rw [List.take_of_length_le (by rw [e]; omega)]
theorem g27_new {W W' : World} {e : Ending} (h : NewIs g27 W e W') : ∃ bk V, e = .returned (.tuple #[.pointer (some ⟨bk, 0, none⟩), .int .i64 0]) ∧ g27.Fine ∧ BookFp W' bk V B27 ∧ Grew W W' := by
  rcases h with ⟨-, -, h⟩ | ⟨bk, V, h1, -, h2, h3, h4⟩
  · obtain ⟨es, M, N, k1, k2, k3, k4⟩ := h g27_sound
    exact absurd (g27_told k1 k2 k3) k4
  · rw [b27_of] at h3
    exact ⟨bk, V, h1, h2, h3, h4⟩
def L27 : List (List Int) := [[0], [1], [0, 0, 0], [0, 0, 1]]
theorem out27 {w : World} {p0 p1 p2 p3 p4 : Nat} (h0 : Owns w p0 [.int .i64 0] 3) (h1 : Owns w p1 [.int .i64 1] 3) (h2 : Owns w p2 [.int .i64 0, .int .i64 0, .int .i64 0] 3) (h3 : Owns w p3 [.int .i64 0, .int .i64 0, .int .i64 1] 3)
    (h4 : Owns w p4 [.slice (some ⟨p0, 0, none⟩) 1 1, .slice (some ⟨p1, 0, none⟩) 1 1, .slice (some ⟨p2, 0, none⟩) 3 3, .slice (some ⟨p3, 0, none⟩) 3 3] 22) : OutR w 0 (.slice (some ⟨p4, 0, none⟩) 4 4) L27 := by
  refine ⟨[.slice (some ⟨p0, 0, none⟩) 1 1, .slice (some ⟨p1, 0, none⟩) 1 1, .slice (some ⟨p2, 0, none⟩) 3 3, .slice (some ⟨p3, 0, none⟩) 3 3], rfl, ⟨rfl, .inr ⟨p4, 4, _, rfl, Nat.zero_le _, h4, Nat.le_refl _, by decide, by simp, rfl⟩⟩, fun i u l hu hl => ?_⟩
  match i with
  | 0 => cases hu; cases hl; exact row_of_owns (l := [0]) h0 (by decide)
  | 1 => cases hu; cases hl; exact row_of_owns (l := [1]) h1 (by decide)
  | 2 => cases hu; cases hl; exact row_of_owns (l := [0, 0, 0]) h2 (by decide)
  | 3 => cases hu; cases hl; exact row_of_owns (l := [0, 0, 1]) h3 (by decide)
  | i + 4 => simp at hu
theorem ssame_yes (l : List Int) (hl : l.length ≤ 1000000) (W : World) (v u : Value) (hv : IntsV W W.heap.size v l) (hu : IntsV W W.heap.size u l) : Calls Tryz.prog 14 #[v, u] W fun e W' => e = .returned (.bool true) ∧ Grew W W' :=
  (ssameNums_ok l l W v u hl hl hv hu).mono fun e W' h => by rw [decide_eq_true rfl] at h; exact h
theorem same27_yes (W : World) (b1 b2 : Nat) (v u : Value) (hv : OutR W b1 v L27) (hu : OutR W b2 u L27) : Calls Tryz.prog 24 #[v, u] W fun e W' => e = .returned (.bool true) ∧ Grew W W' :=
  (same27_ok L27 L27 (by decide) (by decide) (by decide) W b1 b2 v u hv hu).mono fun e W' h => by rw [decide_eq_true rfl] at h; exact h
theorem has_yes {B : Bk} {r : Int} {wl : List Int} {W W' : World} {e : Ending} (h : HasIs B r wl W e W') (h1 : hasR B r = true) (h2 : wl.length ≤ 64) (h3 : -2 ∉ wl) (h4 : B.D r.toNat wl) : e = .returned (.bool true) ∧ Grew W W' := by
  obtain ⟨b, rfl, hb, hg⟩ := h
  rw [hb.2 ⟨h1, h2, h3, h4⟩]
  exact ⟨rfl, hg⟩
theorem has_no {B : Bk} {r : Int} {wl : List Int} {W W' : World} {e : Ending} (h : HasIs B r wl W e W') (h4 : ¬ B.D r.toNat wl) : e = .returned (.bool false) ∧ Grew W W' := by
  obtain ⟨b, rfl, hb, hg⟩ := h
  cases b
  · exact ⟨rfl, hg⟩
  · exact absurd (hb.1 rfl).2.2.2 h4
set_option maxHeartbeats 4000000 in
set_option maxRecDepth 40000 in
theorem lives27_ok (W : World) (hT : Lib.Utf8Tabs 1 2 W) : Calls Tryz.prog 9 #[] W fun e W' => e = .returned (.bool true) ∧ Grew W W' := by
  have HT := Lib.hid hT
  clear hT
  go_enter Tryz.func9, Tryz.ntmps9
  go_wp2_with fail
  refine (grammar27_ok W).mono ?_
  rintro e w1 ⟨v3, rfl, hat, hg⟩
  have HG1 := Lib.hid hg
  have HN := Lib.hid (snew_ok g27 g27_few g27_tot w1 (tabs_grew HT.out hg) _ _ _ _ hat)
  obtain ⟨va, vn, vc, rfl⟩ : ∃ a n c, v3 = .slice a n c := by
    obtain ⟨-, -, -, -, -, -, a, c, h, -⟩ := hat
    exact ⟨a, _, c, Option.some.inj h⟩
  clear hat hg
  go_wp2_with fail
  refine HN.out.mono ?_
  intro e w2 hnew
  obtain ⟨bk, V, rfl, hfine, hbk, hg⟩ := g27_new hnew
  have HGD := Lib.hid (b27_good hfine)
  have HB2 := Lib.hid hbk
  have HG2 := Lib.hid (HG1.out.trans hg)
  have HL := Lib.hid (sLeast_ok B27 0 V bk w2.heap.size w2 hbk.at_ (by decide))
  clear hnew hfine hbk hg HN
  go_wp2_with fail
  refine HL.out.mono ?_
  rintro e w3 ⟨hle, hg⟩
  have hle' : ∃ u, e = .returned (.tuple #[u, .bool true]) ∧ looseRow w3 w2.heap.size 3 1 u 1 (intVs [0]) := hle
  obtain ⟨u, rfl, hrow⟩ := hle'
  obtain ⟨ua, uc, rfl⟩ := loose_form hrow
  have HR := Lib.hid hrow
  have HG3 := Lib.hid (HG2.out.trans hg)
  have HB3 := Lib.hid (HB2.out.grew hg)
  have HA := Lib.hid (sAll_ok B27 HGD.out 0 3 9 (by decide) V bk w3.heap.size w3 HB3.out.at_)
  clear hle hg hrow HL HB2
  go_wp2_with fail
  refine HA.out.mono ?_
  rintro e w4 ⟨hg, hal⟩
  rw [if_pos ⟨by decide, by decide, by decide, by decide, by decide⟩, all_27.1] at hal
  obtain ⟨vl, rfl, hout⟩ := hal
  obtain ⟨la, lc, hlf⟩ : ∃ a c, vl = .slice a 4 c := by
    obtain ⟨us, _, h2, _⟩ := hout
    exact loose_form h2
  subst hlf
  have HOUT := Lib.hid hout
  have HR4 := Lib.hid ((But.of_grew (F := fun _ => False) hg).row HR.out (fun _ _ h => h))
  have HG4 := Lib.hid (HG3.out.trans hg)
  have HB4 := Lib.hid (HB3.out.grew hg)
  have HA2 := Lib.hid (sAll_ok B27 HGD.out 0 3 3 (by decide) V bk w4.heap.size w4 HB4.out.at_)
  clear hg hout HA HB3 HR
  go_wp2_with fail
  refine HA2.out.mono ?_
  rintro e w5 ⟨hg, hal⟩
  rw [if_pos ⟨by decide, by decide, by decide, by decide, by decide⟩, all_27.2] at hal
  have hal' : e = .returned (.tuple #[.slice none 0 0, .int .i64 3]) := hal
  subst hal'
  have HR5 := Lib.hid ((But.of_grew (F := fun _ => False) hg).row HR4.out (fun _ _ h => h))
  have HO5 := Lib.hid (HOUT.out.keep hg)
  have HG5 := Lib.hid (HG4.out.trans hg)
  have HB5 := Lib.hid (HB4.out.grew hg)
  clear hg hal HA2 HB4 HR4 HOUT
  obtain ⟨w6, hw6⟩ : ∃ w6, w5.alloc (.cells #[.int .i64 0] 3) = w6 := ⟨_, rfl⟩
  have g6 : Grew w5 w6 := hw6 ▸ grew_alloc w5 _
  have o6 : Owns w6 w5.heap.size [.int .i64 0] 3 := hw6 ▸ Owns.alloc w5 _ _
  have HS6 := Lib.hid (ssame_yes [0] (by decide) w6 (.slice ua 1 uc) (.slice (some ⟨w5.heap.size, 0, none⟩) 1 1) (loose_ints ((But.of_grew (F := fun _ => False) g6).row HR5.out (fun _ _ h => h))) (owns_ints (l := [0]) o6))
  have HG6 := Lib.hid g6
  clear g6 o6
  go_wp2_with fail
  refine HS6.out.mono ?_
  rintro e w7 ⟨rfl, hg⟩
  have HG57 := Lib.hid (HG6.out.trans hg)
  have HB7 := Lib.hid (HB5.out.grew HG57.out)
  have HLG := Lib.hid (slong_ok B27 1 V bk w7.heap.size w7 HB7.out.at_)
  clear hg hw6 HS6 HG6
  go_wp2_with fail
  refine HLG.out.mono ?_
  rintro e w8 ⟨rfl, rfl⟩
  have hl2 : (if hasR B27 1 then (B27.firsts.getD (1 : Int).toNat ⟨-1, []⟩).long else -1) = 2 := by kernel_rfl
  rw [hl2]
  obtain ⟨q, hq⟩ : ∃ q, w8.heap.size = q := ⟨_, rfl⟩
  obtain ⟨w9, hw9⟩ : ∃ w9, w8.alloc (.cells #[.int .i64 0] 3) = w9 := ⟨_, rfl⟩
  have g9 : Grew w8 w9 := hw9 ▸ grew_alloc w8 _
  have o9 : Owns w9 w8.heap.size [.int .i64 0] 3 := hw9 ▸ Owns.alloc w8 _ _
  have y9 : w9.heap.size = q + 1 := by rw [← hw9]; exact (World.size_alloc _ _).trans (by rw [hq])
  rw [hq] at o9
  obtain ⟨w10, hw10⟩ : ∃ w10, w9.alloc (.cells #[.int .i64 1] 3) = w10 := ⟨_, rfl⟩
  have g10 : Grew w9 w10 := hw10 ▸ grew_alloc w9 _
  have o10 : Owns w10 w9.heap.size [.int .i64 1] 3 := hw10 ▸ Owns.alloc w9 _ _
  have y10 : w10.heap.size = q + 1 + 1 := by rw [← hw10]; exact (World.size_alloc _ _).trans (by rw [y9])
  rw [y9] at o10
  obtain ⟨w11, hw11⟩ : ∃ w11, w10.alloc (.cells #[.int .i64 0, .int .i64 0, .int .i64 0] 3) = w11 := ⟨_, rfl⟩
  have g11 : Grew w10 w11 := hw11 ▸ grew_alloc w10 _
  have o11 : Owns w11 w10.heap.size [.int .i64 0, .int .i64 0, .int .i64 0] 3 := hw11 ▸ Owns.alloc w10 _ _
  have y11 : w11.heap.size = q + 1 + 1 + 1 := by rw [← hw11]; exact (World.size_alloc _ _).trans (by rw [y10])
  rw [y10] at o11
  obtain ⟨w12, hw12⟩ : ∃ w12, w11.alloc (.cells #[.int .i64 0, .int .i64 0, .int .i64 1] 3) = w12 := ⟨_, rfl⟩
  have g12 : Grew w11 w12 := hw12 ▸ grew_alloc w11 _
  have o12 : Owns w12 w11.heap.size [.int .i64 0, .int .i64 0, .int .i64 1] 3 := hw12 ▸ Owns.alloc w11 _ _
  have y12 : w12.heap.size = q + 1 + 1 + 1 + 1 := by rw [← hw12]; exact (World.size_alloc _ _).trans (by rw [y11])
  rw [y11] at o12
  obtain ⟨w13, hw13⟩ : ∃ w13, w12.alloc (.cells #[.slice (some ⟨q, 0, none⟩) 1 1, .slice (some ⟨q + 1, 0, none⟩) 1 1, .slice (some ⟨q + 1 + 1, 0, none⟩) 3 3, .slice (some ⟨q + 1 + 1 + 1, 0, none⟩) 3 3] 22) = w13 := ⟨_, rfl⟩
  have g13 : Grew w12 w13 := hw13 ▸ grew_alloc w12 _
  have o13 : Owns w13 w12.heap.size [.slice (some ⟨q, 0, none⟩) 1 1, .slice (some ⟨q + 1, 0, none⟩) 1 1, .slice (some ⟨q + 1 + 1, 0, none⟩) 3 3, .slice (some ⟨q + 1 + 1 + 1, 0, none⟩) 3 3] 22 := hw13 ▸ Owns.alloc w12 _ _
  have y13 : w13.heap.size = q + 1 + 1 + 1 + 1 + 1 := by rw [← hw13]; exact (World.size_alloc _ _).trans (by rw [y12])
  rw [y12] at o13
  have hg813 := (((g9.trans g10).trans g11).trans g12).trans g13
  have hou := out27 (o9.keep (((g10.trans g11).trans g12).trans g13)) (o10.keep ((g11.trans g12).trans g13)) (o11.keep (g12.trans g13)) (o12.keep g13) o13
  have HSA := Lib.hid (same27_yes w13 _ 0 (.slice la 4 lc) _ (HO5.out.keep (HG57.out.trans hg813)) hou)
  have HG13 := Lib.hid hg813
  clear hg813 hou g9 g10 g11 g12 g13 o9 o10 o11 o12 o13 HLG
  go_wp2_with fail
  refine HSA.out.mono ?_
  rintro e w14 ⟨rfl, hg⟩
  have HG14 := Lib.hid (HG13.out.trans hg)
  have HB14 := Lib.hid (HB7.out.grew HG14.out)
  clear hg hq hw9 hw10 hw11 hw12 hw13 y9 y10 y11 y12 y13 HSA HG13 HB7
  obtain ⟨w15, hw15⟩ : ∃ w15, w14.alloc (.cells #[.int .i64 0, .int .i64 1] 3) = w15 := ⟨_, rfl⟩
  have g15 : Grew w14 w15 := hw15 ▸ grew_alloc w14 _
  have o15 : Owns w15 w14.heap.size [.int .i64 0, .int .i64 1] 3 := hw15 ▸ Owns.alloc w14 _ _
  have HB15 := HB14.out.grew g15
  have HH := Lib.hid (sHas_ok B27 HGD.out 1 V bk w15.heap.size [0, 1] (by simp [reachN]) (.slice (some ⟨w14.heap.size, 0, none⟩) 2 2) w15 HB15.at_ (owns_ints (l := [0, 1]) o15))
  have HG15 := Lib.hid g15
  clear g15 o15 HB15
  go_wp2_with fail
  refine HH.out.mono ?_
  intro e w16 hh
  obtain ⟨rfl, hg⟩ := has_yes hh (by decide) (by decide) (by decide) ((d1_27 _).2 (by decide))
  have HG16 := Lib.hid (HG15.out.trans hg)
  have HB16 := Lib.hid (HB14.out.grew HG16.out)
  clear hh hg hw15 HH HG15
  obtain ⟨w17, hw17⟩ : ∃ w17, w16.alloc (.cells #[.int .i64 1] 3) = w17 := ⟨_, rfl⟩
  have g17 : Grew w16 w17 := hw17 ▸ grew_alloc w16 _
  have o17 : Owns w17 w16.heap.size [.int .i64 1] 3 := hw17 ▸ Owns.alloc w16 _ _
  have HB17 := HB16.out.grew g17
  have HH := Lib.hid (sHas_ok B27 HGD.out 1 V bk w17.heap.size [1] (by simp [reachN]) (.slice (some ⟨w16.heap.size, 0, none⟩) 1 1) w17 HB17.at_ (owns_ints (l := [1]) o17))
  have HG17 := Lib.hid g17
  clear g17 o17 HB17
  go_wp2_with fail
  refine HH.out.mono ?_
  intro e w18 hh
  obtain ⟨rfl, hg⟩ := has_no hh (fun h => absurd ((d1_27 _).1 h) (by decide))
  have HG18 := Lib.hid (((((HG5.out.trans HG57.out).trans HG14.out).trans HG16.out).trans HG17.out).trans hg)
  clear hh hg hw17 HH
  go_wp2_with fail
  go_ret
  exact ⟨rfl, HG18.out⟩
end Go.Proofs.YtgegjjfjhpokpaaGreatDoor
