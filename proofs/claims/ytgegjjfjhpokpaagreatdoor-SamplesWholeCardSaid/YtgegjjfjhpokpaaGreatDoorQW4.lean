/- Places as bits: two words; one, with, has. -/
import Derived.Test.YtgegjjfjhpokpaaGreatDoorQW3
import Derived.Test.YtgegjjfjhpokpaaGreatDoorQW2
namespace Go.Proofs.YtgegjjfjhpokpaaGreatDoor
open Go.RowKit

/-- a set of places, by its bits -/
def plV (m : Nat) : Value := .agg #[.int .u64 ((m % 2 ^ 64 : Nat) : Int), .int .u64 ((m / 2 ^ 64 : Nat) : Int)]
theorem wrap_u64 {n : Int} (h0 : 0 ≤ n) (h1 : n < 18446744073709551616) : IntKind.u64.wrap n = n := by
  have hm : n % 18446744073709551616 = n := by omega
  unfold IntKind.wrap
  simp [IntKind.bits, IntKind.signed, hm]
theorem bits_or {a b : Nat} (ha : a < 2 ^ 64) (hb : b < 2 ^ 64) : bits .or .u64 (a : Int) (b : Int) = ((a ||| b : Nat) : Int) := by
  have hor : a ||| b < 18446744073709551616 := Nat.or_lt_two_pow ha hb
  have e : (BitVec.ofInt 64 (a : Int) ||| BitVec.ofInt 64 (b : Int)).toNat = a ||| b := by
    rw [BitVec.toNat_or, BitVec.ofInt_natCast, BitVec.ofInt_natCast, BitVec.toNat_ofNat, BitVec.toNat_ofNat, Nat.mod_eq_of_lt ha, Nat.mod_eq_of_lt hb]
  have h : bits .or .u64 (a : Int) (b : Int) = IntKind.u64.wrap (((BitVec.ofInt 64 (a : Int) ||| BitVec.ofInt 64 (b : Int)).toNat : Nat) : Int) := rfl
  rw [h, e, wrap_u64 (by omega) (by omega)]
theorem bits_and1 {a : Nat} (ha : a < 2 ^ 64) : bits .and .u64 (a : Int) 1 = ((a % 2 : Nat) : Int) := by
  have e : (BitVec.ofInt 64 (a : Int) &&& BitVec.ofInt 64 (1 : Int)).toNat = a % 2 := by
    have h1 : BitVec.ofInt 64 (1 : Int) = 1#64 := rfl
    rw [h1, BitVec.toNat_and, BitVec.ofInt_natCast, BitVec.toNat_ofNat, BitVec.toNat_ofNat, Nat.mod_eq_of_lt ha]
    show a &&& 1 = a % 2
    exact Nat.and_one_is_mod a
  have h : bits .and .u64 (a : Int) 1 = IntKind.u64.wrap (((BitVec.ofInt 64 (a : Int) &&& BitVec.ofInt 64 (1 : Int)).toNat : Nat) : Int) := rfl
  rw [h, e, wrap_u64 (by omega) (by omega)]
theorem or_mod (a b : Nat) : (a ||| b) % 2 ^ 64 = a % 2 ^ 64 ||| b % 2 ^ 64 := Nat.or_mod_two_pow
theorem or_div (a b : Nat) : (a ||| b) / 2 ^ 64 = a / 2 ^ 64 ||| b / 2 ^ 64 := by
  rw [← Nat.shiftRight_eq_div_pow, ← Nat.shiftRight_eq_div_pow, ← Nat.shiftRight_eq_div_pow, Nat.shiftRight_or_distrib]
theorem bit_at (m i : Nat) (hi : i < 128) : m.testBit i = decide (((if i < 64 then m % 2 ^ 64 else m / 2 ^ 64) / 2 ^ (i % 64)) % 2 = 1) := by
  by_cases h : i < 64
  · rw [if_pos h, Nat.mod_eq_of_lt h, ← Nat.testBit_eq_decide_div_mod_eq, Nat.testBit_mod_two_pow]
    simp [h]
  · rw [if_neg h, ← Nat.testBit_eq_decide_div_mod_eq, Nat.testBit_div_two_pow]
    congr 1
    omega
theorem plV_or (a b : Nat) : plV (a ||| b) = .agg #[.int .u64 ((a % 2 ^ 64 ||| b % 2 ^ 64 : Nat) : Int), .int .u64 ((a / 2 ^ 64 ||| b / 2 ^ 64 : Nat) : Int)] := by
  unfold plV
  rw [or_mod, or_div]

/-! ### one, with, has -/
theorem heap_new2 (W : World) (o1 o2 o3 : Obj) : (((W.alloc o1).alloc o2).alloc o3).heap[W.heap.size + 1 + 1]? = some o3 := by
  have h := heap_alloc_new ((W.alloc o1).alloc o2) o3
  simpa using h
set_option maxRecDepth 20000 in
theorem spwith_ok (a b : Nat) (ha : a < 2 ^ 128) (hb : b < 2 ^ 128) (W : World) : Calls Tryz.prog 74 #[plV a, plV b] W fun e W' => e = .returned (plV (a ||| b)) ∧ Grew W W' := by
  have h0 := bits_or (a := a % 2 ^ 64) (b := b % 2 ^ 64) (by omega) (by omega)
  have h1 := bits_or (a := a / 2 ^ 64) (b := b / 2 ^ 64) (by omega) (by omega)
  rw [plV_or]
  unfold plV
  generalize a % 2 ^ 64 = a0 at *
  generalize a / 2 ^ 64 = a1 at *
  generalize b % 2 ^ 64 = b0 at *
  generalize b / 2 ^ 64 = b1 at *
  clear ha hb
  generalize ((a0 ||| b0 : Nat) : Int) = q0 at *
  generalize ((a1 ||| b1 : Nat) : Int) = q1 at *
  go_enter Tryz.func74, Tryz.ntmps74
  go_wp2_with fail
  refine bodyPost_ret (results_cell_row (d := Tryz.prog.underlying 86 |>.getD default) rfl _ _ (W.heap.size + 1 + 1) 86 _ (0, 0) rfl (heap_new2 _ _ _ _) rfl rfl rfl) rfl ?_
  exact ⟨rfl, ((grew_alloc _ _).trans (grew_alloc _ _)).trans (grew_alloc _ _)⟩
theorem plV_pow (i : Nat) : plV (2 ^ i) = if i < 64 then .agg #[.int .u64 ((2 ^ i : Nat) : Int), .int .u64 0] else .agg #[.int .u64 0, .int .u64 ((2 ^ (i - 64) : Nat) : Int)] := by
  unfold plV
  by_cases h : i < 64
  · have h1 : 2 ^ i < 2 ^ 64 := Nat.pow_lt_pow_right (by omega) h
    rw [if_pos h, Nat.mod_eq_of_lt h1, Nat.div_eq_of_lt h1]; rfl
  · obtain ⟨r, rfl⟩ : ∃ r, i = 64 + r := ⟨i - 64, by omega⟩
    rw [if_neg h, Nat.pow_add, Nat.mul_mod_right, Nat.mul_div_cancel_left _ (by omega), Nat.add_sub_cancel_left]; rfl
set_option maxRecDepth 20000 in
theorem sone_ok (i : Nat) (hi : i < 128) (W : World) : Calls Tryz.prog 54 #[.int .i64 (i : Int)] W fun e W' => e = .returned (plV (2 ^ i)) ∧ Grew W W' := by
  have hw : ∀ r : Nat, r < 64 → IntKind.u64.wrap (2 ^ r) = ((2 ^ r : Nat) : Int) := fun r hr => by
    have hp : 2 ^ r < 18446744073709551616 := Nat.pow_lt_pow_right (a := 2) (n := 64) (by omega) hr
    have e : (2 : Int) ^ r = ((2 ^ r : Nat) : Int) := by norm_cast
    rw [e]
    generalize 2 ^ r = q at *
    exact wrap_u64 (by omega) (by omega)
  rw [plV_pow]
  by_cases h : i < 64
  · rw [if_pos h]
    have e1 : (i : Int) / 64 = 0 := by omega
    have e2 : (i : Int) % 64 = (i : Int) := by omega
    have e3 := hw i h
    generalize ((2 ^ i : Nat) : Int) = q at *
    clear hw
    go_enter Tryz.func54, Tryz.ntmps54
    go_wp2_with fail
    refine bodyPost_ret (results_cell_row (d := Tryz.prog.underlying 86 |>.getD default) rfl _ _ W.heap.size 86 _ (0, 0) rfl (heap_alloc_new _ _) rfl rfl rfl) rfl ?_
    exact ⟨rfl, grew_alloc _ _⟩
  · rw [if_neg h]
    have e1 : (i : Int) / 64 = 1 := by omega
    have e2 : (i : Int) % 64 = ((i - 64 : Nat) : Int) := by omega
    have e3 := hw (i - 64) (by omega)
    have e4 : i - 64 < 64 := by omega
    generalize i - 64 = r at *
    generalize ((2 ^ r : Nat) : Int) = q at *
    clear hw
    go_enter Tryz.func54, Tryz.ntmps54
    go_wp2_with fail
    refine bodyPost_ret (results_cell_row (d := Tryz.prog.underlying 86 |>.getD default) rfl _ _ W.heap.size 86 _ (0, 0) rfl (heap_alloc_new _ _) rfl rfl rfl) rfl ?_
    exact ⟨rfl, grew_alloc _ _⟩
theorem beq_one (q : Nat) : ((q : Int) == 1) = decide (q = 1) := by
  rw [Bool.eq_iff_iff, beq_iff_eq, decide_eq_true_eq]
  omega
set_option maxRecDepth 20000 in
theorem sphas_ok (m i : Nat) (hm : m < 2 ^ 128) (hi : i < 128) (W : World) : Calls Tryz.prog 35 #[plV m, .int .i64 (i : Int)] W fun e W' => e = .returned (.bool (m.testBit i)) ∧ Grew W W' := by
  rw [bit_at m i hi]
  have hlo : m % 2 ^ 64 < 2 ^ 64 := by omega
  have hhi : m / 2 ^ 64 < 2 ^ 64 := by omega
  unfold plV
  generalize m % 2 ^ 64 = a0 at *
  generalize m / 2 ^ 64 = a1 at *
  clear hm
  have hb : ∀ (a r : Nat), a < 2 ^ 64 → bits .and .u64 ((a : Int) / 2 ^ r) 1 = ((a / 2 ^ r % 2 : Nat) : Int) := fun a r ha => by
    have e : (a : Int) / 2 ^ r = ((a / 2 ^ r : Nat) : Int) := by norm_cast
    rw [e, bits_and1 (Nat.lt_of_le_of_lt (Nat.div_le_self _ _) ha)]
  by_cases h : i < 64
  · rw [if_pos h]
    have e1 : (i : Int) / 64 = 0 := by omega
    have e2 : (i : Int) % 64 = ((i % 64 : Nat) : Int) := by omega
    have e3 := hb a0 (i % 64) hlo
    have e4 : i % 64 < 64 := by omega
    generalize i % 64 = r at *
    generalize a0 / 2 ^ r % 2 = q at *
    clear hb
    go_enter Tryz.func35, Tryz.ntmps35
    go_wp2_with fail
    go_ret
    exact ⟨ret_bool (beq_one q), grew_alloc _ _⟩
  · rw [if_neg h]
    have e1 : (i : Int) / 64 = 1 := by omega
    have e2 : (i : Int) % 64 = ((i % 64 : Nat) : Int) := by omega
    have e3 := hb a1 (i % 64) hhi
    have e4 : i % 64 < 64 := by omega
    generalize i % 64 = r at *
    generalize a1 / 2 ^ r % 2 = q at *
    clear hb
    go_enter Tryz.func35, Tryz.ntmps35
    go_wp2_with fail
    go_ret
    exact ⟨ret_bool (beq_one q), grew_alloc _ _⟩

/-! ### the same, with the words named -/
def W2 (m : Nat) (z0 z1 : Int) : Prop := z0 = ((m % 2 ^ 64 : Nat) : Int) ∧ z1 = ((m / 2 ^ 64 : Nat) : Int)
theorem W2.pl {m : Nat} {z0 z1 : Int} (h : W2 m z0 z1) : plV m = .agg #[.int .u64 z0, .int .u64 z1] := by
  unfold plV
  rw [← h.1, ← h.2]
theorem W2.ex (m : Nat) : ∃ z0 z1, W2 m z0 z1 := ⟨_, _, rfl, rfl⟩
theorem W2.zero : W2 0 0 0 := ⟨rfl, rfl⟩
theorem W2.inj {a b : Nat} {z0 z1 : Int} (h : W2 a z0 z1) (k : W2 b z0 z1) : a = b := by
  have h1 := h.1.symm.trans k.1
  have h2 := h.2.symm.trans k.2
  omega
theorem swith2 {a b : Nat} {x0 x1 y0 y1 : Int} (ha : a < 2 ^ 128) (hb : b < 2 ^ 128) (hx : W2 a x0 x1) (hy : W2 b y0 y1) (W : World) :
    Calls Tryz.prog 74 #[.agg #[.int .u64 x0, .int .u64 x1], .agg #[.int .u64 y0, .int .u64 y1]] W fun e W' => (∃ z0 z1, e = .returned (.agg #[.int .u64 z0, .int .u64 z1]) ∧ W2 (a ||| b) z0 z1) ∧ Grew W W' := by
  have h := spwith_ok a b ha hb W
  rw [hx.pl, hy.pl] at h
  refine h.mono ?_
  rintro e W' ⟨rfl, hg⟩
  obtain ⟨z0, z1, hz⟩ := W2.ex (a ||| b)
  exact ⟨⟨z0, z1, by rw [hz.pl], hz⟩, hg⟩
theorem sone2 (i : Nat) (hi : i < 128) (W : World) : Calls Tryz.prog 54 #[.int .i64 (i : Int)] W fun e W' => (∃ z0 z1, e = .returned (.agg #[.int .u64 z0, .int .u64 z1]) ∧ W2 (2 ^ i) z0 z1) ∧ Grew W W' := by
  refine (sone_ok i hi W).mono ?_
  rintro e W' ⟨rfl, hg⟩
  obtain ⟨z0, z1, hz⟩ := W2.ex (2 ^ i)
  exact ⟨⟨z0, z1, by rw [hz.pl], hz⟩, hg⟩
theorem shas2 {m : Nat} {z0 z1 : Int} (i : Nat) (hm : m < 2 ^ 128) (hi : i < 128) (hz : W2 m z0 z1) (W : World) : Calls Tryz.prog 35 #[.agg #[.int .u64 z0, .int .u64 z1], .int .i64 (i : Int)] W fun e W' => e = .returned (.bool (m.testBit i)) ∧ Grew W W' := by
  have h := sphas_ok m i hm hi W
  rw [hz.pl] at h
  exact h
end Go.Proofs.YtgegjjfjhpokpaaGreatDoor

/- Ways through a net, in plain Lean: what is reached by whom; the laws of joining and of fewer tokens. No program in sight. -/
namespace Go.Proofs.YtgegjjfjhpokpaaGreatDoor

/-- an edge -/
structure Edg where
  kind : Int
  what : Int
  to : Int
/-- a state -/
structure Sta where
  rule : Int
  edges : List Edg
  ends : List Int
/-- a net -/
structure Net where
  states : List Sta
  starts : List Int
  stops : List Int
  preds : List Int
  decisions : List Int

/-- who walks: none: from the place that is asked; else a rule, behind so many tokens -/
abbrev Key := Option (Nat × Nat)
/-- a state, behind so many tokens -/
abbrev Pl := Nat × Nat

namespace Net
def edges (N : Net) (s : Nat) : List Edg := (N.states[s]?.map (·.edges)).getD []
def ends (N : Net) (s : Nat) : List Int := (N.states[s]?.map (·.ends)).getD []
def start (N : Net) (r : Nat) : Nat := (N.starts.getD r 0).toNat
def stop (N : Net) (r : Nat) : Nat := (N.stops.getD r 0).toNat
end Net

/-- what is reached: from over nothing is gone on by the first walk -/
inductive Lv (N : Net) (w : List Int) (p0 : Pl) (over : Int) : Key → Pl → Prop
  | root : Lv N w p0 over none p0
  | begin {κ : Key} {s i : Nat} {e : Edg} (h : Lv N w p0 over κ (s, i)) (hg : κ = none → (s : Int) ≠ over) (he : e ∈ N.edges s) (hk : e.kind = 2) : Lv N w p0 over (some (e.what.toNat, i)) (N.start e.what.toNat, i)
  | eps {κ : Key} {s i : Nat} {e : Edg} (h : Lv N w p0 over κ (s, i)) (hg : κ = none → (s : Int) ≠ over) (he : e ∈ N.edges s) (hk : e.kind ≠ 2) (hk' : e.kind ≠ 1) : Lv N w p0 over κ (e.to.toNat, i)
  | tok {κ : Key} {s i : Nat} {e : Edg} (h : Lv N w p0 over κ (s, i)) (hg : κ = none → (s : Int) ≠ over) (he : e ∈ N.edges s) (hk : e.kind = 1) (hw : w[i]? = some e.what) : Lv N w p0 over κ (e.to.toNat, i + 1)
  | back {κ : Key} {s i j : Nat} {e : Edg} (h : Lv N w p0 over κ (s, i)) (hg : κ = none → (s : Int) ≠ over) (he : e ∈ N.edges s) (hk : e.kind = 2) (hc : Lv N w p0 over (some (e.what.toNat, i)) (N.stop e.what.toNat, j)) : Lv N w p0 over κ (e.to.toNat, j)

section
variable {N : Net} {w : List Int} {p0 : Pl} {over : Int}

def Key.at : Key → Nat
  | none => 0
  | some (_, t) => t
/-- a walk goes on from where it began -/
theorem Lv.least {κ : Key} {p : Pl} (h : Lv N w p0 over κ p) : Key.at κ ≤ p.2 := by
  induction h with
  | root => exact Nat.zero_le _
  | begin h hg he hk ih => exact Nat.le_refl _
  | eps h hg he hk hk' ih => exact ih
  | tok h hg he hk hw ih => exact Nat.le_succ_of_le ih
  | back h hg he hk hc ih ih2 => exact Nat.le_trans ih ih2
/-- no more tokens are taken than there are -/
theorem Lv.most {κ : Key} {p : Pl} (h : Lv N w p0 over κ p) (h0 : p0.2 ≤ w.length) : p.2 ≤ w.length := by
  induction h with
  | root => exact h0
  | begin h hg he hk ih => exact ih
  | eps h hg he hk hk' ih => exact ih
  | tok h hg he hk hw ih =>
    have := (List.getElem?_eq_some_iff.1 hw).1
    simp only
    omega
  | back h hg he hk hc ih ih2 => exact ih2

/-- with more tokens behind, all is reached that was -/
theorem Lv.more {κ : Key} {p : Pl} {cut : Nat} (h : Lv N (w.take cut) p0 over κ p) : Lv N w p0 over κ p := by
  induction h with
  | root => exact .root
  | begin h hg he hk ih => exact .begin ih hg he hk
  | eps h hg he hk hk' ih => exact .eps ih hg he hk hk'
  | tok h hg he hk hw ih =>
    refine .tok ih hg he hk ?_
    rw [List.getElem?_take] at hw
    split at hw
    · exact hw
    · cases hw
  | back h hg he hk hc ih ih2 => exact .back ih hg he hk ih2
/-- what is reached by the first tokens hangs on these -/
theorem Lv.fewer {κ : Key} {p : Pl} {cut : Nat} (h : Lv N w p0 over κ p) (hp : p.2 ≤ cut) : Lv N (w.take cut) p0 over κ p := by
  induction h with
  | root => exact .root
  | begin h hg he hk ih => exact .begin (ih hp) hg he hk
  | eps h hg he hk hk' ih => exact .eps (ih hp) hg he hk hk'
  | @tok κ s i e h hg he hk hw ih =>
    simp only at hp
    refine .tok (ih (by simp only; omega)) hg he hk ?_
    rw [List.getElem?_take, if_pos (by omega)]
    exact hw
  | back h hg he hk hc ih ih2 =>
    have := hc.least
    simp only [Key.at] at this
    exact .back (ih (Nat.le_trans this hp)) hg he hk (ih2 hp)

/-- who comes further comes by -/
theorem Lv.by {κ : Key} {p : Pl} {cut : Nat} (h : Lv N w p0 over κ p) (h0 : p0.2 ≤ cut) (hp : cut ≤ p.2) : ∃ κ' p', Lv N w p0 over κ' p' ∧ p'.2 = cut := by
  induction h with
  | root => exact ⟨none, p0, .root, by omega⟩
  | begin h hg he hk ih => exact ih hp
  | eps h hg he hk hk' ih => exact ih hp
  | @tok κ s i e h hg he hk hw ih =>
    simp only at hp
    rcases Nat.lt_or_ge i cut with hi | hi
    · exact ⟨κ, _, .tok h hg he hk hw, by simp only; omega⟩
    · exact ih hi
  | back h hg he hk hc ih ih2 => exact ih2 hp

def Key.shift (n : Nat) : Key → Key
  | none => none
  | some (r, t) => some (r, n + t)
/-- one way behind another one -/
theorem Lv.join {κ : Key} {p : Pl} {n mid : Nat} (h1 : Lv N w p0 over none (mid, n)) (h : Lv N (w.drop n) (mid, 0) over κ p) : Lv N w p0 over (Key.shift n κ) (p.1, n + p.2) := by
  have gd : ∀ {κ : Key} {s : Nat}, (κ = none → (s : Int) ≠ over) → (Key.shift n κ = none → (s : Int) ≠ over) := by
    intro κ s hg hs
    cases κ with
    | none => exact hg rfl
    | some c => cases hs
  induction h with
  | root => exact h1
  | begin h hg he hk ih => exact .begin ih (gd hg) he hk
  | eps h hg he hk hk' ih => exact .eps ih (gd hg) he hk hk'
  | tok h hg he hk hw ih =>
    rw [List.getElem?_drop] at hw
    exact .tok ih (gd hg) he hk hw
  | back h hg he hk hc ih ih2 => exact .back ih (gd hg) he hk ih2
end

/-- does an alternative go along? -/
def AlongIs (N : Net) (w : List Int) (p0 : Pl) (over : Int) : Prop :=
  (∃ κ p, Lv N w p0 over κ p ∧ p.2 = w.length) ∨ ∃ i, i ≤ w.length ∧ Lv N w p0 over none (over.toNat, i)
theorem AlongIs.fewer {N : Net} {w : List Int} {p0 : Pl} {over : Int} {cut : Nat} (h0 : p0.2 = 0) (hc : cut ≤ w.length) (h : AlongIs N w p0 over) : AlongIs N (w.take cut) p0 over := by
  have hl : (w.take cut).length = cut := by rw [List.length_take]; omega
  have key : ∀ κ p, Lv N w p0 over κ p → cut ≤ p.2 → AlongIs N (w.take cut) p0 over := by
    intro κ p hl' hp
    obtain ⟨κ', p', h1, h2⟩ := hl'.by (by omega) hp
    exact .inl ⟨κ', p', h1.fewer (by omega), by rw [hl]; exact h2⟩
  rcases h with ⟨κ, p, h1, h2⟩ | ⟨i, hi, h1⟩
  · exact key κ p h1 (by omega)
  · rcases Nat.lt_or_ge cut i with h | h
    · exact key _ _ h1 (by simp only; omega)
    · exact .inr ⟨i, by rw [hl]; exact h, h1.fewer h⟩
theorem AlongIs.nil {N : Net} {p0 : Pl} {over : Int} (h0 : p0.2 = 0) : AlongIs N [] p0 over := .inl ⟨none, p0, .root, h0⟩
end Go.Proofs.YtgegjjfjhpokpaaGreatDoor
