/- Bits, plain: words of 64; the set bits of a number, rising. -/
import Derived.Lib.Hide
import Derived.Test.YtkinlcichclnkaaDoorQO6
import Derived.Test.YtkinlcichclnkaaDoorQO2
import Derived.Test.YtkinlcichclnkaaDoorQO3
import Derived.Test.YtkinlcichclnkaaDoorQO4
namespace Go.Proofs.YtkinlcichclnkaaDoor

/-- word i -/
def wd (s i : Nat) : Nat := s / 2 ^ (64 * i) % 2 ^ 64
theorem wd_lt (s i : Nat) : wd s i < 2 ^ 64 := Nat.mod_lt _ (Nat.two_pow_pos _)
theorem wd_bit (s i j : Nat) : (wd s i).testBit j = (decide (j < 64) && s.testBit (64 * i + j)) := by
  unfold wd
  rw [Nat.testBit_mod_two_pow, Nat.testBit_div_two_pow, Nat.add_comm j]
theorem wd_or (a b i : Nat) : wd (a ||| b) i = wd a i ||| wd b i := by
  apply Nat.eq_of_testBit_eq
  intro j
  rw [Nat.testBit_or, wd_bit, wd_bit, wd_bit, Nat.testBit_or]
  cases decide (j < 64) <;> simp
theorem wd_zero (i : Nat) : wd 0 i = 0 := by unfold wd; rw [Nat.zero_div, Nat.zero_mod]
/-- a bit stands in one word -/
theorem wd_pow (n i : Nat) : wd (2 ^ n) i = if i = n / 64 then 2 ^ (n % 64) else 0 := by
  apply Nat.eq_of_testBit_eq
  intro j
  rw [wd_bit, Nat.testBit_two_pow]
  split
  · rename_i h
    rw [Nat.testBit_two_pow]
    by_cases hj : n % 64 = j
    · rw [decide_eq_true (by omega), decide_eq_true (by omega), decide_eq_true hj]; rfl
    · rw [decide_eq_false hj]
      by_cases h2 : n = 64 * i + j
      · rw [decide_eq_false (by omega)]; rfl
      · rw [decide_eq_false h2, Bool.and_false]
  · rename_i h
    rw [Nat.zero_testBit]
    by_cases h2 : n = 64 * i + j
    · rw [decide_eq_false (by omega)]; rfl
    · rw [decide_eq_false h2, Bool.and_false]
/-- word by word: the first j words of q are there -/
theorem wd_step (p q j i : Nat) : wd (p ||| q % 2 ^ (64 * (j + 1))) i = if i = j then wd (p ||| q % 2 ^ (64 * j)) i ||| wd q i else wd (p ||| q % 2 ^ (64 * j)) i := by
  apply Nat.eq_of_testBit_eq
  intro k
  by_cases hk : k < 64
  · split
    · rename_i h
      subst h
      rw [Nat.testBit_or, wd_bit, wd_bit, wd_bit, Nat.testBit_or, Nat.testBit_or, Nat.testBit_mod_two_pow, Nat.testBit_mod_two_pow, decide_eq_true hk, decide_eq_true (show 64 * i + k < 64 * (i + 1) by omega), decide_eq_false (show ¬ 64 * i + k < 64 * i by omega)]
      simp
    · rename_i h
      rw [wd_bit, wd_bit, Nat.testBit_or, Nat.testBit_or, Nat.testBit_mod_two_pow, Nat.testBit_mod_two_pow]
      have e : decide (64 * i + k < 64 * (j + 1)) = decide (64 * i + k < 64 * j) := decide_eq_decide.2 (by omega)
      rw [e]
  · have h : ∀ s i, (wd s i).testBit k = false := fun s i => by rw [wd_bit, decide_eq_false hk]; rfl
    split
    · rw [Nat.testBit_or, h, h, h]; rfl
    · rw [h, h]

/-! ### set bits, rising -/
def bitsN (n w : Nat) : List Nat := (List.range n).filter w.testBit
theorem bits_mem {n w j : Nat} : j ∈ bitsN n w ↔ j < n ∧ w.testBit j = true := by unfold bitsN; rw [List.mem_filter, List.mem_range]
theorem bits_zero (n : Nat) : bitsN n 0 = [] := by
  unfold bitsN
  rw [List.filter_eq_nil_iff]
  intro j _
  rw [Nat.zero_testBit]
  simp
theorem bits_rise (n w : Nat) : (bitsN n w).Pairwise (· < ·) := List.Pairwise.filter _ List.pairwise_lt_range
theorem rise_same : ∀ {u v : List Nat}, u.Pairwise (· < ·) → v.Pairwise (· < ·) → (∀ x, x ∈ u ↔ x ∈ v) → u = v
  | [], [], _, _, _ => rfl
  | [], y :: v, _, _, h => absurd ((h y).2 (List.mem_cons_self ..)) (by simp)
  | x :: u, [], _, _, h => absurd ((h x).1 (List.mem_cons_self ..)) (by simp)
  | x :: u, y :: v, hu, hv, h => by
    obtain ⟨u1, u2⟩ := List.pairwise_cons.1 hu
    obtain ⟨v1, v2⟩ := List.pairwise_cons.1 hv
    have e : x = y := by
      rcases List.mem_cons.1 ((h x).1 (List.mem_cons_self ..)) with e | hx
      · exact e
      · rcases List.mem_cons.1 ((h y).2 (List.mem_cons_self ..)) with e | hy
        · exact e.symm
        · have := v1 x hx
          have := u1 y hy
          omega
    subst e
    rw [rise_same u2 v2 fun z => ?_]
    have hz := h z
    rw [List.mem_cons, List.mem_cons] at hz
    constructor
    · intro hm
      rcases hz.1 (.inr hm) with rfl | h
      · have := u1 z hm; omega
      · exact h
    · intro hm
      rcases hz.2 (.inr hm) with rfl | h
      · have := v1 z hm; omega
      · exact h
/-- the lowest bit that is set -/
structure Low (w t : Nat) : Prop where
  set : w.testBit t = true
  below : ∀ j, j < t → w.testBit j = false
theorem low_there {w : Nat} (h : w ≠ 0) : ∃ t, Low w t := by
  have hx : ∃ t, w.testBit t = true := Nat.exists_testBit_of_ne_zero h
  obtain ⟨t, ht⟩ := hx
  induction t using Nat.strongRecOn with
  | _ t ih =>
    by_cases hc : ∃ j, j < t ∧ w.testBit j = true
    · obtain ⟨j, h1, h2⟩ := hc
      exact ih j h1 h2
    · refine ⟨t, ht, fun j hj => ?_⟩
      cases hb : w.testBit j
      · rfl
      · exact absurd ⟨j, hj, hb⟩ hc
theorem low_form {w t : Nat} (h : Low w t) : ∃ k, w = 2 ^ t * (2 * k + 1) := by
  have hm : w % 2 ^ t = 0 := by
    apply Nat.eq_of_testBit_eq
    intro j
    rw [Nat.testBit_mod_two_pow, Nat.zero_testBit]
    by_cases hj : j < t
    · rw [h.below j hj, Bool.and_false]
    · rw [decide_eq_false hj]; rfl
  have ho : (w / 2 ^ t) % 2 = 1 := by
    have := h.set
    rw [Nat.testBit_eq_decide_div_mod_eq, decide_eq_true_eq] at this
    exact this
  refine ⟨w / 2 ^ t / 2, ?_⟩
  have e : 2 * (w / 2 ^ t / 2) + 1 = w / 2 ^ t := by omega
  rw [e]
  have := Nat.div_add_mod w (2 ^ t)
  omega
/-- one is taken away: the lowest bit goes -/
theorem low_next {w t : Nat} (h : Low w t) (j : Nat) : (w &&& (w - 1)).testBit j = (w.testBit j && decide (j ≠ t)) := by
  obtain ⟨k, hk⟩ := low_form h
  have hp := Nat.two_pow_pos t
  have h1 : w - 1 = 2 ^ t * (2 * k) + (2 ^ t - 1) := by
    rw [hk, Nat.mul_add, Nat.mul_one]
    omega
  have h2 : w = 2 ^ t * (2 * k + 1) + 0 := by rw [hk]; omega
  rw [Nat.testBit_and]
  by_cases hj : j < t
  · rw [h.below j hj]; rfl
  · have e1 : (w - 1).testBit j = (2 * k).testBit (j - t) := by
      rw [h1, Nat.testBit_two_pow_mul_add _ (by omega), if_neg hj]
    have e2 : w.testBit j = (2 * k + 1).testBit (j - t) := by
      conv => lhs; rw [h2]
      rw [Nat.testBit_two_pow_mul_add _ hp, if_neg hj]
    rw [e1, e2]
    rcases Nat.eq_zero_or_pos (j - t) with hz | hz
    · have : j = t := by omega
      subst this
      simp
    · obtain ⟨i, hi⟩ : ∃ i, j - t = i + 1 := ⟨j - t - 1, by omega⟩
      rw [hi, Nat.testBit_succ, Nat.testBit_succ, decide_eq_true (show j ≠ t by omega), Bool.and_true, show 2 * k / 2 = k by omega, show (2 * k + 1) / 2 = k by omega, Bool.and_self]
theorem bits_next {n w t : Nat} (h : Low w t) (ht : t < n) : bitsN n w = t :: bitsN n (w &&& (w - 1)) := by
  refine rise_same (bits_rise n w) (List.pairwise_cons.2 ⟨fun x hx => ?_, bits_rise n _⟩) fun x => ?_
  · obtain ⟨h1, h2⟩ := bits_mem.1 hx
    rw [low_next h, Bool.and_eq_true, decide_eq_true_eq] at h2
    rcases Nat.lt_trichotomy x t with hl | hl | hl
    · rw [h.below x hl] at h2; exact absurd h2.1 (by simp)
    · exact absurd hl h2.2
    · exact hl
  · rw [bits_mem, List.mem_cons, bits_mem, low_next h, Bool.and_eq_true, decide_eq_true_eq]
    constructor
    · rintro ⟨h1, h2⟩
      by_cases e : x = t
      · exact .inl e
      · exact .inr ⟨h1, h2, e⟩
    · rintro (rfl | ⟨h1, h2, _⟩)
      · exact ⟨ht, h.set⟩
      · exact ⟨h1, h2⟩
/-- word by word -/
theorem bits_words (s : Nat) : ∀ m, bitsN (64 * m) s = ((List.range m).map fun i => (bitsN 64 (wd s i)).map (64 * i + ·)).flatten
  | 0 => rfl
  | m + 1 => by
    rw [List.range_succ, List.map_append, List.flatten_append, ← bits_words s m]
    refine rise_same (bits_rise _ _) (List.pairwise_append.2 ⟨bits_rise _ _, ?_, fun x hx y hy => ?_⟩) fun x => ?_
    · simp only [List.map_cons, List.map_nil, List.flatten_cons, List.flatten_nil, List.append_nil]
      exact (bits_rise 64 _).map _ fun a b h => by omega
    · have h1 := (bits_mem.1 hx).1
      simp only [List.map_cons, List.map_nil, List.flatten_cons, List.flatten_nil, List.append_nil, List.mem_map] at hy
      obtain ⟨z, _, rfl⟩ := hy
      omega
    · simp only [List.map_cons, List.map_nil, List.flatten_cons, List.flatten_nil, List.append_nil, List.mem_append, List.mem_map, bits_mem, wd_bit]
      constructor
      · rintro ⟨h1, h2⟩
        by_cases hx : x < 64 * m
        · exact .inl ⟨hx, h2⟩
        · refine .inr ⟨x - 64 * m, ⟨by omega, ?_⟩, by omega⟩
          rw [decide_eq_true (show x - 64 * m < 64 by omega), show 64 * m + (x - 64 * m) = x by omega, h2]
          rfl
      · rintro (⟨h1, h2⟩ | ⟨z, ⟨h1, h2⟩, rfl⟩)
        · exact ⟨by omega, h2⟩
        · rw [Bool.and_eq_true] at h2
          exact ⟨by omega, h2.2⟩
end Go.Proofs.YtkinlcichclnkaaDoor

/- One closed fact of the program. -/
namespace Go.Proofs.YtkinlcichclnkaaDoor
theorem follows : Tryd.prog.follows .mixedOrders = true := by kernel_rfl
end Go.Proofs.YtkinlcichclnkaaDoor

/- Sets of places, as arrays of 64 words. -/
namespace Go.Proofs.YtkinlcichclnkaaDoor
open Go.RowKit

theorem wrap_u64 {n : Int} (h0 : 0 ≤ n) (h1 : n < 18446744073709551616) : IntKind.u64.wrap n = n := by
  have hm : n % 18446744073709551616 = n := by omega
  unfold IntKind.wrap
  simp [IntKind.bits, IntKind.signed, hm]
theorem bits_or {a b : Nat} (ha : a < 2 ^ 64) (hb : b < 2 ^ 64) : bits .or .u64 (a : Int) (b : Int) = ((a ||| b : Nat) : Int) := by
  have hor : a ||| b < 18446744073709551616 := Nat.or_lt_two_pow ha hb
  have e : (BitVec.ofInt 64 (a : Int) ||| BitVec.ofInt 64 (b : Int)).toNat = a ||| b := by
    rw [BitVec.toNat_or, BitVec.ofInt_natCast, BitVec.ofInt_natCast, BitVec.toNat_ofNat, BitVec.toNat_ofNat, Nat.mod_eq_of_lt ha, Nat.mod_eq_of_lt hb]
  have h : bits .or .u64 (a : Int) (b : Int) = IntKind.u64.wrap (((BitVec.ofInt 64 (a : Int) ||| BitVec.ofInt 64 (b : Int)).toNat : Nat) : Int) := rfl
  rw [h, e, wrap_u64 (by omega) (by omega)]
def wdL (s : Nat) : List Value := (List.range 64).map fun i => .int .u64 ((wd s i : Nat) : Int)
theorem wdL_len (s : Nat) : (wdL s).length = 64 := by unfold wdL; rw [List.length_map, List.length_range]
theorem wdL_get (s : Nat) {i : Nat} (hi : i < 64) : (wdL s)[i]? = some (.int .u64 ((wd s i : Nat) : Int)) := by
  unfold wdL
  rw [List.getElem?_map, List.getElem?_range hi]
  rfl
theorem wdL_one (s : Nat) : ∀ u ∈ wdL s, u.oneCell' = true := by
  intro u hu
  unfold wdL at hu
  obtain ⟨i, _, rfl⟩ := List.mem_map.1 hu
  rfl
theorem wdL_all (s : Nat) : (wdL s).toArray.all (·.oneCell') = true := Array.all_eq_true_iff_forall_mem.2 fun u hu => wdL_one s u (by simpa using hu)
theorem wdL_ext {l : List Value} {s : Nat} (hl : l.length = 64) (h : ∀ i, i < 64 → l[i]? = some (.int .u64 ((wd s i : Nat) : Int))) : l = wdL s := by
  apply List.ext_getElem?
  intro j
  by_cases hj : j < 64
  · rw [h j hj, wdL_get _ hj]
  · rw [List.getElem?_eq_none (by omega), List.getElem?_eq_none (by rw [wdL_len]; omega)]
/-- one word more -/
theorem wdL_step (p q j : Nat) : (wdL (p ||| q % 2 ^ (64 * j))).set j (.int .u64 ((wd (p ||| q % 2 ^ (64 * j)) j ||| wd q j : Nat) : Int)) = wdL (p ||| q % 2 ^ (64 * (j + 1))) := by
  refine wdL_ext (by rw [List.length_set, wdL_len]) fun i hi => ?_
  rw [List.getElem?_set, wd_step]
  by_cases e : j = i
  · subst e
    rw [if_pos rfl, if_pos (by rw [wdL_len]; exact hi), if_pos rfl]
  · rw [if_neg e, if_neg (fun h => e h.symm), wdL_get _ hi]
/-- one bit -/
theorem wdL_bit (n : Nat) : (wdL 0).set (n / 64) (.int .u64 ((2 ^ (n % 64) : Nat) : Int)) = wdL (2 ^ n) := by
  refine wdL_ext (by rw [List.length_set, wdL_len]) fun i hi => ?_
  rw [List.getElem?_set, wd_pow]
  by_cases e : n / 64 = i
  · rw [if_pos e, if_pos (by rw [wdL_len]; omega), if_pos e.symm]
  · rw [if_neg e, if_neg (fun h => e h.symm), wdL_get _ hi, wd_zero]
theorem wdL_zero : wdL 0 = List.replicate 64 (.int .u64 0) := by
  refine (wdL_ext (by rw [List.length_replicate]) fun i hi => ?_).symm
  rw [List.getElem?_replicate, if_pos hi, wd_zero]
  rfl
def wdV (s : Nat) : Value := .agg (wdL s).toArray
theorem some_info : (Tryd.prog.info? 65).map (·.size) = some 64 := by kernel_rfl
theorem some_size (s : Nat) : (Tryd.prog.info? 65).map (·.size) = some (wdL s).toArray.size := by
  rw [some_info, List.size_toArray, wdL_len]
/-- a set is read whole -/
theorem wpList_load_some {ops : Array Oper} {rest : List Oper} {o : Oper} {a : Act} {w : World} {Q : Exit → Act → World → Prop} {q b : Nat} (hO : Owns w b (wdL q) 65) (hgd : o.guard = none) (x : Operand) (ho : o.op = .load 65 x)
    (hx : a.eval x = .pointer (some ⟨b, 0, none⟩)) (h : wpList Tryd.prog ops Q rest (a.put o.dst (wdV q)) w) : wpList Tryd.prog ops Q (o :: rest) a w :=
  wpList_load_row hgd 65 x ho b hx 65 _ (0, 0) _ hO Tryd.underlying65 rfl (some_size q) h
/-- .. and written -/
theorem wpList_store_some {ops : Array Oper} {rest : List Oper} {o : Oper} {a : Act} {w : World} {Q : Exit → Act → World → Prop} {q p b : Nat} (hO : Owns w b (wdL q) 65) (hgd : o.guard = none) (x y : Operand) (ho : o.op = .store 65 x y)
    (hx : a.eval x = .pointer (some ⟨b, 0, none⟩)) (hy : a.eval y = wdV p) (h : ∀ w', Owns w' b (wdL p) 65 → But (fun k => k = b) w w' → wpList Tryd.prog ops Q rest (a.put o.dst undef) w') : wpList Tryd.prog ops Q (o :: rest) a w :=
  wpList_store_row hgd 65 x y ho b (wdL p).toArray hx hy 65 _ hO (some_size p) (by rw [List.size_toArray, List.size_toArray, wdL_len, wdL_len]) (wdL_all p)
    (h _ (setRow_heap w b _ _ 65 _ hO) ⟨rfl, rfl, rfl, by simp, fun k _ hk => setRow_other w b k _ hk⟩)
theorem ret_some {fn : Func} {p : Tmp} (h : fn.results = #[.cell p 65]) (tmps : Array Value) {w : World} {b q : Nat} (hO : Owns w b (wdL q) 65) (hp : tmps.getD p undef = .pointer (some ⟨b, 0, none⟩)) :
    (results fn tmps).run Tryd.prog w = .ok (wdV q) w :=
  results_cell_row h tmps w b 65 _ (0, 0) _ hp hO Tryd.underlying65 rfl (some_size q)
theorem set_but {w : World} {b T i : Nat} {cs : List Value} {v : Value} (h : Owns w b cs T) : But (fun q => q = b) w (w.setCell ⟨b, i, none⟩ v) := by
  rw [setCell_put h]
  exact But.put (F := fun q => q = b) rfl
theorem But.row {F : Nat → Prop} {w w' : World} {base : Nat} {e : TypeId} {size : Nat} {v : Value} {n : Nat} {xs : List Value} (h : But F w w') (hr : looseRow w base e size v n xs) (hn : ∀ k, v.ownBlock = some k → ¬F k) : looseRow w' base e size v n xs := by
  refine ⟨hr.1, hr.2.imp id ?_⟩
  rintro ⟨g, cap, cur, rfl, h2, h3, h4⟩
  exact ⟨g, cap, cur, rfl, h2, by rw [h.block g (Array.getElem?_eq_some_iff.1 h3).1 (hn g rfl)]; exact h3, h4⟩
theorem row_type {w : World} {base : Nat} {e : TypeId} {size : Nat} {v : Value} {n : Nat} {xs : List Value} (hr : looseRow w base e size v n xs) {k : Nat} (hk : v.ownBlock = some k) : base ≤ k ∧ k < w.heap.size ∧ ∃ cur, w.heap[k]? = some (.cells cur e (0, 0)) := by
  rcases hr.2 with ⟨rfl, _⟩ | ⟨g, cap, cur, rfl, h2, h3, _⟩
  · simp [Value.ownBlock] at hk
  · simp only [Value.ownBlock, Option.some.injEq] at hk
    subst hk
    exact ⟨h2, (Array.getElem?_eq_some_iff.1 h3).1, cur, h3⟩
theorem owns_type {w : World} {b T : Nat} {cs : List Value} (h : Owns w b cs T) : ∃ cur, w.heap[b]? = some (.cells cur T (0, 0)) := ⟨_, h⟩
theorem type_ne {w : World} {b c T U : Nat} (h : ∃ cur, w.heap[b]? = some (.cells cur T (0, 0))) (k : ∃ cur, w.heap[c]? = some (.cells cur U (0, 0))) (hT : T ≠ U) : b ≠ c := by
  rintro rfl
  obtain ⟨x, hx⟩ := h
  obtain ⟨y, hy⟩ := k
  rw [hx] at hy
  simp only [Option.some.injEq, Obj.cells.injEq] at hy
  exact hT hy.2.1
theorem Grew.butN {a b c : World} {k : Nat} (h : Grew a b) (hb : But (fun q => q = k) b c) (hk : a.heap.size ≤ k) : Grew a c := Below.trans h (But.below hb h.size fun q e => by subst e; exact hk)
theorem index_some {sq : Array Value} {j : Nat} {c : Int} (hj : j < 64) (h : sq[j]? = some (.int .u64 c)) (w : World) : (Instr.index 65 (.agg sq) (.int .i64 (j : Int))).run Tryd.prog w = .ok (.int .u64 c) w := by
  simp [Instr.index, asIntOf, run_underlying Tryd.underlying65, hj, part, h]
theorem zsome_owns (w : World) : Owns (w.alloc (.cells #[.int .u64 0, .int .u64 0, .int .u64 0, .int .u64 0, .int .u64 0, .int .u64 0, .int .u64 0, .int .u64 0, .int .u64 0, .int .u64 0, .int .u64 0, .int .u64 0, .int .u64 0, .int .u64 0, .int .u64 0, .int .u64 0, .int .u64 0, .int .u64 0, .int .u64 0, .int .u64 0, .int .u64 0, .int .u64 0, .int .u64 0, .int .u64 0, .int .u64 0, .int .u64 0, .int .u64 0, .int .u64 0, .int .u64 0, .int .u64 0, .int .u64 0, .int .u64 0, .int .u64 0, .int .u64 0, .int .u64 0, .int .u64 0, .int .u64 0, .int .u64 0, .int .u64 0, .int .u64 0, .int .u64 0, .int .u64 0, .int .u64 0, .int .u64 0, .int .u64 0, .int .u64 0, .int .u64 0, .int .u64 0, .int .u64 0, .int .u64 0, .int .u64 0, .int .u64 0, .int .u64 0, .int .u64 0, .int .u64 0, .int .u64 0, .int .u64 0, .int .u64 0, .int .u64 0, .int .u64 0, .int .u64 0, .int .u64 0, .int .u64 0, .int .u64 0] 65)) w.heap.size (wdL 0) 65 := by
  rw [wdL_zero]
  exact Owns.alloc w _ _
set_option maxHeartbeats 4000000 in
set_option maxRecDepth 20000 in
theorem nwith_ok (p q : Nat) (hq : q < 2 ^ 4096) (W : World) : Calls Tryd.prog 18 #[wdV p, wdV q] W fun e W' => e = .returned (wdV (p ||| q)) ∧ Grew W W' := by
  obtain ⟨b, hb⟩ : ∃ b, W.heap.size = b := ⟨_, rfl⟩
  obtain ⟨w1, hw1⟩ : ∃ w1, W.alloc (.cells (wdL p).toArray 65) = w1 := ⟨_, rfl⟩
  have g1 : Grew W w1 := hw1 ▸ grew_alloc W _
  have o1 : Owns w1 b (wdL p) 65 := by rw [← hw1, ← hb]; exact Owns.alloc W _ _
  have z1 : w1.heap.size = b + 1 := by rw [← hw1, ← hb]; exact World.size_alloc _ _
  obtain ⟨w2, hw2⟩ : ∃ w2, w1.alloc (.cells (wdL q).toArray 65) = w2 := ⟨_, rfl⟩
  have g2 : Grew w1 w2 := hw2 ▸ grew_alloc w1 _
  have o2 : Owns w2 (b + 1) (wdL q) 65 := by rw [← hw2, ← z1]; exact Owns.alloc w1 _ _
  have z2 : w2.heap.size = b + 1 + 1 := by rw [← hw2, ← z1]; exact World.size_alloc _ _
  obtain ⟨w3, hw3⟩ : ∃ w3, w2.alloc (.cells #[.int .u64 0, .int .u64 0, .int .u64 0, .int .u64 0, .int .u64 0, .int .u64 0, .int .u64 0, .int .u64 0, .int .u64 0, .int .u64 0, .int .u64 0, .int .u64 0, .int .u64 0, .int .u64 0, .int .u64 0, .int .u64 0, .int .u64 0, .int .u64 0, .int .u64 0, .int .u64 0, .int .u64 0, .int .u64 0, .int .u64 0, .int .u64 0, .int .u64 0, .int .u64 0, .int .u64 0, .int .u64 0, .int .u64 0, .int .u64 0, .int .u64 0, .int .u64 0, .int .u64 0, .int .u64 0, .int .u64 0, .int .u64 0, .int .u64 0, .int .u64 0, .int .u64 0, .int .u64 0, .int .u64 0, .int .u64 0, .int .u64 0, .int .u64 0, .int .u64 0, .int .u64 0, .int .u64 0, .int .u64 0, .int .u64 0, .int .u64 0, .int .u64 0, .int .u64 0, .int .u64 0, .int .u64 0, .int .u64 0, .int .u64 0, .int .u64 0, .int .u64 0, .int .u64 0, .int .u64 0, .int .u64 0, .int .u64 0, .int .u64 0, .int .u64 0] 65) = w3 := ⟨_, rfl⟩
  have g3 : Grew w2 w3 := hw3 ▸ grew_alloc w2 _
  have o3 : Owns w3 (b + 1 + 1) (wdL 0) 65 := by rw [← hw3, ← z2]; exact zsome_owns w2
  have O1 := Lib.hid ((o1.keep g2).keep g3)
  have O2 := Lib.hid (o2.keep g3)
  have O3 := Lib.hid o3
  have G3 := Lib.hid ((g1.trans g2).trans g3)
  have HB := Lib.hid hb
  have hb1 : w1.heap.size = b + 1 := z1
  have hb2 : w2.heap.size = b + 1 + 1 := z2
  clear o1 o2 o3 g1 g2 g3
  unfold wdV
  go_enter Tryd.func18, Tryd.ntmps18
  go_wp2_with fail
  clear hw1 hw2 hw3 z1 z2 hb1 hb2
  subst hb
  go_loopw [6] (fun i wr => ∃ (j : Nat), i = .int .i64 j ∧ j ≤ 64 ∧ Hid (Owns wr W.heap.size (wdL (p ||| q % 2 ^ (64 * j))) 65 ∧ Owns wr (W.heap.size + 1) (wdL q) 65 ∧ Owns wr (W.heap.size + 1 + 1) (wdL 0) 65 ∧ Grew W wr)) (fun i _ => 64 - (intOf i).toNat)
  case atStart => exact ⟨0, rfl, by omega, Lib.hid ⟨by rw [Nat.mul_zero, Nat.pow_zero, Nat.mod_one, Nat.or_zero]; exact O1.out, O2.out, O3.out, G3.out⟩⟩
  case round =>
    obtain ⟨j, rfl, hj, hst⟩ := hrel
    by_cases hlt : j < 64
    · have hj2 : (j : Int) < 64 := by omega
      have hst5 := Lib.hid (wdL_step p q j)
      obtain ⟨m, hm⟩ : ∃ m, p ||| q % 2 ^ (64 * j) = m := ⟨_, rfl⟩
      have hor := bits_or (wd_lt m j) (wd_lt q j)
      rw [hm] at hst hst5
      have c1 := hst.out.1.cell_at (i := j) (wdL_get m hlt)
      have c2 := hst.out.2.1.cell_at (i := j) (wdL_get q hlt)
      have l1 := hst.out.1.lt
      have l2 := hst.out.2.1.lt
      obtain ⟨z, hz⟩ : ∃ z : Int, ((wd m j ||| wd q j : Nat) : Int) = z := ⟨_, rfl⟩
      rw [hz] at hor hst5
      obtain ⟨x, hx⟩ : ∃ x : Int, ((wd m j : Nat) : Int) = x := ⟨_, rfl⟩
      obtain ⟨y, hy⟩ : ∃ y : Int, ((wd q j : Nat) : Int) = y := ⟨_, rfl⟩
      rw [hx] at hor c1
      rw [hy] at hor c2
      have HM := Lib.hid hm
      clear hx hy hz hm
      go_upto_region 4 with fail
      refine wp_region_hav_lit follows (by kernel_rfl) ?_
      repeat (first
        | (refine HavG.skip (fun _ => rfl) ?_; simp only [Act.put, List.setIfInBounds_toArray, List.set_cons_zero, List.set_cons_succ])
        | (refine HavG.val (fun _ => rfl) ?_ (fun x w hw _ => ?_) ?_; rotate_left; (focus (have hc := hw.cells; clear hw; go_simp; first | done | rfl)); simp only [Act.put, List.setIfInBounds_toArray, List.set_cons_zero, List.set_cons_succ]))
      refine HavG.tail (by kernel_rfl) (by kernel_rfl) (fun x w hw _ => ?_)
      have o1 := hst.out.1.keep hw
      have f1 := o1.free j
      have c3 := o1.cell_at (i := j) (wdL_get m hlt)
      have l3 := o1.lt
      obtain ⟨w4, hw4⟩ : ∃ w4, w.setCell ⟨W.heap.size, j, none⟩ (.int .u64 z) = w4 := ⟨_, rfl⟩
      have HO := Lib.hid (show Owns w4 W.heap.size (wdL (p ||| q % 2 ^ (64 * (j + 1)))) 65 by
        rw [← hst5.out, ← hw4]
        exact o1.set j _)
      have hb4 : But (fun k => k = W.heap.size) w w4 := hw4 ▸ set_but o1
      have HO2 := Lib.hid (hb4.owns (hst.out.2.1.keep hw) (by omega))
      have HO3 := Lib.hid (hb4.owns (hst.out.2.2.1.keep hw) (by omega))
      have HG := Lib.hid ((hst.out.2.2.2.trans hw).butN hb4 (Nat.le_refl _))
      clear hw hb4 o1 c1 c2 l1 l2
      go_wp2_with fail
      exact ⟨⟨j + 1, by go_num, by omega, Lib.hid ⟨HO.out, HO2.out, HO3.out, HG.out⟩⟩, by simp [intOf]; omega⟩
    · have hj64 : j = 64 := by omega
      subst hj64
      have hst6 := hst.out
      rw [show 64 * 64 = 4096 from rfl, Nat.mod_eq_of_lt hq] at hst6
      have HST := Lib.hid hst6
      clear hst6 hst
      go_upto_region 6 with fail
      apply wp_region_lit
      refine wpList_load_some HST.out.1 rfl _ rfl rfl ?_
      simp only [Act.put, List.setIfInBounds_toArray, List.set_cons_zero, List.set_cons_succ]
      refine wpList_store_some HST.out.2.2.1 rfl _ _ rfl rfl rfl ?_
      intro w5 o5 b5
      simp only [Act.put]
      have O5 := Lib.hid o5
      have G5 := Lib.hid (HST.out.2.2.2.butN b5 (by omega))
      clear o5 b5
      go_wp2_with fail
      exact bodyPost_ret (ret_some rfl _ O5.out rfl) rfl ⟨rfl, G5.out⟩
end Go.Proofs.YtkinlcichclnkaaDoor
