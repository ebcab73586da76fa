/- All blocks but some stay; what is said whatever becomes of these. -/
import Derived.Test.YtogmlonhciiomaaDoorPrMap
namespace Go.Proofs.YtogmlonhciiomaaDoor
open Go.RowKit

/-! ### all blocks but some stay -/
structure But (F : Nat → Prop) (w w' : World) : Prop where
  os : w'.os = w.os
  tape : w'.tape = w.tape
  output : w'.output = w.output
  size : w.heap.size ≤ w'.heap.size
  block : ∀ k, k < w.heap.size → ¬F k → w'.heap[k]? = w.heap[k]?
theorem But.refl (F : Nat → Prop) (w : World) : But F w w := ⟨rfl, rfl, rfl, Nat.le_refl _, fun _ _ _ => rfl⟩
theorem But.trans {F G : Nat → Prop} {a b c : World} (h : But F a b) (k : But G b c) (hG : ∀ i, i < a.heap.size → G i → F i) : But F a c :=
  ⟨k.os.trans h.os, k.tape.trans h.tape, k.output.trans h.output, Nat.le_trans h.size k.size, fun i hi hn => (k.block i (Nat.lt_of_lt_of_le hi h.size) (fun g => hn (hG i hi g))).trans (h.block i hi hn)⟩
theorem But.of_grew {F : Nat → Prop} {a b : World} (h : Grew a b) : But F a b := ⟨h.os, h.tape, h.output, h.size, fun k hk _ => h.block k hk⟩
theorem But.put {w : World} {b : Nat} {o : Obj} {F : Nat → Prop} (hb : F b) : But F w (putObj w b o) :=
  ⟨rfl, rfl, rfl, by rw [putObj_size]; exact Nat.le_refl _, fun k _ hn => putObj_other (fun e => hn (by rw [e]; exact hb)) o⟩
theorem But.below {F : Nat → Prop} {w w' : World} {lim : Nat} (h : But F w w') (hl : lim ≤ w.heap.size) (hF : ∀ k, F k → lim ≤ k) : Below lim w w' :=
  ⟨h.os, h.tape, h.output, h.size, fun k hk => h.block k (by omega) (fun hf => by have := hF k hf; omega)⟩
theorem But.drew {F : Nat → Prop} {a b : World} (h : But F a b) : But F a b.drew := ⟨h.os, h.tape, h.output, h.size, h.block⟩
theorem But.owns {F : Nat → Prop} {w w' : World} {b T : Nat} {cs : List Value} (h : But F w w') (ho : Owns w b cs T) (hn : ¬F b) : Owns w' b cs T := by
  have := ho.lt
  unfold Owns at *
  rw [h.block b this hn]; exact ho


theorem But.mono {F G : Nat → Prop} {w w' : World} (h : But F w w') (hF : ∀ k, k < w.heap.size → F k → G k) : But G w w' := ⟨h.os, h.tape, h.output, h.size, fun k hk hn => h.block k hk fun hf => hn (hF k hk hf)⟩
theorem But.grown {F : Nat → Prop} {w w' : World} {row : Option Nat} (h : w.grownBy w' row) (hF : ∀ k, row = some k → F k) : But F w w' :=
  ⟨h.os, h.tape, h.output, h.size, fun k hk hn => h.block k hk fun e => hn (hF k e.symm)⟩
theorem But.set {F : Nat → Prop} {w : World} {a : Addr} (ha : F a.block) (v : Value) : But F w (w.setCell a v) :=
  ⟨rfl, rfl, rfl, by simp, fun k _ hn => Below.heap_setCell _ _ _ _ fun e => hn (e ▸ ha)⟩
/-- said, whatever becomes of some blocks -/
def Stay (F : Nat → Prop) (w : World) (P : World → Prop) : Prop := ∀ w', But F w w' → P w'
theorem Stay.now {F : Nat → Prop} {w : World} {P : World → Prop} (h : Stay F w P) : P w := h w (But.refl F w)
theorem Stay.step {F G : Nat → Prop} {w w' : World} {P : World → Prop} (h : Stay F w P) (hb : But F w w') (hG : ∀ k, k < w.heap.size → G k → F k) : Stay G w' P := fun w2 h2 => h w2 (hb.trans h2 hG)
theorem Stay.imp {F : Nat → Prop} {w : World} {P Q : World → Prop} (h : Stay F w P) (hPQ : ∀ w, P w → Q w) : Stay F w Q := fun w' hb => hPQ _ (h w' hb)
theorem Stay.and {F : Nat → Prop} {w : World} {P Q : World → Prop} (h : Stay F w P) (k : Stay F w Q) : Stay F w fun w => P w ∧ Q w := fun w' hb => ⟨h w' hb, k w' hb⟩
theorem But.row {F : Nat → Prop} {w w' : World} {base : Nat} {e : TypeId} {size : Nat} {v : Value} {n : Nat} {xs : List Value} (h : But F w w') (hr : looseRow w base e size v n xs) (hn : ∀ k, v.ownBlock = some k → ¬F k) : looseRow w' base e size v n xs := by
  refine ⟨hr.1, hr.2.imp id ?_⟩
  rintro ⟨g, cap, cur, rfl, h2, h3, h4⟩
  exact ⟨g, cap, cur, rfl, h2, by rw [h.block g (Array.getElem?_eq_some_iff.1 h3).1 (hn g rfl)]; exact h3, h4⟩
/-- a row that nobody grows stays -/
theorem Stay.row {F : Nat → Prop} {w : World} {base : Nat} {e : TypeId} {size : Nat} {v : Value} {n : Nat} {xs : List Value} (hr : looseRow w base e size v n xs) (hn : ∀ k, v.ownBlock = some k → ¬F k) : Stay F w fun w => looseRow w base e size v n xs :=
  fun _ hb => hb.row hr hn
/-- rows of different types lie in different blocks -/
theorem row_type {w : World} {base : Nat} {e : TypeId} {size : Nat} {v : Value} {n : Nat} {xs : List Value} (hr : looseRow w base e size v n xs) {k : Nat} (hk : v.ownBlock = some k) : ∃ cur, w.heap[k]? = some (.cells cur e (0, 0)) := by
  rcases hr.2 with ⟨rfl, _⟩ | ⟨g, cap, cur, rfl, _, h3, _⟩
  · simp [Value.ownBlock] at hk
  · simp only [Value.ownBlock, Option.some.injEq] at hk
    subst hk
    exact ⟨cur, h3⟩
theorem row_lt {w : World} {base : Nat} {e : TypeId} {size : Nat} {v : Value} {n : Nat} {xs : List Value} (hr : looseRow w base e size v n xs) {k : Nat} (hk : v.ownBlock = some k) : base ≤ k ∧ k < w.heap.size := by
  rcases hr.2 with ⟨rfl, _⟩ | ⟨g, cap, cur, rfl, h2, h3, _⟩
  · simp [Value.ownBlock] at hk
  · simp only [Value.ownBlock, Option.some.injEq] at hk
    subst hk
    exact ⟨h2, (Array.getElem?_eq_some_iff.1 h3).1⟩
theorem owns_type {w : World} {b T : Nat} {cs : List Value} (h : Owns w b cs T) : ∃ cur, w.heap[b]? = some (.cells cur T (0, 0)) := ⟨_, h⟩
theorem type_ne {w : World} {b c T U : Nat} (h : ∃ cur, w.heap[b]? = some (.cells cur T (0, 0))) (k : ∃ cur, w.heap[c]? = some (.cells cur U (0, 0))) (hT : T ≠ U) : b ≠ c := by
  rintro rfl
  obtain ⟨x, hx⟩ := h
  obtain ⟨y, hy⟩ := k
  rw [hx] at hy
  injection hy with hy
  injection hy with _ hy _
  exact hT hy
theorem map_ne {w : World} {b c T : Nat} {L : List (Value × Value)} (h : w.heap[b]? = some (mapObj L)) (k : ∃ cur, w.heap[c]? = some (.cells cur T (0, 0))) : b ≠ c := by
  rintro rfl
  obtain ⟨y, hy⟩ := k
  rw [h] at hy
  injection hy with hy
  unfold mapObj at hy
  cases hy
end Go.Proofs.YtogmlonhciiomaaDoor
