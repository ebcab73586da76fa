/- A block of the call's own, known whole; a scope with a label to which it jumps back. -/
import Derived.Lib.Hide
import Derived.ScopeJumps
import Derived.Laws.OwnMore
import Derived.Maps.RangeRun
import Derived.Laws.StructEq
import Derived.Maps.Keyed
import Derived.Test.YtkinlcichclnkaaDoorRows
import Derived.WalkKit
import Derived.ProofKit
import Derived.Test.YtkinlcichclnkaaDoorQT2
namespace Go.Proofs.YtkinlcichclnkaaDoor
open Go.RowKit

/-- block b holds these cells, and may be written -/
def Owns (W : World) (b : Nat) (cs : List Value) (T : Nat) : Prop := W.heap[b]? = some (.cells cs.toArray T (0, 0))

theorem Owns.lt {W : World} {b : Nat} {cs : List Value} {T : Nat} (h : Owns W b cs T) : b < W.heap.size := (Array.getElem?_eq_some_iff.1 h).1
theorem Owns.cell {W : World} {b : Nat} {cs : List Value} {T : Nat} (h : Owns W b cs T) (i : Nat) : W.cell? ⟨b, i, none⟩ = cs[i]? := by
  unfold Owns at h
  simp [World.cell?, h]
theorem Owns.free {W : World} {b : Nat} {cs : List Value} {T : Nat} (h : Owns W b cs T) (i : Nat) : W.frozen? ⟨b, i, none⟩ = false := by
  unfold Owns at h
  simp [World.frozen?, h]
theorem Owns.keep {W W' : World} {b : Nat} {cs : List Value} {T : Nat} (h : Owns W b cs T) (hg : Grew W W') : Owns W' b cs T := by
  unfold Owns at *
  rw [hg.block b (Owns.lt h)]; exact h
theorem Owns.below {W W' : World} {b lim : Nat} {cs : List Value} {T : Nat} (h : Owns W b cs T) (hg : Below lim W W') (hb : b < lim) : Owns W' b cs T := by
  unfold Owns at *
  rw [hg.block b hb]; exact h
theorem Owns.set {W : World} {b : Nat} {cs : List Value} {T : Nat} (h : Owns W b cs T) (i : Nat) (v : Value) : Owns (W.setCell ⟨b, i, none⟩ v) b (cs.set i v) T := by
  unfold Owns at *
  simp [World.setCell, Array.getElem?_modify, h]
theorem Owns.other {W : World} {b : Nat} {cs : List Value} {T : Nat} (h : Owns W b cs T) {a : Addr} (hne : a.block ≠ b) (v : Value) : Owns (W.setCell a v) b cs T := by
  unfold Owns at *
  rw [Below.heap_setCell _ _ _ _ (fun e => hne e.symm)]; exact h
theorem Owns.alloc (W : World) (cs : List Value) (T : Nat) : Owns (W.alloc (.cells cs.toArray T)) W.heap.size cs T := by
  unfold Owns
  show (W.heap.push _)[W.heap.size]? = _
  simp
theorem Owns.cell_at {W : World} {b : Nat} {cs : List Value} {T : Nat} (h : Owns W b cs T) {i : Nat} {v : Value} (hi : cs[i]? = some v) : W.cell? ⟨b, i, none⟩ = some v := by rw [h.cell, hi]

section
variable {P : Program} {a : Act} {w : World} {Q : Exit → Act → World → Prop}
/-- a scope whose first statement stands ahead of a label to which it jumps back -/
theorem wp_scope_again {r1 rest : Code} {l : Nat} (J : Act → World → Prop) (μ : Act → World → Nat) (hf : findLabel (.seq r1 (.seq (.label l) rest)) l = some (.seq .skip rest))
    (first : r1.wp P (fun e a w => e = .normal ∧ J a w) a w)
    (pass : ∀ a w, J a w → rest.wp P (Exit.jump l (fun a' w' => J a' w' ∧ μ a' w' < μ a w) Q) a w) : (Code.scope (.seq r1 (.seq (.label l) rest))).wp P Q a w := by
  refine wp_scope_jumps l J μ hf ?_ fun a w hJ => wp_seq (wp_skip (pass a w hJ))
  refine wp_seq (Code.wp_mono ?_ first)
  rintro e a w ⟨rfl, hJ⟩
  refine wp_seq (wp_label (Code.wp_mono ?_ (pass a w hJ)))
  intro e a w hq
  cases e <;> first | exact hq | exact ⟨hq.1, hq.2.1⟩
end

/-- a frame, written out slot by slot -/
theorem act_lit (a : Act) (n : Nat) (hd : a.defers = []) (hs : a.tmps.size = n) : ∃ u : Nat → Value, (∀ k, a.tmps.getD k undef = u k) ∧ a = ⟨((List.range n).map u).toArray, []⟩ := by
  refine ⟨fun k => a.tmps.getD k undef, fun _ => rfl, ?_⟩
  obtain ⟨t, d⟩ := a
  simp only at hd hs
  subst hd
  congr 1
  apply Array.ext
  · simp [hs]
  · intro i h1 h2
    simp [h1]

theorem made_bools (n : Nat) : madeCells #[.bool false] n = (List.replicate n (Value.bool false)).toArray := by
  apply Array.toList_inj.1
  rw [toList_madeCells_one]
end Go.Proofs.YtkinlcichclnkaaDoor

/- A map that the call has made and out of which nothing is taken, known whole: its entries in order; a walk over one that grows. -/
namespace Go.Proofs.YtkinlcichclnkaaDoor
open Go.RowKit

def entsAt (n : Nat) : List (Value × Value) → List MapEntry
  | [] => []
  | x :: r => ⟨x.1, x.2, n⟩ :: entsAt (n + 1) r
/-- a map with these entries, in the order in which they were laid -/
def mapObj (L : List (Value × Value)) : Obj := .map (entsAt 0 L).toArray L.length

theorem entsAt_length (L : List (Value × Value)) : ∀ n, (entsAt n L).length = L.length := by
  induction L with
  | nil => intro n; rfl
  | cons x r ih => intro n; simp [entsAt, ih]
theorem entsAt_get (L : List (Value × Value)) : ∀ n i (h : i < L.length), (entsAt n L)[i]'(by rw [entsAt_length]; exact h) = ⟨L[i].1, L[i].2, n + i⟩ := by
  induction L with
  | nil => intro n i h; exact absurd h (by simp)
  | cons x r ih =>
    intro n i h
    cases i with
    | zero => rfl
    | succ i =>
      simp only [entsAt, List.getElem_cons_succ]
      rw [ih (n + 1) i (by simpa using h)]
      congr 1
      omega
theorem entsAt_snoc (L : List (Value × Value)) (x : Value × Value) : ∀ n, entsAt n (L ++ [x]) = entsAt n L ++ [⟨x.1, x.2, n + L.length⟩] := by
  induction L with
  | nil => intro n; rfl
  | cons y r ih =>
    intro n
    simp only [List.cons_append, entsAt, ih, List.length_cons]
    rw [show n + 1 + r.length = n + (r.length + 1) by omega]
theorem entsAt_mem {L : List (Value × Value)} {n : Nat} {e : MapEntry} (h : e ∈ entsAt n L) : ∃ i, ∃ h : i < L.length, e = ⟨L[i].1, L[i].2, n + i⟩ := by
  obtain ⟨i, hi, rfl⟩ := List.mem_iff_getElem.1 h
  rw [entsAt_length] at hi
  exact ⟨i, hi, entsAt_get L n i hi⟩

/-- the first one of which f holds -/
def fnd (f : Value → Bool) : List (Value × Value) → Nat → Option (Nat × Value)
  | [], _ => none
  | x :: r, i => if f x.1 then some (i, x.2) else fnd f r (i + 1)
theorem fnd_none {f : Value → Bool} : ∀ {L : List (Value × Value)} {i : Nat}, (∀ x ∈ L, f x.1 = false) → fnd f L i = none
  | [], _, _ => rfl
  | x :: r, i, h => by
    rw [fnd, h x (by simp)]
    exact fnd_none fun y hy => h y (by simp [hy])
theorem fnd_some {f : Value → Bool} : ∀ {L : List (Value × Value)} {i : Nat}, (∃ x ∈ L, f x.1 = true) → ∃ j x, fnd f L i = some (j, x.2) ∧ x ∈ L ∧ f x.1 = true
  | [], _, h => by obtain ⟨x, hx, _⟩ := h; cases hx
  | y :: r, i, h => by
    by_cases hy : f y.1 = true
    · exact ⟨i, y, by rw [fnd, if_pos hy], by simp, hy⟩
    · obtain ⟨x, hx, hf⟩ := h
      rcases List.mem_cons.1 hx with rfl | hx
      · exact absurd hf hy
      · obtain ⟨j, z, h1, h2, h3⟩ := fnd_some (L := r) (i := i + 1) ⟨x, hx, hf⟩
        exact ⟨j, z, by rw [fnd, if_neg hy]; exact h1, by simp [h2], h3⟩

section
variable {P : Program} {w : World}

theorem asking_run {kt : TypeId} {v : Value} {f : Value → Bool} : ∀ (L : List (Value × Value)) (n i : Nat), (∀ x ∈ L, (Op.equal kt v x.1).run P w = .ok (f x.1) w) →
    (Instr.findAsking kt v (entsAt n L) i).run P w = .ok (fnd f L i) w
  | [], _, _, _ => rfl
  | x :: r, n, i, h => by
    have hx := h x (by simp)
    simp only [entsAt, Instr.findAsking, fnd, Sem.run_bind, hx, Result.andThen_ok]
    cases hf : f x.1
    · simp only [Bool.false_eq_true, if_false]
      exact asking_run r (n + 1) (i + 1) fun y hy => h y (by simp [hy])
    · simp

/-- of what a key's type asks: v is such a key, and f says which it is -/
structure KeyRun (P : Program) (w : World) (kt : TypeId) (v : Value) (f : Value → Bool) (L : List (Value × Value)) : Prop where
  check : ∀ e, (Instr.checkKey e 10000 kt v).run P w = .ok () w
  find : (Instr.findKey kt v (entsAt 0 L)).run P w = .ok (fnd f L 0) w

theorem findNow_struct {fs : Array Field} {v : Value} : ∀ (es : List MapEntry), es ≠ [] → Instr.findNow (.struct fs) v es 0 = none
  | [], h => absurd rfl h
  | e :: r, _ => by simp [Instr.findNow, Instr.sameNow]
theorem KeyRun.struct {kt : TypeId} {fs : Array Field} {v : Value} {f : Value → Bool} {L : List (Value × Value)} (ht : P.underlying kt = some (.struct fs)) (hc : ∀ e, (Instr.checkKey e 10000 kt v).run P w = .ok () w)
    (hq : ∀ x ∈ L, (Op.equal kt v x.1).run P w = .ok (f x.1) w) : KeyRun P w kt v f L := by
  refine ⟨hc, ?_⟩
  unfold Instr.findKey
  rw [Sem.run_bind, run_underlying ht, Result.andThen_ok]
  cases L with
  | nil => rfl
  | cons x r =>
    rw [findNow_struct _ (by simp [entsAt])]
    exact asking_run (x :: r) 0 0 hq

theorem findNow_int {k : IntKind} {a : Int} {f : Value → Bool} : ∀ (L : List (Value × Value)) (n i : Nat), (∀ x ∈ L, ∃ b, x.1 = .int k b ∧ f (.int k b) = (a == b)) → Instr.findNow (.int k) (.int k a) (entsAt n L) i = some (fnd f L i)
  | [], _, _, _ => rfl
  | x :: r, n, i, h => by
    obtain ⟨b, hb, hf⟩ := h x (by simp)
    have ih := findNow_int (k := k) (a := a) r (n + 1) (i + 1) fun y hy => h y (by simp [hy])
    rw [entsAt, Instr.findNow, fnd, hb, hf]
    cases hab : (a == b)
    · simp only [Instr.sameNow, if_true, hab, Bool.false_eq_true, if_false]
      exact ih
    · simp only [Instr.sameNow, if_true, hab]
theorem KeyRun.int {kt : TypeId} {k : IntKind} {a : Int} {f : Value → Bool} {L : List (Value × Value)} (ht : P.underlying kt = some (.int k)) (hL : ∀ x ∈ L, ∃ b, x.1 = .int k b ∧ f (.int k b) = (a == b)) :
    KeyRun P w kt (.int k a) f L := by
  refine ⟨fun e => ?_, ?_⟩
  · rw [show (10000 : Nat) = 9999 + 1 from rfl]
    unfold Instr.checkKey
    simp only [Sem.run_bind, run_underlying ht, Result.andThen]
    rfl
  · unfold Instr.findKey
    rw [Sem.run_bind, run_underlying ht, Result.andThen_ok]
    simp only [findNow_int L 0 0 hL]
    rfl

theorem run_map_of {b : Nat} {L : List (Value × Value)} (hb : w.heap[b]? = some (mapObj L)) : (getObj b).run P w = .ok (mapObj L) w := by
  unfold mapObj at *
  simp [getObj, Sem.run, hb]

/-- v, ok := m[k] -/
theorem run_look_ok {t kt e : TypeId} {b : Nat} {v z : Value} {f : Value → Bool} {L : List (Value × Value)} (ht : P.underlying t = some (.map kt e)) (hb : w.heap[b]? = some (mapObj L)) (hK : KeyRun P w kt v f L) (hz : (zeroValue e).run P w = .ok z w)
    (hv : ∀ x ∈ L, x.2 = z) : (Instr.lookup t (.map (some b)) v true).run P w = .ok (.tuple #[z, .bool (L.any fun x => f x.1)]) w := by
  have hg := run_map_of (P := P) hb
  unfold mapObj at hg
  have hf := hK.find
  simp only [Instr.lookup, Sem.run_bind, run_underlying ht, Result.andThen_ok, hg, Sem.run_pure, hK.check, hf]
  by_cases h : ∃ x ∈ L, f x.1 = true
  · obtain ⟨j, x, h1, h2, h3⟩ := fnd_some (i := 0) h
    have h4 : (L.any fun x => f x.1) = true := List.any_eq_true.2 h
    rw [h1, h4, hv x h2]
    simp
  · have h1 : ∀ x ∈ L, f x.1 = false := fun x hx => by
      cases hfx : f x.1
      · rfl
      · exact absurd ⟨x, hx, hfx⟩ h
    have h4 : (L.any fun x => f x.1) = false := by rw [List.any_eq_false]; intro x hx; rw [h1 x hx]; simp
    rw [fnd_none h1, h4]
    simp [hz]

/-- m[k] of one that is not there, of one that is -/
theorem run_look {t kt e : TypeId} {b : Nat} {v z : Value} {f : Value → Bool} {L : List (Value × Value)} (ht : P.underlying t = some (.map kt e)) (hb : w.heap[b]? = some (mapObj L)) (hK : KeyRun P w kt v f L) (hz : (zeroValue e).run P w = .ok z w) :
    ((∀ x ∈ L, f x.1 = false) ∧ (Instr.lookup t (.map (some b)) v false).run P w = .ok z w) ∨ ∃ x ∈ L, f x.1 = true ∧ (Instr.lookup t (.map (some b)) v false).run P w = .ok x.2 w := by
  have hg := run_map_of (P := P) hb
  unfold mapObj at hg
  have hf := hK.find
  simp only [Instr.lookup, Sem.run_bind, run_underlying ht, Result.andThen_ok, hg, Sem.run_pure, hK.check, hf]
  by_cases h : ∃ x ∈ L, f x.1 = true
  · obtain ⟨j, x, h1, h2, h3⟩ := fnd_some (i := 0) h
    right
    exact ⟨x, h2, h3, by rw [h1]; simp⟩
  · have h1 : ∀ x ∈ L, f x.1 = false := fun x hx => by
      cases hfx : f x.1
      · rfl
      · exact absurd ⟨x, hx, hfx⟩ h
    left
    exact ⟨h1, by rw [fnd_none h1]; simp [hz]⟩

/-- another object in a block -/
def putObj (w : World) (b : Nat) (o : Obj) : World := { w with heap := w.heap.setIfInBounds b o }
theorem putObj_same {b : Nat} (hb : b < w.heap.size) (o : Obj) : (putObj w b o).heap[b]? = some o := by simp [putObj, hb]
theorem putObj_other {b i : Nat} (h : i ≠ b) (o : Obj) : (putObj w b o).heap[i]? = w.heap[i]? := by
  unfold putObj
  simp [Ne.symm h]
theorem putObj_size (b : Nat) (o : Obj) : (putObj w b o).heap.size = w.heap.size := by simp [putObj]

/-- m[k] = v of a key that is not there -/
theorem run_update_new {t kt e : TypeId} {b : Nat} {v x : Value} {f : Value → Bool} {L : List (Value × Value)} (ht : P.underlying t = some (.map kt e)) (hb : w.heap[b]? = some (mapObj L)) (hK : KeyRun P w kt v f L) (hn : ∀ x ∈ L, f x.1 = false) :
    (Instr.mapUpdate t (.map (some b)) v x).run P w = .ok () (putObj w b (mapObj (L ++ [(v, x)]))) := by
  have hg := run_map_of (P := P) hb
  unfold mapObj at hg
  have hf := hK.find
  rw [fnd_none hn] at hf
  have hb' := hb
  unfold mapObj at hb'
  simp only [Instr.mapUpdate, Sem.run_bind, run_underlying ht, Result.andThen_ok, hg, hK.check, hf, setObj, Sem.run, hb']
  unfold putObj mapObj
  rw [entsAt_snoc]
  simp

/-! ### walking over a map -/
/-- block r walks over the map in block b: these entries were met -/
def IterAt (w : World) (r b since : Nat) (seen : List Nat) (last : Nat) : Prop := w.heap[r]? = some (.mapIter (some b) since seen.toArray last)

theorem run_range_mapObj {t kt e : TypeId} {b : Nat} {L : List (Value × Value)} (ht : P.underlying t = some (.map kt e)) (hb : w.heap[b]? = some (mapObj L)) :
    (Instr.range t (.map (some b))).run P w = .ok (.pointer (some ⟨w.heap.size, 0, none⟩)) (w.alloc (.mapIter (some b) L.length #[] L.length)) := by
  unfold mapObj at hb
  exact run_range_map w t kt e b _ _ ht hb

theorem run_next_mapObj {r b since last : Nat} {seen : List Nat} {L : List (Value × Value)} (hr : IterAt w r b since seen last) (hb : w.heap[b]? = some (mapObj L)) (hl : seen ≠ [] → 1 ≤ last) (hs : since ≤ L.length) (ty : TypeId) :
    ((∀ i, i < since → i ∈ seen) ∧ ∃ w1, (w1 = w ∨ w1 = w.drew) ∧ (Instr.next (.pointer (some ⟨r, 0, none⟩)) false ty).run P w = .ok (.tuple #[.bool false]) w1) ∨
    ∃ i, ∃ h : i < L.length, i ∉ seen ∧ ∃ w1, (w1 = w ∨ w1 = w.drew) ∧ (Instr.next (.pointer (some ⟨r, 0, none⟩)) false ty).run P w = .ok (.tuple #[.bool true, L[i].1, L[i].2]) (putObj w1 r (.mapIter (some b) since (seen ++ [i]).toArray L.length)) := by
  unfold IterAt at hr
  have hb' := hb
  unfold mapObj at hb'
  have htest : (!seen.toArray.isEmpty && !(entsAt 0 L).toArray.isEmpty && (entsAt 0 L).toArray.all (fun x => decide (x.born ≥ last))) = false := by
    cases seen with
    | nil => simp
    | cons s0 sr =>
      have h1 := hl (by simp)
      cases L with
      | nil => simp [entsAt]
      | cons x rest =>
        have : ((entsAt 0 (x :: rest)).toArray.all (fun x => decide (x.born ≥ last))) = false := by
          rw [Array.all_eq_false']
          refine ⟨⟨x.1, x.2, 0⟩, by simp [entsAt], ?_⟩
          simp
          omega
        rw [this, Bool.and_false]
  simp only [Instr.next, getObj, Sem.run_bind, Sem.run, hr, hb', Result.andThen, htest, Bool.false_eq_true, if_false]
  have hmem : ∀ x, x ∈ Array.filter (fun e => !seen.toArray.contains e.born) (entsAt 0 L).toArray ↔ ∃ i, ∃ h : i < L.length, i ∉ seen ∧ x = ⟨L[i].1, L[i].2, i⟩ := by
    intro x
    constructor
    · intro hx
      have hx' := Array.mem_filter.1 hx
      have h1 : x ∈ entsAt 0 L := by simpa using hx'.1
      obtain ⟨i, hi, rfl⟩ := entsAt_mem h1
      refine ⟨i, hi, ?_, by simp⟩
      have := hx'.2
      simpa using this
    · rintro ⟨i, hi, hs', rfl⟩
      refine Array.mem_filter.2 ⟨?_, by simpa using hs'⟩
      have h1 := List.getElem_mem (l := entsAt 0 L) (n := i) (by rw [entsAt_length]; exact hi)
      rw [entsAt_get L 0 i hi, Nat.zero_add] at h1
      simpa using h1
  generalize Array.filter (fun e => !seen.toArray.contains e.born) (entsAt 0 L).toArray = A at hmem ⊢
  have hold : ∀ x, x ∈ Array.filter (fun x => decide (x.born < since)) A ↔ x ∈ A ∧ x.born < since := fun x => by simp
  have hnew : ∀ x, x ∈ Array.filter (fun x => decide (x.born ≥ since)) A ↔ x ∈ A ∧ since ≤ x.born := fun x => by simp
  generalize Array.filter (fun x => decide (x.born < since)) A = O at hold ⊢
  generalize Array.filter (fun x => decide (x.born ≥ since)) A = Nw at hnew ⊢
  generalize hC : (if O.isEmpty = true then #[none] else #[]) ++ Array.map some (O ++ Nw) = C
  have hCm : ∀ c, c ∈ C → (c = none ∧ O = #[]) ∨ ∃ x, c = some x ∧ x ∈ A := by
    intro c hc
    rw [← hC] at hc
    rcases Array.mem_append.1 hc with hc | hc
    · left
      by_cases hO : O.isEmpty = true
      · rw [if_pos hO] at hc
        exact ⟨by simpa using hc, by simpa using hO⟩
      · rw [if_neg hO] at hc
        simp at hc
    · right
      obtain ⟨x, hx, rfl⟩ := Array.mem_map.1 hc
      refine ⟨x, rfl, ?_⟩
      rcases Array.mem_append.1 hx with hx | hx
      · exact ((hold x).1 hx).1
      · exact ((hnew x).1 hx).1
  have hpos : 0 < C.size := by
    rw [← hC]
    by_cases hO : O.isEmpty = true
    · simp [hO]
      omega
    · have : O.size ≠ 0 := fun h => hO (by simp [Array.isEmpty, h])
      simp
      omega
  have hch : ∃ (j : Nat) (w1 : World), j < C.size ∧ (w1 = w ∨ w1 = w.drew) ∧ (choose (Question.mapNext C.size)).run P w = .ok j w1 := by
    by_cases hf : C.size ≤ 1
    · exact ⟨0, w, hpos, Or.inl rfl, by simp [choose, Sem.run, Question.forced, hf]⟩
    · exact ⟨_, w.drew, Nat.mod_lt _ (by omega), Or.inr rfl, by
        simp only [choose, Sem.run, Question.forced, decide_eq_true_eq, hf, if_false, Question.cut]
        rfl⟩
  obtain ⟨j, w1, hj, hal, hrun⟩ := hch
  rw [hrun]
  simp only
  have hCj : C[j]? = some C[j] := Array.getElem?_eq_getElem hj
  rcases hCm C[j] (Array.getElem_mem hj) with ⟨hc, hO⟩ | ⟨x, hc, hx⟩
  · left
    refine ⟨fun i hi => ?_, w1, hal, ?_⟩
    · by_cases hs' : i ∈ seen
      · exact hs'
      · have hiL : i < L.length := by omega
        have h1 := (hold ⟨L[i].1, L[i].2, i⟩).2 ⟨(hmem _).2 ⟨i, hiL, hs', rfl⟩, hi⟩
        rw [hO] at h1
        simp at h1
    · rw [hCj, hc]
      rfl
  · right
    obtain ⟨i, hi, hns, rfl⟩ := (hmem x).1 hx
    refine ⟨i, hi, hns, w1, hal, ?_⟩
    have hr1 : w1.heap[r]? = some (.mapIter (some b) since seen.toArray last) := by rcases hal with rfl | rfl <;> exact hr
    rw [hCj, hc]
    simp only [setObj, Sem.run_bind, Sem.run, hr1, Result.andThen]
    unfold putObj
    simp

theorem run_entry_mapObj {r b since : Nat} {seen : List Nat} {L : List (Value × Value)} {i : Nat} (hi : i < L.length) (hr : IterAt w r b since (seen ++ [i]) L.length) (hb : w.heap[b]? = some (mapObj L)) :
    (Instr.entry (.pointer (some ⟨r, 0, none⟩))).run P w = .ok (.tuple #[L[i].1, L[i].2]) w := by
  unfold IterAt at hr
  have hb' := hb
  unfold mapObj at hb'
  have hf : ∀ (L : List (Value × Value)) (n i : Nat) (h : i < L.length), List.find? (fun x => x.born == n + i) (entsAt n L) = some ⟨L[i].1, L[i].2, n + i⟩ := by
    intro L
    induction L with
    | nil => intro n i h; exact absurd h (by simp)
    | cons x rest ih =>
      intro n i h
      cases i with
      | zero => simp [entsAt]
      | succ i =>
        rw [entsAt, List.find?_cons_of_neg (by simp)]
        have := ih (n + 1) i (by simpa using h)
        rw [show n + 1 + i = n + (i + 1) by omega] at this
        exact this
  have h2 := hf L 0 i hi
  rw [Nat.zero_add] at h2
  have hback : (seen ++ [i]).toArray.back? = some i := by simp
  simp only [Instr.entry, getObj, Sem.run_bind, Sem.run, hr, hb', Result.andThen, hback, bne_self_eq_false, Bool.false_eq_true, if_false, List.find?_toArray, h2]
  rfl
end
end Go.Proofs.YtkinlcichclnkaaDoor

/- What a grammar's nodes are, as a type of its own, and how one lies in memory. -/
namespace Go.Proofs.YtkinlcichclnkaaDoor
open Go.RowKit

/-- the most letters of a string, and cells of a slice, that can be read -/
def reachN : Nat := 140737488355328

theorem ret_int {k : IntKind} {a b : Int} (h : a = b) : Ending.returned (.int k a) = .returned (.int k b) := by rw [h]
theorem ret_bool {a b : Bool} (h : a = b) : Ending.returned (.bool a) = .returned (.bool b) := by rw [h]
/-- the same letters -/
def sameB (a b : ByteArray) : Bool := a.toList == b.toList
theorem sameB_refl (a : ByteArray) : sameB a a = true := by simp [sameB]
theorem sameB_iff (a b : ByteArray) : sameB a b = true ↔ a.toList = b.toList := by simp [sameB]

/-- a node -/
inductive Nd where
  | mk (kind : Int) (name text : ByteArray) (set : List (Int × Int)) (subs : List Nd)

namespace Nd
def kind : Nd → Int | .mk k _ _ _ _ => k
def name : Nd → ByteArray | .mk _ n _ _ _ => n
def text : Nd → ByteArray | .mk _ _ t _ _ => t
def set : Nd → List (Int × Int) | .mk _ _ _ s _ => s
def subs : Nd → List Nd | .mk _ _ _ _ l => l
end Nd

/-- where a slice's cells are: they lie in a block below lim -/
def RangesAt (W : World) (lim : Nat) (a : Option Addr) (i : Nat) : List (Int × Int) → Prop
  | [] => True
  | x :: r => (∃ b off, a = some ⟨b, off, none⟩ ∧ b < lim ∧ W.cell? ⟨b, off + i * 2, none⟩ = some (.int .i32 x.1) ∧ W.cell? ⟨b, off + i * 2 + 1, none⟩ = some (.int .i32 x.2)) ∧ RangesAt W lim a (i + 1) r

mutual
/-- the five cells c read as the node, in W, through blocks below lim -/
def NodeAt (W : World) (lim : Nat) (c0 c1 c2 c3 c4 : Option Value) : Nd → Prop
  | .mk k nm tx set subs => (0 ≤ k ∧ k ≤ 255) ∧ nm.size ≤ reachN ∧ tx.size ≤ reachN ∧ c0 = some (.int .u8 k) ∧ c1 = some (.string nm) ∧ c2 = some (.string tx) ∧
      (∃ a cap, c3 = some (.slice a set.length cap) ∧ set.length ≤ reachN ∧ RangesAt W lim a 0 set) ∧ (∃ a cap, c4 = some (.slice a subs.length cap) ∧ subs.length ≤ min reachN cap ∧ NodesAt W lim a 0 subs)
def NodesAt (W : World) (lim : Nat) (a : Option Addr) (i : Nat) : List Nd → Prop
  | [] => True
  | n :: r => (∃ b off, a = some ⟨b, off, none⟩ ∧ b < lim ∧ NodeAt W lim (W.cell? ⟨b, off + i * 5, none⟩) (W.cell? ⟨b, off + i * 5 + 1, none⟩) (W.cell? ⟨b, off + i * 5 + 2, none⟩) (W.cell? ⟨b, off + i * 5 + 3, none⟩) (W.cell? ⟨b, off + i * 5 + 4, none⟩) n) ∧ NodesAt W lim a (i + 1) r
end

theorem NodesAt.get {W : World} {lim : Nat} {a : Option Addr} : ∀ {l : List Nd} {i k : Nat} (_ : NodesAt W lim a i l) (hk : k < l.length),
    ∃ b off, a = some ⟨b, off, none⟩ ∧ b < lim ∧ NodeAt W lim (W.cell? ⟨b, off + (i + k) * 5, none⟩) (W.cell? ⟨b, off + (i + k) * 5 + 1, none⟩) (W.cell? ⟨b, off + (i + k) * 5 + 2, none⟩) (W.cell? ⟨b, off + (i + k) * 5 + 3, none⟩) (W.cell? ⟨b, off + (i + k) * 5 + 4, none⟩) l[k]
  | [], _, _, _, hk => absurd hk (by simp)
  | n :: r, i, 0, h, _ => by rw [NodesAt] at h; simpa using h.1
  | n :: r, i, k + 1, h, hk => by
    rw [NodesAt] at h
    obtain ⟨b, off, h1, h2, h3⟩ := NodesAt.get (k := k) h.2 (by simpa using hk)
    refine ⟨b, off, h1, h2, ?_⟩
    have e : i + 1 + k = i + (k + 1) := by omega
    rw [e] at h3
    simpa using h3

theorem RangesAt.keep {W W' : World} {lim : Nat} (hb : Below lim W W') {a : Option Addr} : ∀ {l : List (Int × Int)} {i : Nat}, RangesAt W lim a i l → RangesAt W' lim a i l
  | [], _, _ => trivial
  | x :: r, i, h => by
    obtain ⟨⟨b, off, h1, h2, h3, h4⟩, h5⟩ := h
    exact ⟨⟨b, off, h1, h2, by rw [hb.cell h2]; exact h3, by rw [hb.cell h2]; exact h4⟩, RangesAt.keep hb h5⟩

mutual
theorem NodeAt.keep {W W' : World} {lim : Nat} (hb : Below lim W W') {c0 c1 c2 c3 c4 : Option Value} : ∀ {n : Nd}, NodeAt W lim c0 c1 c2 c3 c4 n → NodeAt W' lim c0 c1 c2 c3 c4 n
  | .mk k nm tx set subs, h => by
    rw [NodeAt] at h ⊢
    obtain ⟨hk, h1, h2, h3, h4, h5, ⟨a, cap, h6, h6', h7⟩, a', cap', h8, h8', h9⟩ := h
    exact ⟨hk, h1, h2, h3, h4, h5, ⟨a, cap, h6, h6', h7.keep hb⟩, a', cap', h8, h8', NodesAt.keep hb h9⟩
theorem NodesAt.keep {W W' : World} {lim : Nat} (hb : Below lim W W') {a : Option Addr} : ∀ {l : List Nd} {i : Nat}, NodesAt W lim a i l → NodesAt W' lim a i l
  | [], _, _ => by rw [NodesAt]; trivial
  | n :: r, i, h => by
    rw [NodesAt] at h ⊢
    obtain ⟨⟨b, off, h1, h2, h3⟩, h5⟩ := h
    refine ⟨⟨b, off, h1, h2, ?_⟩, NodesAt.keep hb h5⟩
    have e : ∀ o, W'.cell? ⟨b, o, none⟩ = W.cell? ⟨b, o, none⟩ := fun o => hb.cell h2
    rw [e, e, e, e, e]
    exact NodeAt.keep hb h3
end

theorem RangesAt.mono {W : World} {lim lim' : Nat} (hl : lim ≤ lim') {a : Option Addr} : ∀ {l : List (Int × Int)} {i : Nat}, RangesAt W lim a i l → RangesAt W lim' a i l
  | [], _, _ => trivial
  | x :: r, i, h => by
    obtain ⟨⟨b, off, h1, h2, h3, h4⟩, h5⟩ := h
    exact ⟨⟨b, off, h1, by omega, h3, h4⟩, RangesAt.mono hl h5⟩
mutual
theorem NodeAt.mono {W : World} {lim lim' : Nat} (hl : lim ≤ lim') {c0 c1 c2 c3 c4 : Option Value} : ∀ {n : Nd}, NodeAt W lim c0 c1 c2 c3 c4 n → NodeAt W lim' c0 c1 c2 c3 c4 n
  | .mk k nm tx set subs, h => by
    rw [NodeAt] at h ⊢
    obtain ⟨hk, h1, h2, h3, h4, h5, ⟨a, cap, h6, h6', h7⟩, a', cap', h8, h8', h9⟩ := h
    exact ⟨hk, h1, h2, h3, h4, h5, ⟨a, cap, h6, h6', h7.mono hl⟩, a', cap', h8, h8', NodesAt.mono hl h9⟩
theorem NodesAt.mono {W : World} {lim lim' : Nat} (hl : lim ≤ lim') {a : Option Addr} : ∀ {l : List Nd} {i : Nat}, NodesAt W lim a i l → NodesAt W lim' a i l
  | [], _, _ => by rw [NodesAt]; trivial
  | n :: r, i, h => by
    rw [NodesAt] at h ⊢
    obtain ⟨⟨b, off, h1, h2, h3⟩, h5⟩ := h
    exact ⟨⟨b, off, h1, by omega, NodeAt.mono hl h3⟩, NodesAt.mono hl h5⟩
end

/-- the five cells are there -/
theorem NodeAt.vals {W : World} {lim : Nat} {c0 c1 c2 c3 c4 : Option Value} {n : Nd} (h : NodeAt W lim c0 c1 c2 c3 c4 n) :
    ∃ v0 v1 v2 v3 v4, c0 = some v0 ∧ c1 = some v1 ∧ c2 = some v2 ∧ c3 = some v3 ∧ c4 = some v4 ∧ NodeAt W lim (some v0) (some v1) (some v2) (some v3) (some v4) n := by
  cases n with
  | mk k nm tx set subs =>
    have h' := h
    rw [NodeAt] at h
    obtain ⟨hk, h1, h2, rfl, rfl, rfl, ⟨a, cap, rfl, h6', h7⟩, a', cap', rfl, h8', h9⟩ := h
    exact ⟨_, _, _, _, _, rfl, rfl, rfl, rfl, rfl, h'⟩

/-- of what form they are -/
theorem NodeAt.forms {W : World} {lim : Nat} {v0 v1 v2 v3 v4 : Value} {n : Nd} (h : NodeAt W lim (some v0) (some v1) (some v2) (some v3) (some v4) n) :
    ∃ k nm tx sa sl sc na nl nc, v0 = .int .u8 k ∧ v1 = .string nm ∧ v2 = .string tx ∧ v3 = .slice sa sl sc ∧ v4 = .slice na nl nc := by
  cases n with
  | mk k nm tx set subs =>
    rw [NodeAt] at h
    obtain ⟨hk, h1, h2, h3, h4, h5, ⟨a, cap, h6, h6', h7⟩, a', cap', h8, h8', h9⟩ := h
    exact ⟨k, nm, tx, a, _, cap, a', _, cap', Option.some.inj h3, Option.some.inj h4, Option.some.inj h5, Option.some.inj h6, Option.some.inj h8⟩

theorem Nd.ind {P : Nd → Prop} (h : ∀ k nm tx set subs, (∀ i (hi : i < subs.length), P subs[i]) → P (.mk k nm tx set subs)) : ∀ n, P n
  | .mk k nm tx set subs => h k nm tx set subs fun i hi => Nd.ind h subs[i]
termination_by n => SizeOf.sizeOf n
decreasing_by
  have := List.sizeOf_lt_of_mem (List.getElem_mem hi)
  simp only [Nd.mk.sizeOf_spec]
  omega
end Go.Proofs.YtkinlcichclnkaaDoor
