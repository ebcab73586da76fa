/- A map that the call has made and out of which nothing is taken, known whole: its entries in order; a walk over one that grows. -/
import Derived.Maps.RangeRun
import Derived.Laws.StructEq
import Derived.Maps.Keyed
import Derived.Test.YtgdcnndmdgcjlaaRows
import Derived.WalkKit
import Derived.ProofKit
import Derived.Test.YtgdcnndmdgcjlaaQ1
namespace Go.Proofs.Ytgdcnndmdgcjlaa
open Go.RowKit
def entsAt (n : Nat) : List (Value × Value) → List MapEntry
  | [] => []
  | x :: r => ⟨x.1, x.2, n⟩ :: entsAt (n + 1) r
def mapObj (L : List (Value × Value)) : Obj := .map (entsAt 0 L).toArray L.length
theorem entsAt_length (L : List (Value × Value)) : ∀ n, (entsAt n L).length = L.length := by
  induction L with
  | nil => intro n; rfl
  | cons x r ih => intro n; simp [entsAt, ih]
theorem entsAt_get (L : List (Value × Value)) : ∀ n i (h : i < L.length), (entsAt n L)[i]'(by rw [entsAt_length]; exact h) = ⟨L[i].1, L[i].2, n + i⟩ := by
  induction L with
  | nil => intro n i h; exact absurd h (by simp)
  | cons x r ih =>
    intro n i h
    cases i with
    | zero => rfl
    | succ i =>
      simp only [entsAt, List.getElem_cons_succ]
      rw [ih (n + 1) i (by simpa using h)]
      congr 1
      omega
theorem entsAt_snoc (L : List (Value × Value)) (x : Value × Value) : ∀ n, entsAt n (L ++ [x]) = entsAt n L ++ [⟨x.1, x.2, n + L.length⟩] := by
  induction L with
  | nil => intro n; rfl
  | cons y r ih =>
    intro n
    simp only [List.cons_append, entsAt, ih, List.length_cons]
    rw [show n + 1 + r.length = n + (r.length + 1) by omega]
theorem entsAt_mem {L : List (Value × Value)} {n : Nat} {e : MapEntry} (h : e ∈ entsAt n L) : ∃ i, ∃ h : i < L.length, e = ⟨L[i].1, L[i].2, n + i⟩ := by
  obtain ⟨i, hi, rfl⟩ := List.mem_iff_getElem.1 h
  rw [entsAt_length] at hi
  exact ⟨i, hi, entsAt_get L n i hi⟩
def fnd (f : Value → Bool) : List (Value × Value) → Nat → Option (Nat × Value)
  | [], _ => none
  | x :: r, i => if f x.1 then some (i, x.2) else fnd f r (i + 1)
theorem fnd_none {f : Value → Bool} : ∀ {L : List (Value × Value)} {i : Nat}, (∀ x ∈ L, f x.1 = false) → fnd f L i = none
  | [], _, _ => rfl
  | x :: r, i, h => by
    rw [fnd, h x (by simp)]
    exact fnd_none fun y hy => h y (by simp [hy])
theorem fnd_some {f : Value → Bool} : ∀ {L : List (Value × Value)} {i : Nat}, (∃ x ∈ L, f x.1 = true) → ∃ j x, fnd f L i = some (j, x.2) ∧ x ∈ L ∧ f x.1 = true
  | [], _, h => by obtain ⟨x, hx, _⟩ := h; cases hx
  | y :: r, i, h => by
    by_cases hy : f y.1 = true
    · exact ⟨i, y, by rw [fnd, if_pos hy], by simp, hy⟩
    · obtain ⟨x, hx, hf⟩ := h
      rcases List.mem_cons.1 hx with rfl | hx
      · exact absurd hf hy
      · obtain ⟨j, z, h1, h2, h3⟩ := fnd_some (L := r) (i := i + 1) ⟨x, hx, hf⟩
        exact ⟨j, z, by rw [fnd, if_neg hy]; exact h1, by simp [h2], h3⟩
section
variable {P : Program} {w : World}
theorem asking_run {kt : TypeId} {v : Value} {f : Value → Bool} : ∀ (L : List (Value × Value)) (n i : Nat), (∀ x ∈ L, (Op.equal kt v x.1).run P w = .ok (f x.1) w) →
    (Instr.findAsking kt v (entsAt n L) i).run P w = .ok (fnd f L i) w
  | [], _, _, _ => rfl
  | x :: r, n, i, h => by
    have hx := h x (by simp)
    simp only [entsAt, Instr.findAsking, fnd, Sem.run_bind, hx, Result.andThen_ok]
    cases hf : f x.1
    · simp only [Bool.false_eq_true, if_false]
      exact asking_run r (n + 1) (i + 1) fun y hy => h y (by simp [hy])
    · simp
structure KeyRun (P : Program) (w : World) (kt : TypeId) (v : Value) (f : Value → Bool) (L : List (Value × Value)) : Prop where
  check : ∀ e, (Instr.checkKey e 10000 kt v).run P w = .ok () w
  find : (Instr.findKey kt v (entsAt 0 L)).run P w = .ok (fnd f L 0) w
theorem findNow_struct {fs : Array Field} {v : Value} : ∀ (es : List MapEntry), es ≠ [] → Instr.findNow (.struct fs) v es 0 = none
  | [], h => absurd rfl h
  | e :: r, _ => by simp [Instr.findNow, Instr.sameNow]
theorem KeyRun.struct {kt : TypeId} {fs : Array Field} {v : Value} {f : Value → Bool} {L : List (Value × Value)} (ht : P.underlying kt = some (.struct fs)) (hc : ∀ e, (Instr.checkKey e 10000 kt v).run P w = .ok () w)
    (hq : ∀ x ∈ L, (Op.equal kt v x.1).run P w = .ok (f x.1) w) : KeyRun P w kt v f L := by
  refine ⟨hc, ?_⟩
  unfold Instr.findKey
  rw [Sem.run_bind, run_underlying ht, Result.andThen_ok]
  cases L with
  | nil => rfl
  | cons x r =>
    rw [findNow_struct _ (by simp [entsAt])]
    exact asking_run (x :: r) 0 0 hq
theorem findNow_int {k : IntKind} {a : Int} {f : Value → Bool} : ∀ (L : List (Value × Value)) (n i : Nat), (∀ x ∈ L, ∃ b, x.1 = .int k b ∧ f (.int k b) = (a == b)) → Instr.findNow (.int k) (.int k a) (entsAt n L) i = some (fnd f L i)
  | [], _, _, _ => rfl
  | x :: r, n, i, h => by
    obtain ⟨b, hb, hf⟩ := h x (by simp)
    have ih := findNow_int (k := k) (a := a) r (n + 1) (i + 1) fun y hy => h y (by simp [hy])
    rw [entsAt, Instr.findNow, fnd, hb, hf]
    cases hab : (a == b)
    · simp only [Instr.sameNow, if_true, hab, Bool.false_eq_true, if_false]
      exact ih
    · simp only [Instr.sameNow, if_true, hab]
theorem KeyRun.int {kt : TypeId} {k : IntKind} {a : Int} {f : Value → Bool} {L : List (Value × Value)} (ht : P.underlying kt = some (.int k)) (hL : ∀ x ∈ L, ∃ b, x.1 = .int k b ∧ f (.int k b) = (a == b)) :
    KeyRun P w kt (.int k a) f L := by
  refine ⟨fun e => ?_, ?_⟩
  · rw [show (10000 : Nat) = 9999 + 1 from rfl]
    unfold Instr.checkKey
    simp only [Sem.run_bind, run_underlying ht, Result.andThen]
    rfl
  · unfold Instr.findKey
    rw [Sem.run_bind, run_underlying ht, Result.andThen_ok]
    simp only [findNow_int L 0 0 hL]
    rfl
theorem run_map_of {b : Nat} {L : List (Value × Value)} (hb : w.heap[b]? = some (mapObj L)) : (getObj b).run P w = .ok (mapObj L) w := by
  unfold mapObj at *
  simp [getObj, Sem.run, hb]
theorem run_look_ok {t kt e : TypeId} {b : Nat} {v z : Value} {f : Value → Bool} {L : List (Value × Value)} (ht : P.underlying t = some (.map kt e)) (hb : w.heap[b]? = some (mapObj L)) (hK : KeyRun P w kt v f L) (hz : (zeroValue e).run P w = .ok z w)
    (hv : ∀ x ∈ L, x.2 = z) : (Instr.lookup t (.map (some b)) v true).run P w = .ok (.tuple #[z, .bool (L.any fun x => f x.1)]) w := by
  have hg := run_map_of (P := P) hb
  unfold mapObj at hg
  have hf := hK.find
  simp only [Instr.lookup, Sem.run_bind, run_underlying ht, Result.andThen_ok, hg, Sem.run_pure, hK.check, hf]
  by_cases h : ∃ x ∈ L, f x.1 = true
  · obtain ⟨j, x, h1, h2, h3⟩ := fnd_some (i := 0) h
    have h4 : (L.any fun x => f x.1) = true := List.any_eq_true.2 h
    rw [h1, h4, hv x h2]
    simp
  · have h1 : ∀ x ∈ L, f x.1 = false := fun x hx => by
      cases hfx : f x.1
      · rfl
      · exact absurd ⟨x, hx, hfx⟩ h
    have h4 : (L.any fun x => f x.1) = false := by rw [List.any_eq_false]; intro x hx; rw [h1 x hx]; simp
    rw [fnd_none h1, h4]
    simp [hz]
theorem run_look {t kt e : TypeId} {b : Nat} {v z : Value} {f : Value → Bool} {L : List (Value × Value)} (ht : P.underlying t = some (.map kt e)) (hb : w.heap[b]? = some (mapObj L)) (hK : KeyRun P w kt v f L) (hz : (zeroValue e).run P w = .ok z w) :
    ((∀ x ∈ L, f x.1 = false) ∧ (Instr.lookup t (.map (some b)) v false).run P w = .ok z w) ∨ ∃ x ∈ L, f x.1 = true ∧ (Instr.lookup t (.map (some b)) v false).run P w = .ok x.2 w := by
  have hg := run_map_of (P := P) hb
  unfold mapObj at hg
  have hf := hK.find
  simp only [Instr.lookup, Sem.run_bind, run_underlying ht, Result.andThen_ok, hg, Sem.run_pure, hK.check, hf]
  by_cases h : ∃ x ∈ L, f x.1 = true
  · obtain ⟨j, x, h1, h2, h3⟩ := fnd_some (i := 0) h
    right
    exact ⟨x, h2, h3, by rw [h1]; simp⟩
  · have h1 : ∀ x ∈ L, f x.1 = false := fun x hx => by
      cases hfx : f x.1
      · rfl
      · exact absurd ⟨x, hx, hfx⟩ h
    left
    exact ⟨h1, by rw [fnd_none h1]; simp [hz]⟩
def putObj (w : World) (b : Nat) (o : Obj) : World := { w with heap := w.heap.setIfInBounds b o }
theorem putObj_same {b : Nat} (hb : b < w.heap.size) (o : Obj) : (putObj w b o).heap[b]? = some o := by simp [putObj, hb]
theorem putObj_other {b i : Nat} (h : i ≠ b) (o : Obj) : (putObj w b o).heap[i]? = w.heap[i]? := by
  unfold putObj
  simp [Ne.symm h]
theorem putObj_size (b : Nat) (o : Obj) : (putObj w b o).heap.size = w.heap.size := by simp [putObj]
theorem run_update_new {t kt e : TypeId} {b : Nat} {v x : Value} {f : Value → Bool} {L : List (Value × Value)} (ht : P.underlying t = some (.map kt e)) (hb : w.heap[b]? = some (mapObj L)) (hK : KeyRun P w kt v f L) (hn : ∀ x ∈ L, f x.1 = false) :
    (Instr.mapUpdate t (.map (some b)) v x).run P w = .ok () (putObj w b (mapObj (L ++ [(v, x)]))) := by
  have hg := run_map_of (P := P) hb
  unfold mapObj at hg
  have hf := hK.find
  rw [fnd_none hn] at hf
  have hb' := hb
  unfold mapObj at hb'
  simp only [Instr.mapUpdate, Sem.run_bind, run_underlying ht, Result.andThen_ok, hg, hK.check, hf, setObj, Sem.run, hb']
  unfold putObj mapObj
  rw [entsAt_snoc]
  simp
/-! ### walking over a map -/
def IterAt (w : World) (r b since : Nat) (seen : List Nat) (last : Nat) : Prop := w.heap[r]? = some (.mapIter (some b) since seen.toArray last)
theorem run_range_mapObj {t kt e : TypeId} {b : Nat} {L : List (Value × Value)} (ht : P.underlying t = some (.map kt e)) (hb : w.heap[b]? = some (mapObj L)) :
    (Instr.range t (.map (some b))).run P w = .ok (.pointer (some ⟨w.heap.size, 0, none⟩)) (w.alloc (.mapIter (some b) L.length #[] L.length)) := by
  unfold mapObj at hb
  exact run_range_map w t kt e b _ _ ht hb
theorem run_next_mapObj {r b since last : Nat} {seen : List Nat} {L : List (Value × Value)} (hr : IterAt w r b since seen last) (hb : w.heap[b]? = some (mapObj L)) (hl : seen ≠ [] → 1 ≤ last) (hs : since ≤ L.length) (ty : TypeId) :
    ((∀ i, i < since → i ∈ seen) ∧ ∃ w1, (w1 = w ∨ w1 = w.drew) ∧ (Instr.next (.pointer (some ⟨r, 0, none⟩)) false ty).run P w = .ok (.tuple #[.bool false]) w1) ∨
    ∃ i, ∃ h : i < L.length, i ∉ seen ∧ ∃ w1, (w1 = w ∨ w1 = w.drew) ∧ (Instr.next (.pointer (some ⟨r, 0, none⟩)) false ty).run P w = .ok (.tuple #[.bool true, L[i].1, L[i].2]) (putObj w1 r (.mapIter (some b) since (seen ++ [i]).toArray L.length)) := by
  unfold IterAt at hr
  have hb' := hb
  unfold mapObj at hb'
  have htest : (!seen.toArray.isEmpty && !(entsAt 0 L).toArray.isEmpty && (entsAt 0 L).toArray.all (fun x => decide (x.born ≥ last))) = false := by
    cases seen with
    | nil => simp
    | cons s0 sr =>
      have h1 := hl (by simp)
      cases L with
      | nil => simp [entsAt]
      | cons x rest =>
        have : ((entsAt 0 (x :: rest)).toArray.all (fun x => decide (x.born ≥ last))) = false := by
          rw [Array.all_eq_false']
          refine ⟨⟨x.1, x.2, 0⟩, by simp [entsAt], ?_⟩
          simp
          omega
        rw [this, Bool.and_false]
  simp only [Instr.next, getObj, Sem.run_bind, Sem.run, hr, hb', Result.andThen, htest, Bool.false_eq_true, if_false]
  have hmem : ∀ x, x ∈ Array.filter (fun e => !seen.toArray.contains e.born) (entsAt 0 L).toArray ↔ ∃ i, ∃ h : i < L.length, i ∉ seen ∧ x = ⟨L[i].1, L[i].2, i⟩ := by
    intro x
    constructor
    · intro hx
      have hx' := Array.mem_filter.1 hx
      have h1 : x ∈ entsAt 0 L := by simpa using hx'.1
      obtain ⟨i, hi, rfl⟩ := entsAt_mem h1
      refine ⟨i, hi, ?_, by simp⟩
      have := hx'.2
      simpa using this
    · rintro ⟨i, hi, hs', rfl⟩
      refine Array.mem_filter.2 ⟨?_, by simpa using hs'⟩
      have h1 := List.getElem_mem (l := entsAt 0 L) (n := i) (by rw [entsAt_length]; exact hi)
      rw [entsAt_get L 0 i hi, Nat.zero_add] at h1
      simpa using h1
  generalize Array.filter (fun e => !seen.toArray.contains e.born) (entsAt 0 L).toArray = A at hmem ⊢
  have hold : ∀ x, x ∈ Array.filter (fun x => decide (x.born < since)) A ↔ x ∈ A ∧ x.born < since := fun x => by simp
  have hnew : ∀ x, x ∈ Array.filter (fun x => decide (x.born ≥ since)) A ↔ x ∈ A ∧ since ≤ x.born := fun x => by simp
  generalize Array.filter (fun x => decide (x.born < since)) A = O at hold ⊢
  generalize Array.filter (fun x => decide (x.born ≥ since)) A = Nw at hnew ⊢
  generalize hC : (if O.isEmpty = true then #[none] else #[]) ++ Array.map some (O ++ Nw) = C
  have hCm : ∀ c, c ∈ C → (c = none ∧ O = #[]) ∨ ∃ x, c = some x ∧ x ∈ A := by
    intro c hc
    rw [← hC] at hc
    rcases Array.mem_append.1 hc with hc | hc
    · left
      by_cases hO : O.isEmpty = true
      · rw [if_pos hO] at hc
        exact ⟨by simpa using hc, by simpa using hO⟩
      · rw [if_neg hO] at hc
        simp at hc
    · right
      obtain ⟨x, hx, rfl⟩ := Array.mem_map.1 hc
      refine ⟨x, rfl, ?_⟩
      rcases Array.mem_append.1 hx with hx | hx
      · exact ((hold x).1 hx).1
      · exact ((hnew x).1 hx).1
  have hpos : 0 < C.size := by
    rw [← hC]
    by_cases hO : O.isEmpty = true
    · simp [hO]
      omega
    · have : O.size ≠ 0 := fun h => hO (by simp [Array.isEmpty, h])
      simp
      omega
  have hch : ∃ (j : Nat) (w1 : World), j < C.size ∧ (w1 = w ∨ w1 = w.drew) ∧ (choose (Question.mapNext C.size)).run P w = .ok j w1 := by
    by_cases hf : C.size ≤ 1
    · exact ⟨0, w, hpos, Or.inl rfl, by simp [choose, Sem.run, Question.forced, hf]⟩
    · exact ⟨_, w.drew, Nat.mod_lt _ (by omega), Or.inr rfl, by
        simp only [choose, Sem.run, Question.forced, decide_eq_true_eq, hf, if_false, Question.cut]
        rfl⟩
  obtain ⟨j, w1, hj, hal, hrun⟩ := hch
  rw [hrun]
  simp only
  have hCj : C[j]? = some C[j] := Array.getElem?_eq_getElem hj
  rcases hCm C[j] (Array.getElem_mem hj) with ⟨hc, hO⟩ | ⟨x, hc, hx⟩
  · left
    refine ⟨fun i hi => ?_, w1, hal, ?_⟩
    · by_cases hs' : i ∈ seen
      · exact hs'
      · have hiL : i < L.length := by omega
        have h1 := (hold ⟨L[i].1, L[i].2, i⟩).2 ⟨(hmem _).2 ⟨i, hiL, hs', rfl⟩, hi⟩
        rw [hO] at h1
        simp at h1
    · rw [hCj, hc]
      rfl
  · right
    obtain ⟨i, hi, hns, rfl⟩ := (hmem x).1 hx
    refine ⟨i, hi, hns, w1, hal, ?_⟩
    have hr1 : w1.heap[r]? = some (.mapIter (some b) since seen.toArray last) := by rcases hal with rfl | rfl <;> exact hr
    rw [hCj, hc]
    simp only [setObj, Sem.run_bind, Sem.run, hr1, Result.andThen]
    unfold putObj
    simp
theorem run_entry_mapObj {r b since : Nat} {seen : List Nat} {L : List (Value × Value)} {i : Nat} (hi : i < L.length) (hr : IterAt w r b since (seen ++ [i]) L.length) (hb : w.heap[b]? = some (mapObj L)) :
    (Instr.entry (.pointer (some ⟨r, 0, none⟩))).run P w = .ok (.tuple #[L[i].1, L[i].2]) w := by
  unfold IterAt at hr
  have hb' := hb
  unfold mapObj at hb'
  have hf : ∀ (L : List (Value × Value)) (n i : Nat) (h : i < L.length), List.find? (fun x => x.born == n + i) (entsAt n L) = some ⟨L[i].1, L[i].2, n + i⟩ := by
    intro L
    induction L with
    | nil => intro n i h; exact absurd h (by simp)
    | cons x rest ih =>
      intro n i h
      cases i with
      | zero => simp [entsAt]
      | succ i =>
        rw [entsAt, List.find?_cons_of_neg (by simp)]
        have := ih (n + 1) i (by simpa using h)
        rw [show n + 1 + i = n + (i + 1) by omega] at this
        exact this
  have h2 := hf L 0 i hi
  rw [Nat.zero_add] at h2
  have hback : (seen ++ [i]).toArray.back? = some i := by simp
  simp only [Instr.entry, getObj, Sem.run_bind, Sem.run, hr, hb', Result.andThen, hback, bne_self_eq_false, Bool.false_eq_true, if_false, List.find?_toArray, h2]
  rfl
end
end Go.Proofs.Ytgdcnndmdgcjlaa

/- What a grammar's nodes are, as a type of its own, and how one lies in memory. -/
namespace Go.Proofs.Ytgdcnndmdgcjlaa
open Go.RowKit
def reachN : Nat := 140737488355328
theorem ret_int {k : IntKind} {a b : Int} (h : a = b) : Ending.returned (.int k a) = .returned (.int k b) := by rw [h]
theorem ret_bool {a b : Bool} (h : a = b) : Ending.returned (.bool a) = .returned (.bool b) := by rw [h]
def sameB (a b : ByteArray) : Bool := a.toList == b.toList
inductive Nd where
  | mk (kind : Int) (name text : ByteArray) (set : List (Int × Int)) (subs : List Nd)
namespace Nd
def kind : Nd → Int | .mk k _ _ _ _ => k
def name : Nd → ByteArray | .mk _ n _ _ _ => n
def set : Nd → List (Int × Int) | .mk _ _ _ s _ => s
def subs : Nd → List Nd | .mk _ _ _ _ l => l
end Nd
def RangesAt (W : World) (lim : Nat) (a : Option Addr) (i : Nat) : List (Int × Int) → Prop
  | [] => True
  | x :: r => (∃ b off, a = some ⟨b, off, none⟩ ∧ b < lim ∧ W.cell? ⟨b, off + i * 2, none⟩ = some (.int .i32 x.1) ∧ W.cell? ⟨b, off + i * 2 + 1, none⟩ = some (.int .i32 x.2)) ∧ RangesAt W lim a (i + 1) r
mutual
def NodeAt (W : World) (lim : Nat) (c0 c1 c2 c3 c4 : Option Value) : Nd → Prop
  | .mk k nm tx set subs => (0 ≤ k ∧ k ≤ 255) ∧ nm.size ≤ reachN ∧ tx.size ≤ reachN ∧ c0 = some (.int .u8 k) ∧ c1 = some (.string nm) ∧ c2 = some (.string tx) ∧
      (∃ a cap, c3 = some (.slice a set.length cap) ∧ set.length ≤ reachN ∧ RangesAt W lim a 0 set) ∧ (∃ a cap, c4 = some (.slice a subs.length cap) ∧ subs.length ≤ reachN ∧ NodesAt W lim a 0 subs)
def NodesAt (W : World) (lim : Nat) (a : Option Addr) (i : Nat) : List Nd → Prop
  | [] => True
  | n :: r => (∃ b off, a = some ⟨b, off, none⟩ ∧ b < lim ∧ NodeAt W lim (W.cell? ⟨b, off + i * 5, none⟩) (W.cell? ⟨b, off + i * 5 + 1, none⟩) (W.cell? ⟨b, off + i * 5 + 2, none⟩) (W.cell? ⟨b, off + i * 5 + 3, none⟩) (W.cell? ⟨b, off + i * 5 + 4, none⟩) n) ∧ NodesAt W lim a (i + 1) r
end
theorem NodesAt.get {W : World} {lim : Nat} {a : Option Addr} : ∀ {l : List Nd} {i k : Nat} (_ : NodesAt W lim a i l) (hk : k < l.length),
    ∃ b off, a = some ⟨b, off, none⟩ ∧ b < lim ∧ NodeAt W lim (W.cell? ⟨b, off + (i + k) * 5, none⟩) (W.cell? ⟨b, off + (i + k) * 5 + 1, none⟩) (W.cell? ⟨b, off + (i + k) * 5 + 2, none⟩) (W.cell? ⟨b, off + (i + k) * 5 + 3, none⟩) (W.cell? ⟨b, off + (i + k) * 5 + 4, none⟩) l[k]
  | [], _, _, _, hk => absurd hk (by simp)
  | n :: r, i, 0, h, _ => by rw [NodesAt] at h; simpa using h.1
  | n :: r, i, k + 1, h, hk => by
    rw [NodesAt] at h
    obtain ⟨b, off, h1, h2, h3⟩ := NodesAt.get (k := k) h.2 (by simpa using hk)
    refine ⟨b, off, h1, h2, ?_⟩
    have e : i + 1 + k = i + (k + 1) := by omega
    rw [e] at h3
    simpa using h3
theorem RangesAt.keep {W W' : World} {lim : Nat} (hb : Below lim W W') {a : Option Addr} : ∀ {l : List (Int × Int)} {i : Nat}, RangesAt W lim a i l → RangesAt W' lim a i l
  | [], _, _ => trivial
  | x :: r, i, h => by
    obtain ⟨⟨b, off, h1, h2, h3, h4⟩, h5⟩ := h
    exact ⟨⟨b, off, h1, h2, by rw [hb.cell h2]; exact h3, by rw [hb.cell h2]; exact h4⟩, RangesAt.keep hb h5⟩
mutual
theorem NodeAt.keep {W W' : World} {lim : Nat} (hb : Below lim W W') {c0 c1 c2 c3 c4 : Option Value} : ∀ {n : Nd}, NodeAt W lim c0 c1 c2 c3 c4 n → NodeAt W' lim c0 c1 c2 c3 c4 n
  | .mk k nm tx set subs, h => by
    rw [NodeAt] at h ⊢
    obtain ⟨hk, h1, h2, h3, h4, h5, ⟨a, cap, h6, h6', h7⟩, a', cap', h8, h8', h9⟩ := h
    exact ⟨hk, h1, h2, h3, h4, h5, ⟨a, cap, h6, h6', h7.keep hb⟩, a', cap', h8, h8', NodesAt.keep hb h9⟩
theorem NodesAt.keep {W W' : World} {lim : Nat} (hb : Below lim W W') {a : Option Addr} : ∀ {l : List Nd} {i : Nat}, NodesAt W lim a i l → NodesAt W' lim a i l
  | [], _, _ => by rw [NodesAt]; trivial
  | n :: r, i, h => by
    rw [NodesAt] at h ⊢
    obtain ⟨⟨b, off, h1, h2, h3⟩, h5⟩ := h
    refine ⟨⟨b, off, h1, h2, ?_⟩, NodesAt.keep hb h5⟩
    have e : ∀ o, W'.cell? ⟨b, o, none⟩ = W.cell? ⟨b, o, none⟩ := fun o => hb.cell h2
    rw [e, e, e, e, e]
    exact NodeAt.keep hb h3
end
theorem RangesAt.mono {W : World} {lim lim' : Nat} (hl : lim ≤ lim') {a : Option Addr} : ∀ {l : List (Int × Int)} {i : Nat}, RangesAt W lim a i l → RangesAt W lim' a i l
  | [], _, _ => trivial
  | x :: r, i, h => by
    obtain ⟨⟨b, off, h1, h2, h3, h4⟩, h5⟩ := h
    exact ⟨⟨b, off, h1, by omega, h3, h4⟩, RangesAt.mono hl h5⟩
mutual
theorem NodeAt.mono {W : World} {lim lim' : Nat} (hl : lim ≤ lim') {c0 c1 c2 c3 c4 : Option Value} : ∀ {n : Nd}, NodeAt W lim c0 c1 c2 c3 c4 n → NodeAt W lim' c0 c1 c2 c3 c4 n
  | .mk k nm tx set subs, h => by
    rw [NodeAt] at h ⊢
    obtain ⟨hk, h1, h2, h3, h4, h5, ⟨a, cap, h6, h6', h7⟩, a', cap', h8, h8', h9⟩ := h
    exact ⟨hk, h1, h2, h3, h4, h5, ⟨a, cap, h6, h6', h7.mono hl⟩, a', cap', h8, h8', NodesAt.mono hl h9⟩
theorem NodesAt.mono {W : World} {lim lim' : Nat} (hl : lim ≤ lim') {a : Option Addr} : ∀ {l : List Nd} {i : Nat}, NodesAt W lim a i l → NodesAt W lim' a i l
  | [], _, _ => by rw [NodesAt]; trivial
  | n :: r, i, h => by
    rw [NodesAt] at h ⊢
    obtain ⟨⟨b, off, h1, h2, h3⟩, h5⟩ := h
    exact ⟨⟨b, off, h1, by omega, NodeAt.mono hl h3⟩, NodesAt.mono hl h5⟩
end
theorem NodeAt.vals {W : World} {lim : Nat} {c0 c1 c2 c3 c4 : Option Value} {n : Nd} (h : NodeAt W lim c0 c1 c2 c3 c4 n) :
    ∃ v0 v1 v2 v3 v4, c0 = some v0 ∧ c1 = some v1 ∧ c2 = some v2 ∧ c3 = some v3 ∧ c4 = some v4 ∧ NodeAt W lim (some v0) (some v1) (some v2) (some v3) (some v4) n := by
  cases n with
  | mk k nm tx set subs =>
    have h' := h
    rw [NodeAt] at h
    obtain ⟨hk, h1, h2, rfl, rfl, rfl, ⟨a, cap, rfl, h6', h7⟩, a', cap', rfl, h8', h9⟩ := h
    exact ⟨_, _, _, _, _, rfl, rfl, rfl, rfl, rfl, h'⟩
theorem NodeAt.forms {W : World} {lim : Nat} {v0 v1 v2 v3 v4 : Value} {n : Nd} (h : NodeAt W lim (some v0) (some v1) (some v2) (some v3) (some v4) n) :
    ∃ k nm tx sa sl sc na nl nc, v0 = .int .u8 k ∧ v1 = .string nm ∧ v2 = .string tx ∧ v3 = .slice sa sl sc ∧ v4 = .slice na nl nc := by
  cases n with
  | mk k nm tx set subs =>
    rw [NodeAt] at h
    obtain ⟨hk, h1, h2, h3, h4, h5, ⟨a, cap, h6, h6', h7⟩, a', cap', h8, h8', h9⟩ := h
    exact ⟨k, nm, tx, a, _, cap, a', _, cap', Option.some.inj h3, Option.some.inj h4, Option.some.inj h5, Option.some.inj h6, Option.some.inj h8⟩
theorem Nd.ind {P : Nd → Prop} (h : ∀ k nm tx set subs, (∀ i (hi : i < subs.length), P subs[i]) → P (.mk k nm tx set subs)) : ∀ n, P n
  | .mk k nm tx set subs => h k nm tx set subs fun i hi => Nd.ind h subs[i]
termination_by n => SizeOf.sizeOf n
decreasing_by
  have := List.sizeOf_lt_of_mem (List.getElem_mem hi)
  simp only [Nd.mk.sizeOf_spec]
  omega
end Go.Proofs.Ytgdcnndmdgcjlaa

/- A net in memory; a search of ways in memory: who lies where, and what stays. -/
namespace Go.Proofs.Ytgdcnndmdgcjlaa
open Go.RowKit
/-! ### a net -/
def IntsAt (W : World) (lim : Nat) (a : Option Addr) (l : List Int) : Prop := ∀ k (h : k < l.length), ∃ b off, a = some ⟨b, off, none⟩ ∧ b < lim ∧ W.cell? ⟨b, off + k, none⟩ = some (.int .i64 l[k])
def EdgesAt (W : World) (lim : Nat) (a : Option Addr) (l : List Edg) : Prop := ∀ k (h : k < l.length), ∃ b off, a = some ⟨b, off, none⟩ ∧ b < lim ∧
  W.cell? ⟨b, off + k * 3, none⟩ = some (.int .u8 l[k].kind) ∧ W.cell? ⟨b, off + k * 3 + 1, none⟩ = some (.int .i64 l[k].what) ∧ W.cell? ⟨b, off + k * 3 + 2, none⟩ = some (.int .i64 l[k].to)
def SttAt (W : World) (lim : Nat) (c0 c1 c2 : Option Value) (s : Sta) : Prop :=
  c0 = some (.int .i64 s.rule) ∧ (∃ a cap, c1 = some (.slice a s.edges.length cap) ∧ EdgesAt W lim a s.edges) ∧ ∃ a cap, c2 = some (.slice a s.ends.length cap) ∧ IntsAt W lim a s.ends
def StatesAt (W : World) (lim : Nat) (a : Option Addr) (l : List Sta) : Prop := ∀ k (h : k < l.length), ∃ b off, a = some ⟨b, off, none⟩ ∧ b < lim ∧
  SttAt W lim (W.cell? ⟨b, off + k * 3, none⟩) (W.cell? ⟨b, off + k * 3 + 1, none⟩) (W.cell? ⟨b, off + k * 3 + 2, none⟩) l[k]
def IntsV (W : World) (lim : Nat) (v : Value) (l : List Int) : Prop := ∃ a cap, v = .slice a l.length cap ∧ IntsAt W lim a l
structure NetAt (W : World) (lim : Nat) (v0 v1 v2 v3 v4 : Value) (N : Net) : Prop where
  states : ∃ a cap, v0 = .slice a N.states.length cap ∧ StatesAt W lim a N.states
  starts : IntsV W lim v1 N.starts
  stops : IntsV W lim v2 N.stops
  preds : IntsV W lim v3 N.preds
  decisions : IntsV W lim v4 N.decisions
section
variable {W W' : World} {lim : Nat}
theorem IntsAt.keep (hb : Below lim W W') {a : Option Addr} {l : List Int} (h : IntsAt W lim a l) : IntsAt W' lim a l := fun k hk => by
  obtain ⟨b, off, h1, h2, h3⟩ := h k hk
  exact ⟨b, off, h1, h2, by rw [hb.cell h2]; exact h3⟩
theorem EdgesAt.keep (hb : Below lim W W') {a : Option Addr} {l : List Edg} (h : EdgesAt W lim a l) : EdgesAt W' lim a l := fun k hk => by
  obtain ⟨b, off, h1, h2, h3, h4, h5⟩ := h k hk
  exact ⟨b, off, h1, h2, by rw [hb.cell h2]; exact h3, by rw [hb.cell h2]; exact h4, by rw [hb.cell h2]; exact h5⟩
theorem SttAt.keep (hb : Below lim W W') {c0 c1 c2 : Option Value} {s : Sta} (h : SttAt W lim c0 c1 c2 s) : SttAt W' lim c0 c1 c2 s := by
  obtain ⟨h1, ⟨a, cap, h2, h3⟩, a', cap', h4, h5⟩ := h
  exact ⟨h1, ⟨a, cap, h2, h3.keep hb⟩, a', cap', h4, h5.keep hb⟩
theorem StatesAt.keep (hb : Below lim W W') {a : Option Addr} {l : List Sta} (h : StatesAt W lim a l) : StatesAt W' lim a l := fun k hk => by
  obtain ⟨b, off, h1, h2, h3⟩ := h k hk
  have e : ∀ o, W'.cell? ⟨b, o, none⟩ = W.cell? ⟨b, o, none⟩ := fun o => hb.cell h2
  exact ⟨b, off, h1, h2, by rw [e, e, e]; exact h3.keep hb⟩
theorem IntsV.keep (hb : Below lim W W') {v : Value} {l : List Int} (h : IntsV W lim v l) : IntsV W' lim v l := by
  obtain ⟨a, cap, h1, h2⟩ := h
  exact ⟨a, cap, h1, h2.keep hb⟩
theorem NetAt.keep (hb : Below lim W W') {v0 v1 v2 v3 v4 : Value} {N : Net} (h : NetAt W lim v0 v1 v2 v3 v4 N) : NetAt W' lim v0 v1 v2 v3 v4 N := by
  obtain ⟨⟨a, cap, h1, h2⟩, h3, h4, h5, h6⟩ := h
  exact ⟨⟨a, cap, h1, h2.keep hb⟩, h3.keep hb, h4.keep hb, h5.keep hb, h6.keep hb⟩
theorem IntsAt.mono {lim' : Nat} (hl : lim ≤ lim') {a : Option Addr} {l : List Int} (h : IntsAt W lim a l) : IntsAt W lim' a l := fun k hk => by
  obtain ⟨b, off, h1, h2, h3⟩ := h k hk
  exact ⟨b, off, h1, by omega, h3⟩
theorem IntsV.mono {lim' : Nat} (hl : lim ≤ lim') {v : Value} {l : List Int} (h : IntsV W lim v l) : IntsV W lim' v l := by
  obtain ⟨a, cap, h1, h2⟩ := h
  exact ⟨a, cap, h1, h2.mono hl⟩
theorem EdgesAt.mono {lim' : Nat} (hl : lim ≤ lim') {a : Option Addr} {l : List Edg} (h : EdgesAt W lim a l) : EdgesAt W lim' a l := fun k hk => by
  obtain ⟨b, off, h1, h2, h3⟩ := h k hk
  exact ⟨b, off, h1, by omega, h3⟩
theorem SttAt.mono {lim' : Nat} (hl : lim ≤ lim') {c0 c1 c2 : Option Value} {s : Sta} (h : SttAt W lim c0 c1 c2 s) : SttAt W lim' c0 c1 c2 s := by
  obtain ⟨h1, ⟨a, cap, h2, h3⟩, a', cap', h4, h5⟩ := h
  exact ⟨h1, ⟨a, cap, h2, h3.mono hl⟩, a', cap', h4, h5.mono hl⟩
theorem NetAt.mono {lim' : Nat} (hl : lim ≤ lim') {v0 v1 v2 v3 v4 : Value} {N : Net} (h : NetAt W lim v0 v1 v2 v3 v4 N) : NetAt W lim' v0 v1 v2 v3 v4 N := by
  obtain ⟨⟨a, cap, h1, h2⟩, h3, h4, h5, h6⟩ := h
  refine ⟨⟨a, cap, h1, fun k hk => ?_⟩, h3.mono hl, h4.mono hl, h5.mono hl, h6.mono hl⟩
  obtain ⟨b, off, h7, h8, h9⟩ := h2 k hk
  exact ⟨b, off, h7, by omega, h9.mono hl⟩
end
/-! ### all blocks but some stay -/
structure But (F : Nat → Prop) (w w' : World) : Prop where
  os : w'.os = w.os
  tape : w'.tape = w.tape
  output : w'.output = w.output
  size : w.heap.size ≤ w'.heap.size
  block : ∀ k, k < w.heap.size → ¬F k → w'.heap[k]? = w.heap[k]?
theorem But.refl (F : Nat → Prop) (w : World) : But F w w := ⟨rfl, rfl, rfl, Nat.le_refl _, fun _ _ _ => rfl⟩
theorem But.trans {F G : Nat → Prop} {a b c : World} (h : But F a b) (k : But G b c) (hG : ∀ i, i < a.heap.size → G i → F i) : But F a c :=
  ⟨k.os.trans h.os, k.tape.trans h.tape, k.output.trans h.output, Nat.le_trans h.size k.size, fun i hi hn => (k.block i (Nat.lt_of_lt_of_le hi h.size) (fun g => hn (hG i hi g))).trans (h.block i hi hn)⟩
theorem But.of_grew {F : Nat → Prop} {a b : World} (h : Grew a b) : But F a b := ⟨h.os, h.tape, h.output, h.size, fun k hk _ => h.block k hk⟩
theorem But.put {w : World} {b : Nat} {o : Obj} {F : Nat → Prop} (hb : F b) : But F w (putObj w b o) :=
  ⟨rfl, rfl, rfl, by rw [putObj_size]; exact Nat.le_refl _, fun k _ hn => putObj_other (fun e => hn (by rw [e]; exact hb)) o⟩
theorem But.below {F : Nat → Prop} {w w' : World} {lim : Nat} (h : But F w w') (hl : lim ≤ w.heap.size) (hF : ∀ k, F k → lim ≤ k) : Below lim w w' :=
  ⟨h.os, h.tape, h.output, h.size, fun k hk => h.block k (by omega) (fun hf => by have := hF k hf; omega)⟩
theorem But.drew {F : Nat → Prop} {a b : World} (h : But F a b) : But F a b.drew := ⟨h.os, h.tape, h.output, h.size, h.block⟩
theorem But.owns {F : Nat → Prop} {w w' : World} {b T : Nat} {cs : List Value} (h : But F w w') (ho : Owns w b cs T) (hn : ¬F b) : Owns w' b cs T := by
  have := ho.lt
  unfold Owns at *
  rw [h.block b this hn]; exact ho
theorem setCell_put {w : World} {b T i : Nat} {cs : List Value} (h : Owns w b cs T) (v : Value) : w.setCell ⟨b, i, none⟩ v = putObj w b (.cells (cs.set i v).toArray T (0, 0)) := by
  have hlt := h.lt
  unfold Owns at h
  unfold World.setCell putObj
  have hget : w.heap[b] = .cells cs.toArray T (0, 0) := by
    have := Array.getElem?_eq_getElem hlt
    rw [h] at this
    exact (Option.some.inj this).symm
  congr 1
  apply Array.ext
  · simp
  · intro j h1 h2
    by_cases e : j = b
    · subst e
      simp [Array.getElem_modify, hget]
    · rw [Array.getElem_setIfInBounds_ne (by simpa using h1) (Ne.symm e)]
      simp [Array.getElem_modify, Ne.symm e]
/-! ### a search -/
inductive Role where
  | srch
  | cmap
  | walk (κ : Key)
  | seen (κ : Key)
  | call (c : Nat × Nat)
  | ends (c : Nat × Nat)
  | waits (c : Nat × Nat)
structure Env where
  N : Net
  w : List Int
  n0 : Value
  n1 : Value
  n2 : Value
  n3 : Value
  n4 : Value
  wv : Value
  lim : Nat
  p0 : Pl
  over : Int
structure St where
  loc : Role → Nat
  calls : List (Nat × Nat)
  seen : Key → List Pl
  ends : Nat × Nat → List Nat
  waits : Nat × Nat → List (Key × Nat)
  todo : List (Key × Pl)
  tv : Value
  all : Bool
def ptrV (b : Nat) : Value := .pointer (some ⟨b, 0, none⟩)
def plV (p : Pl) : Value := .agg #[.int .i64 p.1, .int .i64 p.2]
def unitV : Value := .agg #[]
namespace St
def has (S : St) : Key → Prop
  | none => True
  | some c => c ∈ S.calls
def ex (S : St) : Role → Prop
  | .srch => True
  | .cmap => True
  | .walk κ => S.has κ
  | .seen κ => S.has κ
  | .call c => c ∈ S.calls
  | .ends c => c ∈ S.calls
  | .waits c => c ∈ S.calls
def ownV (S : St) : Key → Value
  | none => .pointer none
  | some c => ptrV (S.loc (.call c))
def waitV (S : St) (x : Key × Nat) : Value := .agg #[ptrV (S.loc (.walk x.1)), .int .i64 x.2]
def todoCells (S : St) : List Value := S.todo.flatMap fun x => [ptrV (S.loc (.walk x.1)), .int .i64 x.2.1, .int .i64 x.2.2]
def seenL (S : St) (κ : Key) : List (Value × Value) := (S.seen κ).map fun p => (plV p, unitV)
def endsL (S : St) (c : Nat × Nat) : List (Value × Value) := (S.ends c).map fun (i : Nat) => (.int .i64 i, unitV)
def waitsL (S : St) (c : Nat × Nat) : List (Value × Value) := (S.waits c).map fun x => (S.waitV x, unitV)
def callsL (S : St) : List (Value × Value) := S.calls.map fun c => (plV c, ptrV (S.loc (.call c)))
def srchL (S : St) (E : Env) : List Value := [E.n0, E.n1, E.n2, E.n3, E.n4, E.wv, .map (some (S.loc .cmap)), S.tv, .bool S.all]
def walkL (S : St) (E : Env) (κ : Key) : List Value := [.map (some (S.loc (.seen κ))), S.ownV κ, .int .i64 (match κ with | none => 0 | some c => E.N.stops.getD c.1 0)]
def callL (S : St) (c : Nat × Nat) : List Value := [.map (some (S.loc (.ends c))), .map (some (S.loc (.waits c)))]
def obj (S : St) (E : Env) : Role → Obj
  | .srch => .cells (S.srchL E).toArray 93 (0, 0)
  | .cmap => mapObj S.callsL
  | .walk κ => .cells (S.walkL E κ).toArray 75 (0, 0)
  | .seen κ => mapObj (S.seenL κ)
  | .call c => .cells (S.callL c).toArray 147 (0, 0)
  | .ends c => mapObj (S.endsL c)
  | .waits c => mapObj (S.waitsL c)
def mine (S : St) (b : Nat) : Prop := (∃ r, S.ex r ∧ S.loc r = b) ∨ S.tv.ownBlock = some b
end St
structure Laid (E : Env) (W : World) : Prop where
  net : NetAt W E.lim E.n0 E.n1 E.n2 E.n3 E.n4 E.N
  toks : IntsV W E.lim E.wv E.w
theorem Laid.keep {E : Env} {W W' : World} (h : Laid E W) (hb : Below E.lim W W') : Laid E W' := ⟨h.net.keep hb, h.toks.keep hb⟩
structure Rep (E : Env) (S : St) (w : World) : Prop where
  obj : ∀ r, S.ex r → w.heap[S.loc r]? = some (S.obj E r)
  lo : ∀ r, S.ex r → E.lim ≤ S.loc r
  inj : ∀ r r', S.ex r → S.ex r' → S.loc r = S.loc r' → r = r'
  row : looseRow w E.lim 120 3 S.tv S.todo.length S.todoCells
structure Frm (S S' : St) (w w' : World) : Prop where
  but : But S.mine w w'
  new : ∀ b, S'.mine b → S.mine b ∨ w.heap.size ≤ b
theorem Frm.trans {S S' S'' : St} {a b c : World} (h : Frm S S' a b) (k : Frm S' S'' b c) : Frm S S'' a c :=
  ⟨h.but.trans k.but fun i hi hm => (h.new i hm).resolve_right (by omega), fun i hm => by
    rcases k.new i hm with h1 | h1
    · exact h.new i h1
    · exact .inr (Nat.le_trans h.but.size h1)⟩
theorem Frm.grew {S : St} {a b : World} (h : Grew a b) : Frm S S a b := ⟨But.of_grew h, fun _ hm => .inl hm⟩
theorem Frm.owns {S S' : St} {w w' : World} {b T : Nat} {cs : List Value} (h : Frm S S' w w') (ho : Owns w b cs T) (hn : ¬S.mine b) : Owns w' b cs T ∧ ¬S'.mine b :=
  ⟨h.but.owns ho hn, fun hm => by have := ho.lt; rcases h.new b hm with h1 | h1; exact hn h1; omega⟩
section
variable {E : Env} {S S' : St} {w w' : World}
theorem obj_step (S : St) (E : Env) (r : Role) : ∀ cs f, S.obj E r ≠ .cells cs 120 f := by
  intro cs f h
  cases r <;> simp [St.obj, mapObj] at h
theorem Rep.lt (h : Rep E S w) {r : Role} (hr : S.ex r) : S.loc r < w.heap.size := (Array.getElem?_eq_some_iff.1 (h.obj r hr)).1
theorem row_own {base e size n : Nat} {v : Value} {xs : List Value} (h : looseRow w base e size v n xs) {g : Nat} (hg : v.ownBlock = some g) : base ≤ g ∧ ∃ cs, w.heap[g]? = some (.cells cs e (0, 0)) := by
  rcases h.2 with ⟨rfl, _⟩ | ⟨g', cap, cur, rfl, h1, h2, _⟩
  · simp [Value.ownBlock] at hg
  · simp only [Value.ownBlock, Option.some.injEq] at hg
    subst hg
    exact ⟨h1, cur, h2⟩
theorem Rep.far (h : Rep E S w) {r : Role} (hr : S.ex r) : S.tv.ownBlock ≠ some (S.loc r) := by
  intro e
  obtain ⟨_, cs, h2⟩ := row_own h.row e
  rw [h.obj r hr] at h2
  exact obj_step S E r cs (0, 0) (Option.some.inj h2)
theorem Rep.mine_lo (h : Rep E S w) {b : Nat} (hb : S.mine b) : E.lim ≤ b := by
  rcases hb with ⟨r, hr, rfl⟩ | hb
  · exact h.lo r hr
  · exact (row_own h.row hb).1
theorem Rep.mine_lt (h : Rep E S w) {b : Nat} (hb : S.mine b) : b < w.heap.size := by
  rcases hb with ⟨r, hr, rfl⟩ | hb
  · exact h.lt hr
  · obtain ⟨_, cs, h2⟩ := row_own h.row hb
    exact (Array.getElem?_eq_some_iff.1 h2).1
theorem Rep.lim_le (h : Rep E S w) : E.lim ≤ w.heap.size := by
  have h1 := h.lo .srch trivial
  have h2 := h.lt (r := .srch) trivial
  omega
theorem Frm.below (h : Frm S S' w w') (hR : Rep E S w) : Below E.lim w w' := h.but.below hR.lim_le fun _ hk => hR.mine_lo hk
theorem Rep.notmine (h : Rep E S w) {b : Nat} (hb : w.heap.size ≤ b) : ¬S.mine b := fun hm => by have := h.mine_lt hm; omega
theorem row_but {base e size n : Nat} {v : Value} {xs : List Value} (h : looseRow w base e size v n xs) {F : Nat → Prop} (hb : But F w w') (hn : ∀ g, v.ownBlock = some g → ¬F g) : looseRow w' base e size v n xs := by
  refine ⟨h.1, ?_⟩
  rcases h.2 with h2 | ⟨g, cap, cur, rfl, h1, h2, h3⟩
  · exact .inl h2
  · exact .inr ⟨g, cap, cur, rfl, h1, by rw [hb.block g (Array.getElem?_eq_some_iff.1 h2).1 (hn g rfl)]; exact h2, h3⟩
theorem Rep.but (h : Rep E S w) {F : Nat → Prop} (hb : But F w w') (hn : ∀ b, S.mine b → ¬F b) : Rep E S w' :=
  ⟨fun r hr => by rw [hb.block _ (h.lt hr) (hn _ (.inl ⟨r, hr, rfl⟩))]; exact h.obj r hr, h.lo, h.inj, row_but h.row hb fun g hg => hn g (.inr hg)⟩
theorem Rep.grew (h : Rep E S w) (hg : Grew w w') : Rep E S w' := h.but (F := fun _ => False) (But.of_grew hg) fun _ _ => id
theorem Rep.drew (h : Rep E S w) : Rep E S w.drew := ⟨h.obj, h.lo, h.inj, h.row⟩
theorem Rep.put (h : Rep E S w) {r : Role} (hr : S.ex r) (hloc : S'.loc = S.loc) (hex : ∀ r, S'.ex r ↔ S.ex r) (htv : S'.tv = S.tv) (htodo : S'.todo = S.todo) (hob : ∀ r', r' ≠ r → S'.obj E r' = S.obj E r') :
    Rep E S' (putObj w (S.loc r) (S'.obj E r)) ∧ Frm S S' w (putObj w (S.loc r) (S'.obj E r)) := by
  have hm : ∀ b, S'.mine b → S.mine b := by
    intro b hb
    rcases hb with ⟨r', hr', rfl⟩ | hb
    · exact .inl ⟨r', (hex r').1 hr', by rw [hloc]⟩
    · exact .inr (by rw [← htv]; exact hb)
  refine ⟨⟨fun r' hr' => ?_, fun r' hr' => ?_, fun a b ha hb e => ?_, ?_⟩, But.put (.inl ⟨r, hr, rfl⟩), fun b hb => .inl (hm b hb)⟩
  · by_cases e : r' = r
    · subst e
      rw [hloc]
      exact putObj_same (h.lt hr) _
    · rw [hloc, putObj_other (fun e2 => e (h.inj _ _ ((hex r').1 hr') hr e2)), hob r' e]
      exact h.obj r' ((hex r').1 hr')
  · rw [hloc]; exact h.lo r' ((hex r').1 hr')
  · rw [hloc] at e
    exact h.inj a b ((hex a).1 ha) ((hex b).1 hb) e
  · have h1 : S'.todoCells = S.todoCells := by unfold St.todoCells; rw [htodo, hloc]
    rw [htv, htodo, h1]
    exact row_but (F := fun b => b = S.loc r) h.row (But.put rfl) fun g hg e => h.far hr (by rw [hg, e])
end
end Go.Proofs.Ytgdcnndmdgcjlaa

/- An append in a region that draws its order: whenever it comes, its row's block is written once, or a new one is made. -/
namespace Go.Proofs.Ytgdcnndmdgcjlaa
open Go.RowKit
structure Once (F : Option Nat) (N : Obj) (w w' : World) : Prop where
  but : But (fun b => F = some b) w w'
  row : ∀ b, F = some b → w'.heap[b]? = w.heap[b]? ∨ w'.heap[b]? = some N
theorem Once.rel (F : Option Nat) (N : Obj) : Rel (Once F N) where
  refl w := ⟨But.refl _ w, fun _ _ => .inl rfl⟩
  trans h k := ⟨h.but.trans k.but fun _ _ h => h, fun b hb => by
    rcases k.row b hb with h1 | h1
    · rw [h1]; exact h.row b hb
    · exact .inr h1⟩
  drew w := ⟨⟨rfl, rfl, rfl, Nat.le_refl _, fun _ _ _ => rfl⟩, fun _ _ => .inl rfl⟩
section
variable {F : Option Nat} {N : Obj} {w w' : World}
theorem Once.grew (h : Grew w w') (hF : ∀ b, F = some b → b < w.heap.size) : Once F N w w' := ⟨But.of_grew h, fun b hb => .inl (h.block b (hF b hb))⟩
theorem Once.cell (h : Once F N w w') {a : Addr} {v : Value} (hc : w.cell? a = some v) (hn : F ≠ some a.block) : w'.cell? a = some v := by
  have hlt : a.block < w.heap.size := by
    rcases Nat.lt_or_ge a.block w.heap.size with hl | hl
    · exact hl
    · simp [World.cell?, Array.getElem?_eq_none hl] at hc
  rw [World.cell?_of_block (h.but.block _ hlt hn)]
  exact hc
theorem Once.owns (h : Once F N w w') {b T : Nat} {cs : List Value} (hc : Owns w b cs T) (hn : F ≠ some b) : Owns w' b cs T := h.but.owns hc hn
theorem Once.size (h : Once F N w w') : w.heap.size ≤ w'.heap.size := h.but.size
theorem loose_same {base e size n g n' cap : Nat} {xs : List Value} (h : looseRow w base e size (.slice (some ⟨g, 0, none⟩) n cap) n' xs) (hh : w'.heap[g]? = w.heap[g]?) : looseRow w' base e size (.slice (some ⟨g, 0, none⟩) n cap) n' xs := by
  refine ⟨h.1, h.2.imp id ?_⟩
  rintro ⟨b, cap', cur, h1, h2, h3, h4⟩
  have hb : b = g := by cases h1; rfl
  subst hb
  exact ⟨b, cap', cur, h1, h2, hh.trans h3, h4⟩
def AppR (F : Option Nat) (N : Obj) (S base e size n : Nat) (xs : List Value) (v : Value) (w : World) : Prop :=
  ∃ g cap, v = .slice (some ⟨g, 0, none⟩) n cap ∧ looseRow w base e size v n xs ∧ g < w.heap.size ∧ ((F = some g ∧ w.heap[g]? = some N) ∨ (F = none ∧ S ≤ g))
theorem AppR.keep {S base e size n : Nat} {xs : List Value} {v : Value} (h : Once F N w w') (hr : AppR F N S base e size n xs v w) : AppR F N S base e size n xs v w' := by
  obtain ⟨g, cap, rfl, h1, h2, h3⟩ := hr
  rcases h3 with ⟨hF, h4⟩ | ⟨hF, h4⟩
  · have hh : w'.heap[g]? = some N := by
      rcases h.row g hF with h5 | h5
      · rw [h5]; exact h4
      · exact h5
    exact ⟨g, cap, rfl, loose_same h1 (hh.trans h4.symm), Nat.lt_of_lt_of_le h2 h.size, .inl ⟨hF, hh⟩⟩
  · exact ⟨g, cap, rfl, loose_same h1 (h.but.block g h2 (by rw [hF]; simp)), Nat.lt_of_lt_of_le h2 h.size, .inr ⟨hF, h4⟩⟩
end
theorem put_again0 (A news D : List Value) : (A ++ news ++ D).take A.length ++ news ++ (A ++ news ++ D).drop (A.length + news.length) = A ++ news ++ D := by
  rw [show A.length + news.length = (A ++ news).length by simp, List.drop_left, List.append_assoc A news D, List.take_left, List.append_assoc]
theorem put_again (cur : List Value) (news : List Value) (k : Nat) (hk : k + news.length ≤ cur.length) :
    (cur.take k ++ news ++ cur.drop (k + news.length)).take k ++ news ++ (cur.take k ++ news ++ cur.drop (k + news.length)).drop (k + news.length) = cur.take k ++ news ++ cur.drop (k + news.length) := by
  have h1 : (cur.take k).length = k := by rw [List.length_take]; omega
  have := put_again0 (cur.take k) news (cur.drop (k + news.length))
  rw [h1] at this
  exact this
theorem append_once {P : Program} (w0 : World) (t ty : TypeId) (base : Nat) (e : TypeId) (i : TypeInfo) (z : Value) (size bytes : Nat) (ht : P.underlying t = some (.slice e)) (hi : P.info? e = some i) (hz : i.zero = some z)
    (hsize : i.size = size) (hby : i.bytes = bytes) (hzs : z.cells.size = size)
    (v : Value) (n : Nat) (xs : List Value) (hown : looseRow w0 base e size v n xs)
    (m : Nat) (news : List Value) (hl : news.length = m * size) (h1 : ∀ u ∈ news, u.oneCell' = true)
    (hm : 0 < m) (h63 : n + m ≤ maxLen) (hbytes : (n + m) * bytes ≤ 140737488355328) (hbase : base ≤ w0.heap.size) :
    ∃ F N, (∀ b, F = some b → v.ownBlock = some b ∧ b < w0.heap.size) ∧ ∀ w ad c, Once F N w0 w → (∀ j u, news[j]? = some u → w.cell? (ad.add j) = some u) →
      ∃ r w', (Builtin.append_ #[t, t] ty #[v, .slice (some ad) m c]).run P w = .ok r w' ∧ Once F N w w' ∧ AppR F N w0.heap.size base e size (n + m) (xs ++ news) r w' := by
  subst hsize
  subst hby
  have hsmall : n + m ≤ 9223372036854775807 := by simp only [maxLen] at h63; omega
  have hlen : (xs ++ news).length = (n + m) * i.size := by rw [List.length_append, hown.1, hl, Nat.add_mul]
  have grown : ∀ (w : World), base ≤ w.heap.size → w0.heap.size ≤ w.heap.size → ∀ (old : Nat), old < n + m → ∀ N,
      Once none N w (w.drew.alloc (.cells (xs.toArray ++ news.toArray ++ Builtin.zeroCells z.cells (grownCap w (n + m) old e - (n + m))) e)) ∧
      AppR none N w0.heap.size base e i.size (n + m) (xs ++ news) (.slice (some ⟨w.heap.size, 0, none⟩) (n + m) (grownCap w (n + m) old e)) (w.drew.alloc (.cells (xs.toArray ++ news.toArray ++ Builtin.zeroCells z.cells (grownCap w (n + m) old e - (n + m))) e)) := by
    intro w hbw hw0 old ho N
    have hge := grownCap_ge w (n + m) old e
    have hcm : grownCap w (n + m) old e ≤ maxLen := grownCap_le_maxLen w (n + m) old e h63
    refine ⟨⟨⟨rfl, rfl, rfl, by simp, fun k hk _ => (Below.refl _ w.drew).alloc (Nat.le_refl _) _ |>.block k hk⟩, fun b hb => by cases hb⟩, w.heap.size, _, rfl, ⟨hlen, .inr ⟨w.heap.size, _, _, rfl, hbw, heap_alloc_new w.drew _, hge, hcm, ?_, ?_⟩⟩, by simp, .inr ⟨rfl, hw0⟩⟩
    · apply Nat.le_of_eq
      simp only [Array.size_append, List.size_toArray, size_zeroCells, hzs, hown.1, hl, ← Nat.add_mul]
      congr 1
      omega
    · simp only [Array.toList_append, List.append_assoc]
      rw [← List.append_assoc, ← hlen]
      exact List.take_left
  rcases hown.2 with ⟨rfl, rfl⟩ | ⟨g, cap, cur, rfl, hbg, hg, hnc, hcm, hcs, htake⟩
  · have hx : xs = [] := List.eq_nil_of_length_eq_zero (by simpa using hown.1)
    subst hx
    refine ⟨none, .cells #[] 0 (0, 0), fun b hb => (by cases hb), fun w ad c hw hnews => ?_⟩
    have hr := run_append_nil (P := P) w t ty e i z ht hi hz ad m c news hl hnews (by omega) (by omega) (by have hb := hbytes; simp only [Nat.zero_add] at hb; omega)
    have hgr := grown w (Nat.le_trans hbase hw.size) hw.size 0 (by omega) (.cells #[] 0 (0, 0))
    simp only [Nat.zero_add, List.nil_append, Array.empty_append] at hgr ⊢
    exact ⟨_, _, hr, hgr⟩
  · have hlt := (Array.getElem?_eq_some_iff.1 hg).1
    by_cases hroom : n + m ≤ cap
    · have hfit : n * i.size + news.length ≤ cur.size := by
        rw [hl, ← Nat.add_mul]
        exact Nat.le_trans (Nat.mul_le_mul_right _ hroom) hcs
      obtain ⟨nc, hnc9⟩ : ∃ nc, cur.toList.take (n * i.size) ++ news ++ cur.toList.drop (n * i.size + news.length) = nc := ⟨_, rfl⟩
      have hagain := put_again cur.toList news (n * i.size) (by simpa using hfit)
      have hncl : nc.length = cur.size := by
        rw [← hnc9]
        simp only [List.length_append, List.length_take, List.length_drop, Array.length_toList]
        omega
      have hnct : nc.take ((n + m) * i.size) = xs ++ news := by
        rw [← hnc9, htake, ← hlen]
        exact List.take_left
      rw [hnc9] at hagain
      refine ⟨some g, .cells nc.toArray e (0, 0), fun b hb => (by cases hb; exact ⟨rfl, hlt⟩), fun w ad c hw hnews => ?_⟩
      have fin : ∀ c9 : Array Value, w.heap[g]? = some (.cells c9 e (0, 0)) → c9.toList.take (n * i.size) ++ news ++ c9.toList.drop (n * i.size + news.length) = nc → n * i.size + news.length ≤ c9.size →
          ∃ r w', (Builtin.append_ #[t, t] ty #[.slice (some ⟨g, 0, none⟩) n cap, .slice (some ad) m c]).run P w = .ok r w' ∧ Once (some g) (.cells nc.toArray e (0, 0)) w w' ∧ AppR (some g) (.cells nc.toArray e (0, 0)) w0.heap.size base e i.size (n + m) (xs ++ news) r w' := by
        intro c9 hg9 he9 hf9
        have hr := run_append_room (P := P) w t ty e i ht hi g n cap c9 hg9 ad m c news hl hnews h1 hroom hf9
        rw [he9] at hr
        have hh := setRow_heap w g c9 nc.toArray e _ hg9
        refine ⟨_, _, hr, ⟨⟨rfl, rfl, rfl, by simp, fun k _ hk => setRow_other w g k _ (fun e => hk (by rw [e]))⟩, fun b hb => by cases hb; exact .inr hh⟩, g, cap, rfl, ⟨hlen, .inr ⟨g, cap, _, rfl, hbg, hh, hroom, hcm, ?_, ?_⟩⟩, ?_, .inl ⟨rfl, hh⟩⟩
        · simp only [List.size_toArray, hncl]; exact hcs
        · exact hnct
        · have := hw.size; simp; omega
      rcases hw.row g rfl with h9 | h9
      · exact fin cur (h9.trans hg) hnc9 hfit
      · exact fin nc.toArray h9 hagain (by simp only [List.size_toArray, hncl]; exact hfit)
    · refine ⟨none, .cells #[] 0 (0, 0), fun b hb => (by cases hb), fun w ad c hw hnews => ?_⟩
      have hgw : w.heap[g]? = some (.cells cur e (0, 0)) := (hw.but.block g hlt (by simp)).trans hg
      have hownw : looseRow w base e i.size (.slice (some ⟨g, 0, none⟩) n cap) n xs := loose_same hown (hgw.trans hg.symm)
      have holds : ∀ j u, xs[j]? = some u → w.cell? ((⟨g, 0, none⟩ : Addr).add j) = some u := fun j u hj => by
        have := looseRow_cells hownw (g := g) rfl j u hj
        rw [show (⟨g, 0, none⟩ : Addr).add j = ⟨g, j, none⟩ by unfold Addr.add; split <;> simp_all]
        exact this
      have hr := run_append_grow (P := P) w t ty e i z ht hi hz ⟨g, 0, none⟩ n cap xs hown.1 holds ad m c news hl hnews (by omega) (by omega) (growslice_fits (by omega) hbytes)
      exact ⟨_, _, hr, grown w (Nat.le_trans hbase hw.size) hw.size cap (by omega) _⟩
end Go.Proofs.Ytgdcnndmdgcjlaa

/- What holds of a search on its way; what is reached at its end. No program in sight. -/
namespace Go.Proofs.Ytgdcnndmdgcjlaa
namespace Net
structure Ok (N : Net) : Prop where
  len : N.starts.length = N.stops.length
  start : ∀ r, r < N.starts.length → 0 ≤ N.starts.getD r 0 ∧ N.start r < N.states.length
  stop : ∀ r, r < N.starts.length → 0 ≤ N.stops.getD r 0 ∧ N.stop r < N.states.length
  edge : ∀ s, ∀ e ∈ N.edges s, (0 ≤ e.to ∧ e.to.toNat < N.states.length) ∧ 0 ≤ e.what ∧ (e.kind = 2 → e.what.toNat < N.starts.length)
  endsR : ∀ s, ∀ i ∈ N.ends s, 0 ≤ i ∧ i.toNat < N.states.length
  endsE : ∀ s, N.ends s = [] ∨ (N.ends s).length = (N.edges s).length
end Net
structure Le (S S' : St) : Prop where
  calls : ∀ c ∈ S.calls, c ∈ S'.calls
  seen : ∀ κ, ∀ p ∈ S.seen κ, p ∈ S'.seen κ
  ends : ∀ c, S.ends c <+: S'.ends c
  waits : ∀ c, ∀ x ∈ S.waits c, x ∈ S'.waits c
  loc : ∀ r, S.ex r → S'.loc r = S.loc r
  todo : ∃ l, S'.todo = S.todo ++ l ∧ ∀ x ∈ l, x.2 ∉ S.seen x.1
  fresh : ∀ κ p, p ∈ S'.seen κ → p ∈ S.seen κ ∨ (κ, p) ∈ S'.todo
structure Inv (E : Env) (S : St) : Prop where
  callsN : S.calls.Nodup
  seenN : ∀ κ, (S.seen κ).Nodup
  endsN : ∀ c, (S.ends c).Nodup
  waitsN : ∀ c, (S.waits c).Nodup
  todoN : S.todo.Nodup
  callR : ∀ c ∈ S.calls, c.1 < E.N.starts.length ∧ c.2 ≤ E.w.length
  seenR : ∀ κ, ∀ p ∈ S.seen κ, p.1 < E.N.states.length ∧ p.2 ≤ E.w.length
  endsIff : ∀ c i, i ∈ S.ends c ↔ (E.N.stop c.1, i) ∈ S.seen (some c)
  waitsR : ∀ c, ∀ x ∈ S.waits c, S.has x.1 ∧ x.2 < E.N.states.length
  seenH : ∀ κ, ∀ p ∈ S.seen κ, S.has κ
  waitsH : ∀ c, ∀ x ∈ S.waits c, c ∈ S.calls
  all : S.all = true ↔ ∃ κ p, p ∈ S.seen κ ∧ p.2 = E.w.length
  sound : ∀ κ, ∀ p ∈ S.seen κ, Lv E.N E.w E.p0 E.over κ p
  waitS : ∀ c, ∀ x ∈ S.waits c, ∃ s e, Lv E.N E.w E.p0 E.over x.1 (s, c.2) ∧ (x.1 = none → (s : Int) ≠ E.over) ∧ e ∈ E.N.edges s ∧ e.kind = 2 ∧ e.what.toNat = c.1 ∧ e.to.toNat = x.2
  todoS : ∀ x ∈ S.todo, x.2 ∈ S.seen x.1
def Opn (S : St) (c : Nat × Nat) (i : Nat) (x : Key × Nat) : Prop := i ∈ S.ends c ∧ x ∈ S.waits c ∧ (x.2, i) ∉ S.seen x.1
def Begun (E : Env) (S : St) : Prop := ∀ c ∈ S.calls, (E.N.start c.1, c.2) ∈ S.seen (some c)
def Clos (E : Env) (S : St) (κ : Key) (s i : Nat) : Prop := ∀ e ∈ E.N.edges s,
  (e.kind = 2 → (e.what.toNat, i) ∈ S.calls ∧ (κ, e.to.toNat) ∈ S.waits (e.what.toNat, i)) ∧
  (e.kind ≠ 2 → e.kind ≠ 1 → (e.to.toNat, i) ∈ S.seen κ) ∧ (e.kind = 1 → E.w[i]? = some e.what → (e.to.toNat, i + 1) ∈ S.seen κ)
section
variable {E : Env} {S S' S'' : St}
theorem Le.refl (S : St) : Le S S := ⟨fun _ h => h, fun _ _ h => h, fun _ => List.prefix_refl _, fun _ _ h => h, fun _ _ => rfl, ⟨[], by simp, fun _ h => by cases h⟩, fun _ _ h => .inl h⟩
theorem Le.has (h : Le S S') {κ : Key} (hk : S.has κ) : S'.has κ := by
  cases κ with
  | none => trivial
  | some c => exact h.calls c hk
theorem Le.ex (h : Le S S') {r : Role} (hr : S.ex r) : S'.ex r := by
  cases r <;> first | trivial | exact h.has hr | exact h.calls _ hr
theorem Le.trans (h : Le S S') (k : Le S' S'') : Le S S'' := by
  refine ⟨fun c hc => k.calls c (h.calls c hc), fun κ p hp => k.seen κ p (h.seen κ p hp), fun c => (h.ends c).trans (k.ends c), fun c x hx => k.waits c x (h.waits c x hx), fun r hr => by rw [k.loc r (h.ex hr), h.loc r hr], ?_, fun κ p hp => ?_⟩
  · obtain ⟨l, h1, h2⟩ := h.todo
    obtain ⟨l', h3, h4⟩ := k.todo
    refine ⟨l ++ l', by rw [h3, h1, List.append_assoc], fun x hx => ?_⟩
    rcases List.mem_append.1 hx with hx | hx
    · exact h2 x hx
    · exact fun hs => h4 x hx (h.seen _ _ hs)
  · rcases k.fresh κ p hp with h1 | h1
    · rcases h.fresh κ p h1 with h2 | h2
      · exact .inl h2
      · obtain ⟨l', h3, _⟩ := k.todo
        exact .inr (by rw [h3]; exact List.mem_append_left _ h2)
    · exact .inr h1
theorem Le.mem_todo (h : Le S S') {x : Key × Pl} (hx : x ∈ S.todo) : x ∈ S'.todo := by
  obtain ⟨l, h1, _⟩ := h.todo
  rw [h1]; exact List.mem_append_left _ hx
theorem Clos.mono (h : Le S S') {κ : Key} {s i : Nat} (hc : Clos E S κ s i) : Clos E S' κ s i := fun e he => by
  obtain ⟨h1, h2, h3⟩ := hc e he
  exact ⟨fun hk => ⟨h.calls _ (h1 hk).1, h.waits _ _ (h1 hk).2⟩, fun hk hk' => h.seen _ _ (h2 hk hk'), fun hk hw => h.seen _ _ (h3 hk hw)⟩
def St.see (S : St) (E : Env) (κ : Key) (p : Pl) (v : Value) : St :=
  { S with seen := fun k => if k = κ then S.seen k ++ [p] else S.seen k, all := S.all || p.2 == E.w.length, todo := S.todo ++ [(κ, p)], tv := v,
           ends := fun c => if κ = some c ∧ p.1 = E.N.stop c.1 then S.ends c ++ [p.2] else S.ends c }
theorem see_seen (S : St) (E : Env) (κ : Key) (p : Pl) (v : Value) (k : Key) (q : Pl) : q ∈ (S.see E κ p v).seen k ↔ q ∈ S.seen k ∨ (k = κ ∧ q = p) := by
  show q ∈ (if k = κ then S.seen k ++ [p] else S.seen k) ↔ _
  split
  · rename_i h; simp [h]
  · rename_i h; simp [h]
theorem see_ends (S : St) (E : Env) (κ : Key) (p : Pl) (v : Value) (c : Nat × Nat) (i : Nat) : i ∈ (S.see E κ p v).ends c ↔ i ∈ S.ends c ∨ (κ = some c ∧ p.1 = E.N.stop c.1 ∧ i = p.2) := by
  show i ∈ (if κ = some c ∧ p.1 = E.N.stop c.1 then S.ends c ++ [p.2] else S.ends c) ↔ _
  split
  · rename_i h; simp [h.1, h.2]
  · rename_i h
    constructor
    · exact .inl
    · rintro (h1 | ⟨h1, h2, _⟩)
      · exact h1
      · exact absurd ⟨h1, h2⟩ h
theorem Inv.see (h : Inv E S) {κ : Key} {p : Pl} (hk : S.has κ) (hn : p ∉ S.seen κ) (hr : p.1 < E.N.states.length ∧ p.2 ≤ E.w.length) (hl : Lv E.N E.w E.p0 E.over κ p) (v : Value) : Inv E (S.see E κ p v) ∧ Le S (S.see E κ p v) := by
  refine ⟨⟨h.callsN, fun k => ?_, fun c => ?_, h.waitsN, ?_, h.callR, fun k q hq => ?_, fun c i => ?_, h.waitsR, fun k q hq => ?_, h.waitsH, ?_, fun k q hq => ?_, h.waitS, fun x hx => ?_⟩, ?_⟩
  · show (if k = κ then S.seen k ++ [p] else S.seen k).Nodup
    split
    · rename_i e
      subst e
      rw [List.nodup_append]
      exact ⟨h.seenN k, by simp, fun a ha b hb => by simp at hb; subst hb; exact fun e => hn (e ▸ ha)⟩
    · exact h.seenN k
  · show (if κ = some c ∧ p.1 = E.N.stop c.1 then S.ends c ++ [p.2] else S.ends c).Nodup
    split
    · rename_i e
      rw [List.nodup_append]
      refine ⟨h.endsN c, by simp, fun a ha b hb => ?_⟩
      simp at hb
      subst hb
      intro e2
      subst e2
      refine hn ?_
      have := (h.endsIff c p.2).1 ha
      rw [← e.2, ← e.1] at this
      exact this
    · exact h.endsN c
  · show (S.todo ++ [(κ, p)]).Nodup
    rw [List.nodup_append]
    exact ⟨h.todoN, by simp, fun a ha b hb => by simp at hb; subst hb; exact fun e => hn (by have := h.todoS a ha; rw [e] at this; exact this)⟩
  · rcases (see_seen S E κ p v k q).1 hq with h1 | ⟨_, rfl⟩
    · exact h.seenR k q h1
    · exact hr
  · rw [see_ends, see_seen, h.endsIff]
    constructor
    · rintro (h1 | ⟨h1, h2, h3⟩)
      · exact .inl h1
      · exact .inr ⟨h1.symm, by rw [← h2, h3]⟩
    · rintro (h1 | ⟨h1, h2⟩)
      · exact .inl h1
      · exact .inr ⟨h1.symm, by rw [← h2], by rw [← h2]⟩
  · rcases (see_seen S E κ p v k q).1 hq with h1 | ⟨rfl, _⟩
    · have h2 := h.seenH k q h1
      cases k with
      | none => trivial
      | some c => exact h2
    · cases k with
      | none => trivial
      | some c => exact hk
  · show (S.all || p.2 == E.w.length) = true ↔ _
    rw [Bool.or_eq_true, h.all]
    constructor
    · rintro (⟨k, q, h1, h2⟩ | h1)
      · exact ⟨k, q, (see_seen S E κ p v k q).2 (.inl h1), h2⟩
      · exact ⟨κ, p, (see_seen S E κ p v κ p).2 (.inr ⟨rfl, rfl⟩), by simpa using h1⟩
    · rintro ⟨k, q, h1, h2⟩
      rcases (see_seen S E κ p v k q).1 h1 with h3 | ⟨_, rfl⟩
      · exact .inl ⟨k, q, h3, h2⟩
      · exact .inr (by simpa using h2)
  · rcases (see_seen S E κ p v k q).1 hq with h1 | ⟨rfl, rfl⟩
    · exact h.sound k q h1
    · exact hl
  · rcases List.mem_append.1 (show x ∈ S.todo ++ [(κ, p)] from hx) with h1 | h1
    · exact (see_seen S E κ p v _ _).2 (.inl (h.todoS x h1))
    · simp at h1
      subst h1
      exact (see_seen S E κ p v _ _).2 (.inr ⟨rfl, rfl⟩)
  · refine ⟨fun c hc => hc, fun k q hq => (see_seen S E κ p v k q).2 (.inl hq), fun c => by
    show S.ends c <+: (if κ = some c ∧ p.1 = E.N.stop c.1 then S.ends c ++ [p.2] else S.ends c)
    split
    · exact List.prefix_append _ _
    · exact List.prefix_refl _, fun c x hx => hx, fun _ _ => rfl, ⟨[(κ, p)], rfl, fun x hx => by simp at hx; subst hx; exact hn⟩, fun k q hq => ?_⟩
    rcases (see_seen S E κ p v k q).1 hq with h1 | ⟨rfl, rfl⟩
    · exact .inl h1
    · exact .inr (List.mem_append_right _ (by simp))
theorem see_opn {κ : Key} {p : Pl} {v : Value} {c : Nat × Nat} {i : Nat} {x : Key × Nat} (h : Opn (S.see E κ p v) c i x) : Opn S c i x ∨ (κ = some c ∧ p.1 = E.N.stop c.1 ∧ i = p.2 ∧ x ∈ S.waits c) := by
  obtain ⟨h1, h2, h3⟩ := h
  rcases (see_ends S E κ p v c i).1 h1 with h4 | ⟨h4, h5, h6⟩
  · exact .inl ⟨h4, h2, fun hs => h3 ((see_seen S E κ p v _ _).2 (.inl hs))⟩
  · exact .inr ⟨h4, h5, h6, h2⟩
/-! ### how much is not seen -/
def Env.keys (E : Env) : List Key := none :: (List.range E.N.starts.length).flatMap fun r => (List.range (E.w.length + 1)).map fun t => some (r, t)
def Env.pls (E : Env) : List Pl := (List.range E.N.states.length).flatMap fun s => (List.range (E.w.length + 1)).map fun t => (s, t)
def Env.univ (E : Env) : List (Key × Pl) := E.keys.flatMap fun k => E.pls.map fun p => (k, p)
theorem Inv.univ (h : Inv E S) {κ : Key} {p : Pl} (hk : S.has κ) (hp : p.1 < E.N.states.length ∧ p.2 ≤ E.w.length) : (κ, p) ∈ E.univ := by
  unfold Env.univ
  refine List.mem_flatMap.2 ⟨κ, ?_, List.mem_map.2 ⟨p, ?_, rfl⟩⟩
  · unfold Env.keys
    cases κ with
    | none => simp
    | some c =>
      have := h.callR c hk
      refine List.mem_cons_of_mem _ (List.mem_flatMap.2 ⟨c.1, by simpa using this.1, List.mem_map.2 ⟨c.2, ?_, rfl⟩⟩)
      rw [List.mem_range]; omega
  · unfold Env.pls
    refine List.mem_flatMap.2 ⟨p.1, by simpa using hp.1, List.mem_map.2 ⟨p.2, ?_, rfl⟩⟩
    rw [List.mem_range]; omega
def left (E : Env) (S : St) : Nat := (E.univ.filter fun x => decide (x.2 ∉ S.seen x.1 ∨ x ∈ S.todo)).length
def unseen (E : Env) (S : St) : Nat := (E.univ.filter fun x => decide (x.2 ∉ S.seen x.1)).length
theorem filter_lt {α : Type} {p q : α → Bool} : ∀ {l : List α}, (∀ x ∈ l, p x = true → q x = true) → ∀ {y : α}, y ∈ l → q y = true → p y = false → (l.filter p).length < (l.filter q).length
  | [], _, _, hy, _, _ => by cases hy
  | x :: r, h, y, hy, hq, hp => by
    have hle : (r.filter p).length ≤ (r.filter q).length := by
      clear hy
      have h' : ∀ z ∈ r, p z = true → q z = true := fun z hz => h z (by simp [hz])
      clear h
      induction r with
      | nil => simp
      | cons z r ih =>
        have ih' := ih fun z hz => h' z (by simp [hz])
        have hz := h' z (by simp)
        rw [List.filter_cons, List.filter_cons]
        cases hpz : p z
        · simp only [Bool.false_eq_true, if_false]
          split <;> simp <;> omega
        · rw [hz hpz]
          simpa using ih'
    rcases List.mem_cons.1 hy with rfl | hy
    · rw [List.filter_cons, List.filter_cons, hq, hp]
      simp only [Bool.false_eq_true, if_false, if_true, List.length_cons]
      omega
    · have ih := filter_lt (l := r) (fun z hz => h z (by simp [hz])) hy hq hp
      have hx := h x (by simp)
      rw [List.filter_cons, List.filter_cons]
      cases hpx : p x
      · simp only [Bool.false_eq_true, if_false]
        split <;> simp <;> omega
      · rw [hx hpx]
        simp
        omega
theorem unseen_lt (h : Le S S') {κ : Key} {p : Pl} (hu : (κ, p) ∈ E.univ) (hn : p ∉ S.seen κ) (hs : p ∈ S'.seen κ) : unseen E S' < unseen E S :=
  filter_lt (fun x _ hx => by simp only [decide_eq_true_eq] at hx ⊢; exact fun hs => hx (h.seen _ _ hs)) hu (by simpa using hn) (by simpa using hs)
structure Reached (E : Env) (S S' : St) (κ : Key) (p : Pl) : Prop where
  inv : Inv E S'
  le : Le S S'
  got : p ∈ S'.seen κ
  calls : S'.calls = S.calls
  waits : ∀ c, S'.waits c = S.waits c
  opn : ∀ c i x, Opn S' c i x → Opn S c i x
/-! ### a call more -/
def St.more (S : St) (c : Nat × Nat) (loc : Role → Nat) : St := { S with calls := S.calls ++ [c], loc := loc }
theorem Inv.more (h : Inv E S) {c : Nat × Nat} {loc : Role → Nat} (hn : c ∉ S.calls) (hr : c.1 < E.N.starts.length ∧ c.2 ≤ E.w.length) (hl : ∀ r, S.ex r → loc r = S.loc r) : Inv E (S.more c loc) ∧ Le S (S.more c loc) := by
  have hh : ∀ κ, S.has κ → (S.more c loc).has κ := by
    intro κ hk
    cases κ with
    | none => trivial
    | some d => exact List.mem_append_left _ hk
  refine ⟨⟨?_, h.seenN, h.endsN, h.waitsN, h.todoN, fun d hd => ?_, h.seenR, h.endsIff, fun d x hx => ⟨hh _ (h.waitsR d x hx).1, (h.waitsR d x hx).2⟩, fun κ p hp => hh κ (h.seenH κ p hp), fun d x hx => List.mem_append_left _ (h.waitsH d x hx), h.all, h.sound, h.waitS, h.todoS⟩,
    fun d hd => List.mem_append_left _ hd, fun _ _ hp => hp, fun _ => List.prefix_refl _, fun _ _ hp => hp, hl, ⟨[], by simp [St.more], fun _ hx => by cases hx⟩, fun _ _ hp => .inl hp⟩
  · show (S.calls ++ [c]).Nodup
    rw [List.nodup_append]
    exact ⟨h.callsN, by simp, fun a ha b hb => by simp at hb; subst hb; exact fun e => hn (e ▸ ha)⟩
  · rcases List.mem_append.1 (show d ∈ S.calls ++ [c] from hd) with h1 | h1
    · exact h.callR d h1
    · simp at h1
      subst h1
      exact hr
def St.wait (S : St) (c : Nat × Nat) (x : Key × Nat) : St := { S with waits := fun d => if d = c then S.waits d ++ [x] else S.waits d }
theorem wait_mem (S : St) (c : Nat × Nat) (x : Key × Nat) (d : Nat × Nat) (y : Key × Nat) : y ∈ (S.wait c x).waits d ↔ y ∈ S.waits d ∨ (d = c ∧ y = x) := by
  show y ∈ (if d = c then S.waits d ++ [x] else S.waits d) ↔ _
  split
  · rename_i h; simp [h]
  · rename_i h; simp [h]
theorem Inv.wait (h : Inv E S) {c : Nat × Nat} {x : Key × Nat} (hc : c ∈ S.calls) (hn : x ∉ S.waits c) (hx : S.has x.1 ∧ x.2 < E.N.states.length)
    (hs : ∃ s e, Lv E.N E.w E.p0 E.over x.1 (s, c.2) ∧ (x.1 = none → (s : Int) ≠ E.over) ∧ e ∈ E.N.edges s ∧ e.kind = 2 ∧ e.what.toNat = c.1 ∧ e.to.toNat = x.2) : Inv E (S.wait c x) ∧ Le S (S.wait c x) := by
  have hh : ∀ κ, S.has κ → (S.wait c x).has κ := by
    intro κ hk
    cases κ with
    | none => trivial
    | some d => exact hk
  refine ⟨⟨h.callsN, h.seenN, h.endsN, fun d => ?_, h.todoN, h.callR, h.seenR, h.endsIff, fun d y hy => ?_, fun κ p hp => hh κ (h.seenH κ p hp), fun d y hy => ?_, h.all, h.sound, fun d y hy => ?_, h.todoS⟩,
    fun d hd => hd, fun _ _ hp => hp, fun _ => List.prefix_refl _, fun d y hy => (wait_mem S c x d y).2 (.inl hy), fun _ _ => rfl, ⟨[], by simp [St.wait], fun _ hx => by cases hx⟩, fun _ _ hp => .inl hp⟩
  · show (if d = c then S.waits d ++ [x] else S.waits d).Nodup
    split
    · rename_i e
      subst e
      rw [List.nodup_append]
      exact ⟨h.waitsN d, by simp, fun a ha b hb => by simp at hb; subst hb; exact fun e => hn (e ▸ ha)⟩
    · exact h.waitsN d
  · rcases (wait_mem S c x d y).1 hy with h1 | ⟨_, rfl⟩
    · exact ⟨hh _ (h.waitsR d y h1).1, (h.waitsR d y h1).2⟩
    · exact ⟨hh _ hx.1, hx.2⟩
  · rcases (wait_mem S c x d y).1 hy with h1 | ⟨rfl, _⟩
    · exact h.waitsH d y h1
    · exact hc
  · rcases (wait_mem S c x d y).1 hy with h1 | ⟨rfl, rfl⟩
    · exact h.waitS d y h1
    · exact hs
theorem wait_opn {c : Nat × Nat} {x : Key × Nat} {d : Nat × Nat} {i : Nat} {y : Key × Nat} (h : Opn (S.wait c x) d i y) : Opn S d i y ∨ (d = c ∧ y = x ∧ i ∈ S.ends c) := by
  obtain ⟨h1, h2, h3⟩ := h
  rcases (wait_mem S c x d y).1 h2 with h4 | ⟨rfl, rfl⟩
  · exact .inl ⟨h1, h4, h3⟩
  · exact .inr ⟨rfl, rfl, h1⟩
theorem whole (h : Inv E S) (ho : ∀ c i x, ¬Opn S c i x) (hb : Begun E S) (h0 : E.p0 ∈ S.seen none) (hc : ∀ κ p, p ∈ S.seen κ → Clos E S κ p.1 p.2 ∨ (κ = none ∧ (p.1 : Int) = E.over)) {κ : Key} {p : Pl} (hl : Lv E.N E.w E.p0 E.over κ p) : p ∈ S.seen κ := by
  have cl : ∀ {κ : Key} {s i : Nat}, (s, i) ∈ S.seen κ → (κ = none → (s : Int) ≠ E.over) → Clos E S κ s i := by
    intro κ s i hs hg
    rcases hc κ (s, i) hs with h1 | ⟨h1, h2⟩
    · exact h1
    · exact absurd h2 (hg h1)
  induction hl with
  | root => exact h0
  | begin hl hg he hk ih => exact hb _ ((cl ih hg _ he).1 hk).1
  | eps hl hg he hk hk' ih => exact (cl ih hg _ he).2.1 hk hk'
  | tok hl hg he hk hw ih => exact (cl ih hg _ he).2.2 hk hw
  | @back κ s i j e hl hg he hk hcl ih ih2 =>
    have h1 := ((cl ih hg _ he).1 hk).2
    have h2 : j ∈ S.ends (e.what.toNat, i) := (h.endsIff _ _).2 ih2
    by_cases h3 : (e.to.toNat, j) ∈ S.seen κ
    · exact h3
    · exact absurd ⟨h2, h1, h3⟩ (ho (e.what.toNat, i) j (κ, e.to.toNat))
end
end Go.Proofs.Ytgdcnndmdgcjlaa

/- A grammar's rules, and how they lie in memory. -/
namespace Go.Proofs.Ytgdcnndmdgcjlaa
open Go.RowKit
structure Rl where
  name : ByteArray
  sort : Int
  body : Nd
  p0 : Int
  p1 : Int
  p2 : Int
structure Gr where
  name : ByteArray
  bound : Int
  states : Int
  rules : List Rl
def InI64 (n : Int) : Prop := -9223372036854775808 ≤ n ∧ n ≤ 9223372036854775807
def RuleAt (W : World) (lim : Nat) (c0 c1 c2 c3 c4 c5 c6 c7 c8 c9 : Option Value) (r : Rl) : Prop :=
  c0 = some (.string r.name) ∧ r.name.size ≤ reachN ∧ c1 = some (.int .u8 r.sort) ∧ (0 ≤ r.sort ∧ r.sort ≤ 255) ∧ NodeAt W lim c2 c3 c4 c5 c6 r.body ∧
  c7 = some (.int .i64 r.p0) ∧ c8 = some (.int .i64 r.p1) ∧ c9 = some (.int .i64 r.p2) ∧ InI64 r.p0 ∧ InI64 r.p1 ∧ InI64 r.p2
def RulesAt (W : World) (lim : Nat) (a : Option Addr) (i : Nat) : List Rl → Prop
  | [] => True
  | n :: r => (∃ b off, a = some ⟨b, off, none⟩ ∧ b < lim ∧ RuleAt W lim (W.cell? ⟨b, off + i * 10, none⟩) (W.cell? ⟨b, off + i * 10 + 1, none⟩) (W.cell? ⟨b, off + i * 10 + 2, none⟩) (W.cell? ⟨b, off + i * 10 + 3, none⟩) (W.cell? ⟨b, off + i * 10 + 4, none⟩)
      (W.cell? ⟨b, off + i * 10 + 5, none⟩) (W.cell? ⟨b, off + i * 10 + 6, none⟩) (W.cell? ⟨b, off + i * 10 + 7, none⟩) (W.cell? ⟨b, off + i * 10 + 8, none⟩) (W.cell? ⟨b, off + i * 10 + 9, none⟩) n) ∧ RulesAt W lim a (i + 1) r
def GrAt (W : World) (lim : Nat) (c0 c1 c2 c3 : Option Value) (g : Gr) : Prop :=
  c0 = some (.string g.name) ∧ g.name.size ≤ reachN ∧ c1 = some (.int .i64 g.bound) ∧ c2 = some (.int .i64 g.states) ∧ InI64 g.bound ∧ InI64 g.states ∧
  ∃ a cap, c3 = some (.slice a g.rules.length cap) ∧ g.rules.length ≤ reachN ∧ RulesAt W lim a 0 g.rules
theorem RulesAt.get {W : World} {lim : Nat} {a : Option Addr} : ∀ {l : List Rl} {i k : Nat} (_ : RulesAt W lim a i l) (hk : k < l.length),
    ∃ b off, a = some ⟨b, off, none⟩ ∧ b < lim ∧ RuleAt W lim (W.cell? ⟨b, off + (i + k) * 10, none⟩) (W.cell? ⟨b, off + (i + k) * 10 + 1, none⟩) (W.cell? ⟨b, off + (i + k) * 10 + 2, none⟩) (W.cell? ⟨b, off + (i + k) * 10 + 3, none⟩) (W.cell? ⟨b, off + (i + k) * 10 + 4, none⟩)
      (W.cell? ⟨b, off + (i + k) * 10 + 5, none⟩) (W.cell? ⟨b, off + (i + k) * 10 + 6, none⟩) (W.cell? ⟨b, off + (i + k) * 10 + 7, none⟩) (W.cell? ⟨b, off + (i + k) * 10 + 8, none⟩) (W.cell? ⟨b, off + (i + k) * 10 + 9, none⟩) l[k]
  | [], _, _, _, hk => absurd hk (by simp)
  | n :: r, i, 0, h, _ => by simpa using h.1
  | n :: r, i, k + 1, h, hk => by
    obtain ⟨b, off, h1, h2, h3⟩ := RulesAt.get (k := k) h.2 (by simpa using hk)
    refine ⟨b, off, h1, h2, ?_⟩
    have e : i + 1 + k = i + (k + 1) := by omega
    rw [e] at h3
    simpa using h3
theorem RuleAt.keep {W W' : World} {lim : Nat} (hb : Below lim W W') {c0 c1 c2 c3 c4 c5 c6 c7 c8 c9 : Option Value} {r : Rl} (h : RuleAt W lim c0 c1 c2 c3 c4 c5 c6 c7 c8 c9 r) : RuleAt W' lim c0 c1 c2 c3 c4 c5 c6 c7 c8 c9 r :=
  ⟨h.1, h.2.1, h.2.2.1, h.2.2.2.1, h.2.2.2.2.1.keep hb, h.2.2.2.2.2⟩
theorem RuleAt.mono {W : World} {lim lim' : Nat} (hl : lim ≤ lim') {c0 c1 c2 c3 c4 c5 c6 c7 c8 c9 : Option Value} {r : Rl} (h : RuleAt W lim c0 c1 c2 c3 c4 c5 c6 c7 c8 c9 r) : RuleAt W lim' c0 c1 c2 c3 c4 c5 c6 c7 c8 c9 r :=
  ⟨h.1, h.2.1, h.2.2.1, h.2.2.2.1, h.2.2.2.2.1.mono hl, h.2.2.2.2.2⟩
theorem RulesAt.keep {W W' : World} {lim : Nat} (hb : Below lim W W') {a : Option Addr} : ∀ {l : List Rl} {i : Nat}, RulesAt W lim a i l → RulesAt W' lim a i l
  | [], _, _ => trivial
  | n :: r, i, h => by
    obtain ⟨⟨b, off, h1, h2, h3⟩, h5⟩ := h
    refine ⟨⟨b, off, h1, h2, ?_⟩, RulesAt.keep hb h5⟩
    have e : ∀ o, W'.cell? ⟨b, o, none⟩ = W.cell? ⟨b, o, none⟩ := fun o => hb.cell h2
    simp only [e]
    exact h3.keep hb
theorem RulesAt.mono {W : World} {lim lim' : Nat} (hl : lim ≤ lim') {a : Option Addr} : ∀ {l : List Rl} {i : Nat}, RulesAt W lim a i l → RulesAt W lim' a i l
  | [], _, _ => trivial
  | n :: r, i, h => by
    obtain ⟨⟨b, off, h1, h2, h3⟩, h5⟩ := h
    exact ⟨⟨b, off, h1, by omega, h3.mono hl⟩, RulesAt.mono hl h5⟩
theorem GrAt.keep {W W' : World} {lim : Nat} (hb : Below lim W W') {c0 c1 c2 c3 : Option Value} {g : Gr} (h : GrAt W lim c0 c1 c2 c3 g) : GrAt W' lim c0 c1 c2 c3 g := by
  obtain ⟨h1, h2, h3, h4, h5, h6, a, cap, h7, h8, h9⟩ := h
  exact ⟨h1, h2, h3, h4, h5, h6, a, cap, h7, h8, h9.keep hb⟩
theorem GrAt.mono {W : World} {lim lim' : Nat} (hl : lim ≤ lim') {c0 c1 c2 c3 : Option Value} {g : Gr} (h : GrAt W lim c0 c1 c2 c3 g) : GrAt W lim' c0 c1 c2 c3 g := by
  obtain ⟨h1, h2, h3, h4, h5, h6, a, cap, h7, h8, h9⟩ := h
  exact ⟨h1, h2, h3, h4, h5, h6, a, cap, h7, h8, h9.mono hl⟩
theorem RuleAt.vals {W : World} {lim : Nat} {c0 c1 c2 c3 c4 c5 c6 c7 c8 c9 : Option Value} {r : Rl} (h : RuleAt W lim c0 c1 c2 c3 c4 c5 c6 c7 c8 c9 r) :
    ∃ v2 v3 v4 v5 v6, c0 = some (.string r.name) ∧ c1 = some (.int .u8 r.sort) ∧ c2 = some v2 ∧ c3 = some v3 ∧ c4 = some v4 ∧ c5 = some v5 ∧ c6 = some v6 ∧
      c7 = some (.int .i64 r.p0) ∧ c8 = some (.int .i64 r.p1) ∧ c9 = some (.int .i64 r.p2) ∧
      RuleAt W lim (some (.string r.name)) (some (.int .u8 r.sort)) (some v2) (some v3) (some v4) (some v5) (some v6) (some (.int .i64 r.p0)) (some (.int .i64 r.p1)) (some (.int .i64 r.p2)) r ∧
      NodeAt W lim (some v2) (some v3) (some v4) (some v5) (some v6) r.body := by
  have h' := h
  obtain ⟨rfl, h2, rfl, h4, h5, rfl, rfl, rfl, h9⟩ := h
  obtain ⟨u0, u1, u2, u3, u4, rfl, rfl, rfl, rfl, rfl, hn⟩ := h5.vals
  exact ⟨_, _, _, _, _, rfl, rfl, rfl, rfl, rfl, rfl, rfl, rfl, rfl, rfl, h', hn⟩
end Go.Proofs.Ytgdcnndmdgcjlaa
