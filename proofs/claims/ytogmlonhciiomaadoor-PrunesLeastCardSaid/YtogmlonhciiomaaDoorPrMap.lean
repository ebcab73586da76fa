/- Maps from texts and from integers to the places at which they came. -/
import Derived.Test.YtogmlonhciiomaaDoorPrClone
import Derived.Test.YtogmlonhciiomaaDoorPMap
namespace Go.Proofs.YtogmlonhciiomaaDoor
open Go.RowKit

/-- keys, each with its place -/
def numL (ks : List Value) : List (Value × Value) := (List.range ks.length).map fun i => (ks.getD i undef, .int .i64 i)
theorem numL_len (ks : List Value) : (numL ks).length = ks.length := by simp [numL]
theorem numL_snoc (ks : List Value) (k : Value) : numL (ks ++ [k]) = numL ks ++ [(k, .int .i64 ks.length)] := by
  apply List.ext_getElem
  · simp [numL]
  · intro i h1 h2
    simp only [numL, List.length_map, List.length_range, List.length_append, List.length_cons, List.length_nil] at h1
    by_cases e : i < ks.length
    · rw [List.getElem_append_left (by simpa [numL] using e)]
      simp [numL, List.getD, List.getElem?_append_left e]
    · have e' : i = ks.length := by omega
      subst e'
      simp [numL, List.getD]
theorem numL_at (ks : List Value) (i : Nat) (h : i < ks.length) : (numL ks)[i]? = some (ks[i], .int .i64 i) := by simp [numL, List.getD, h]
/-- the place of the first one -/
theorem fnd_num {f : Value → Bool} (ks : List Value) : fnd f (numL ks) 0 = (ks.findIdx? f).map fun (i : Nat) => (i, Value.int .i64 (i : Int)) := by
  have gen : ∀ (L : List (Value × Value)) (s : Nat), (∀ i (h : i < L.length), (L[i]).2 = .int .i64 (s + i : Nat)) → fnd f L s = ((L.map (·.1)).findIdx? f).map fun (i : Nat) => (s + i, Value.int .i64 ((s + i : Nat) : Int)) := by
    intro L
    induction L with
    | nil => intro s _; rfl
    | cons x r ih =>
      intro s h
      rw [fnd, List.map_cons, List.findIdx?_cons]
      cases hf : f x.1
      · simp only [Bool.false_eq_true, if_false]
        rw [ih (s + 1) fun i hi => by
          have := h (i + 1) (by simpa using hi)
          simp only [List.getElem_cons_succ] at this
          rw [this, show s + 1 + i = s + (i + 1) by omega]]
        simp only [Option.map_map]
        congr 1
        funext i
        simp only [Function.comp, show s + 1 + i = s + (i + 1) by omega]
      · have := h 0 (by simp)
        simp only [List.getElem_cons_zero, Nat.add_zero] at this
        simp [this]
  have := gen (numL ks) 0 fun i h => by
    rw [numL_len] at h
    have := numL_at ks i h
    rw [List.getElem?_eq_some_iff] at this
    obtain ⟨_, e⟩ := this
    rw [e, Nat.zero_add]
  rw [this]
  have hk : (numL ks).map (·.1) = ks := by
    apply List.ext_getElem
    · simp [numL]
    · intro i h1 h2
      simp [numL, List.getD, h2]
  rw [hk]
  simp only [Nat.zero_add]
section
variable {P : Program} {w : World}
theorem findNow_string {a : ByteArray} {f : Value → Bool} : ∀ (L : List (Value × Value)) (n i : Nat), (∀ x ∈ L, ∃ b, x.1 = .string b ∧ f (.string b) = (a == b)) → Instr.findNow .string (.string a) (entsAt n L) i = some (fnd f L i)
  | [], _, _, _ => rfl
  | x :: r, n, i, h => by
    obtain ⟨b, hb, hf⟩ := h x (by simp)
    have ih := findNow_string (a := a) r (n + 1) (i + 1) fun y hy => h y (by simp [hy])
    rw [entsAt, Instr.findNow, fnd, hb, hf]
    cases hab : (a == b)
    · simp only [Instr.sameNow, hab, Bool.false_eq_true, if_false]
      exact ih
    · simp only [Instr.sameNow, if_true, hab]
theorem KeyRun.string {kt : TypeId} {a : ByteArray} {f : Value → Bool} {L : List (Value × Value)} (ht : P.underlying kt = some .string) (hL : ∀ x ∈ L, ∃ b, x.1 = .string b ∧ f (.string b) = (a == b)) :
    KeyRun P w kt (.string a) f L := by
  refine ⟨fun e => ?_, ?_⟩
  · rw [show (10000 : Nat) = 9999 + 1 from rfl]
    unfold Instr.checkKey
    simp only [Sem.run_bind, run_underlying ht, Result.andThen]
    rfl
  · unfold Instr.findKey
    rw [Sem.run_bind, run_underlying ht, Result.andThen_ok]
    simp only [findNow_string L 0 0 hL]
    rfl
/-- v, ok := m[k], and m[k], in a map of places -/
theorem run_num_look {t kt e : TypeId} {b : Nat} {v : Value} {f : Value → Bool} {ks : List Value} (ht : P.underlying t = some (.map kt e)) (hb : w.heap[b]? = some (mapObj (numL ks))) (hK : KeyRun P w kt v f (numL ks)) (hz : (zeroValue e).run P w = .ok (.int .i64 0) w) :
    (∀ i, ks.findIdx? f = some i → (Instr.lookup t (.map (some b)) v true).run P w = .ok (.tuple #[.int .i64 i, .bool true]) w ∧ (Instr.lookup t (.map (some b)) v false).run P w = .ok (.int .i64 i) w) ∧
    (ks.findIdx? f = none → (Instr.lookup t (.map (some b)) v true).run P w = .ok (.tuple #[.int .i64 0, .bool false]) w) := by
  have hg := run_map_of (P := P) hb
  unfold mapObj at hg
  have hf := hK.find
  rw [fnd_num] at hf
  refine ⟨fun i hi => ?_, fun hn => ?_⟩
  · rw [hi] at hf
    simp only [Instr.lookup, Sem.run_bind, run_underlying ht, Result.andThen_ok, hg, Sem.run_pure, hK.check, hf]
    simp
  · rw [hn] at hf
    simp only [Instr.lookup, Sem.run_bind, run_underlying ht, Result.andThen_ok, hg, Sem.run_pure, hK.check, hf]
    simp [hz]
theorem run_num_put {t kt e : TypeId} {b : Nat} {v : Value} {f : Value → Bool} {ks : List Value} (ht : P.underlying t = some (.map kt e)) (hb : w.heap[b]? = some (mapObj (numL ks))) (hK : KeyRun P w kt v f (numL ks)) (hn : ks.findIdx? f = none) :
    (Instr.mapUpdate t (.map (some b)) v (.int .i64 ks.length)).run P w = .ok () (putObj w b (mapObj (numL (ks ++ [v])))) := by
  have h := run_update_new (x := .int .i64 ks.length) ht hb hK fun x hx => by
    obtain ⟨i, hi, rfl⟩ := List.mem_iff_getElem.1 hx
    rw [numL_len] at hi
    have := numL_at ks i hi
    rw [List.getElem?_eq_some_iff] at this
    obtain ⟨_, e⟩ := this
    rw [e]
    rw [List.findIdx?_eq_none_iff] at hn
    simpa using hn _ (List.getElem_mem hi)
  rw [h, numL_snoc]
theorem run_len_map {t kt e ty : TypeId} {b : Nat} {L : List (Value × Value)} (ht : P.underlying t = some (.map kt e)) (hb : w.heap[b]? = some (mapObj L)) : (Builtin.len_ #[t] ty #[.map (some b)]).run P w = .ok (.int .i64 L.length) w := by
  have hg := run_map_of (P := P) hb
  unfold mapObj at hg
  simp [Builtin.len_, run_underlying ht, hg, entsAt_length]
  rfl
end
end Go.Proofs.YtogmlonhciiomaaDoor
