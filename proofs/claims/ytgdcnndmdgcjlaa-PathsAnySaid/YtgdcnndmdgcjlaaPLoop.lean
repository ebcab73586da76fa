/- The rounds of reach over those who wait: what each of them keeps. -/
import Derived.Test.YtgdcnndmdgcjlaaPReachA
namespace Go.Proofs.Ytgdcnndmdgcjlaa
open Go.RowKit

/-- over those who wait for the ends of a call: whom was told of the new one -/
structure RLoop (E : Env) (S S1 : St) (c : Nat × Nat) (i : Nat) (T : St) (seen : List Nat) : Prop where
  inv : Inv E T
  le : Le S1 T
  calls : T.calls = S.calls
  waits : ∀ d, T.waits d = S.waits d
  opn : ∀ d k x, Opn T d k x → Opn S d k x ∨ (d = c ∧ k = i ∧ x ∈ S.waits c)
  got : ∀ j (h : j < (S.waits c).length), j ∈ seen → ((S.waits c)[j].2, i) ∈ T.seen (S.waits c)[j].1

section
variable {E : Env} {S S1 T T' : St} {c : Nat × Nat} {p : Pl} {v : Value} {seen : List Nat}
theorem RLoop.start (hI : Inv E S) (hc : c ∈ S.calls) (hn : p ∉ S.seen (some c)) (hr : p.1 < E.N.states.length ∧ p.2 ≤ E.w.length) (hL : Lv E.N E.w E.p0 E.over (some c) p) (v : Value) : RLoop E S (S.see E (some c) p v) c p.2 (S.see E (some c) p v) [] := by
  obtain ⟨h1, _⟩ := hI.see (κ := some c) hc hn hr hL v
  refine ⟨h1, Le.refl _, rfl, fun _ => rfl, fun d k x ho => ?_, fun j h hj => by cases hj⟩
  rcases see_opn ho with h2 | ⟨h2, _, h3, h4⟩
  · exact .inl h2
  · simp at h2
    subst h2
    exact .inr ⟨rfl, h3, h4⟩
theorem RLoop.next (h : RLoop E S S1 c p.2 T seen) {j : Nat} (hj : j < (S.waits c).length) (hR : Reached E T T' (S.waits c)[j].1 ((S.waits c)[j].2, p.2)) : RLoop E S S1 c p.2 T' (seen ++ [j]) := by
  refine ⟨hR.inv, h.le.trans hR.le, hR.calls.trans h.calls, fun d => (hR.waits d).trans (h.waits d), fun d k x ho => h.opn d k x (hR.opn d k x ho), fun m hm hmem => ?_⟩
  rcases List.mem_append.1 hmem with h1 | h1
  · exact hR.le.seen _ _ (h.got m hm h1)
  · simp at h1
    subst h1
    exact hR.got
theorem RLoop.done (h : RLoop E S (S.see E (some c) p v) c p.2 T seen) (hle : Le S (S.see E (some c) p v)) (hall : ∀ j, j < (S.waits c).length → j ∈ seen) : Reached E S T (some c) p := by
  refine ⟨h.inv, hle.trans h.le, h.le.seen _ _ ((see_seen S E (some c) p v _ _).2 (.inr ⟨rfl, rfl⟩)), h.calls, h.waits, fun d k x ho => ?_⟩
  rcases h.opn d k x ho with h1 | ⟨rfl, rfl, h3⟩
  · exact h1
  · obtain ⟨j, hj, hx⟩ := List.mem_iff_getElem.1 h3
    have h4 := h.got j hj (hall j hj)
    rw [hx] at h4
    exact absurd h4 ho.2.2
/-- who waits may go on -/
theorem RLoop.live (h : RLoop E S S1 c p.2 T seen) (hI : Inv E S) (hL : Lv E.N E.w E.p0 E.over (some c) p) (hst : p.1 = E.N.stop c.1) {j : Nat} (hj : j < (S.waits c).length) :
    T.has (S.waits c)[j].1 ∧ (S.waits c)[j].2 < E.N.states.length ∧ Lv E.N E.w E.p0 E.over (S.waits c)[j].1 ((S.waits c)[j].2, p.2) := by
  have hm : (S.waits c)[j] ∈ S.waits c := List.getElem_mem hj
  obtain ⟨h1, h2⟩ := hI.waitsR c _ hm
  obtain ⟨s, e, h3, h4, h5, h6, h7, h8⟩ := hI.waitS c _ hm
  refine ⟨?_, h2, ?_⟩
  · exact (has_same h.calls _).2 h1
  · rw [← h8]
    refine Lv.back h3 h4 h5 h6 ?_
    rw [h7, ← hst]
    exact hL
end

theorem nodup_below {l : List Nat} {m : Nat} (h : l.Nodup) (hl : ∀ j ∈ l, j < m) : l.length ≤ m := by
  have := List.Nodup.length_le_of_subset h (show l ⊆ List.range m from fun j hj => List.mem_range.2 (hl j hj))
  rwa [List.length_range] at this
theorem seen_more {seen : List Nat} {m j k : Nat} {last : Nat} (h : seen.Nodup ∧ (∀ j ∈ seen, j < m) ∧ (seen ≠ [] → 1 ≤ last) ∧ k + seen.length = m) (hn : j ∉ seen) (hj : j < m) :
    k - 1 < k ∧ ((seen ++ [j]).Nodup ∧ (∀ i ∈ seen ++ [j], i < m) ∧ (seen ++ [j] ≠ [] → 1 ≤ m) ∧ k - 1 + (seen ++ [j]).length = m) := by
  obtain ⟨h1, h2, _, h4⟩ := h
  have h5 : (seen ++ [j]).Nodup := by
    rw [List.nodup_append]
    exact ⟨h1, by simp, fun a ha b hb => by simp at hb; subst hb; exact fun e => hn (e ▸ ha)⟩
  have h6 : ∀ i ∈ seen ++ [j], i < m := fun i hi => by
    rcases List.mem_append.1 hi with h | h
    · exact h2 i h
    · simp at h; omega
  have h7 := nodup_below h5 h6
  simp at h7
  refine ⟨by omega, h5, h6, fun _ => by omega, ?_⟩
  simp
  omega

theorem seen_more2 {seen : List Nat} {m m' M j k : Nat} {last : Nat} (h : seen.Nodup ∧ (∀ j ∈ seen, j < m) ∧ (seen ≠ [] → 1 ≤ last) ∧ k + seen.length = M) (hm : m ≤ m') (hM : m ≤ M) (hn : j ∉ seen) (hj : j < m) :
    k - 1 < k ∧ ((seen ++ [j]).Nodup ∧ (∀ i ∈ seen ++ [j], i < m') ∧ (seen ++ [j] ≠ [] → 1 ≤ m) ∧ k - 1 + (seen ++ [j]).length = M) := by
  obtain ⟨h1, h2, _, h4⟩ := h
  have h5 : (seen ++ [j]).Nodup := by
    rw [List.nodup_append]
    exact ⟨h1, by simp, fun a ha b hb => by simp at hb; subst hb; exact fun e => hn (e ▸ ha)⟩
  have h6 : ∀ i ∈ seen ++ [j], i < m := fun i hi => by
    rcases List.mem_append.1 hi with h | h
    · exact h2 i h
    · simp at h; omega
  have h7 := nodup_below h5 h6
  simp at h7
  refine ⟨by omega, h5, fun i hi => Nat.lt_of_lt_of_le (h6 i hi) hm, fun _ => by omega, ?_⟩
  simp
  omega

/-- beside the search: a box of a place, and a walk over one of its maps -/
structure Side (T : St) (w : World) (B : Nat) (cs : List Value) (Ty : Nat) (r b since : Nat) (seen : List Nat) (last : Nat) : Prop where
  box : Owns w B cs Ty
  boxn : ¬T.mine B
  it : IterAt w r b since seen last
  itn : ¬T.mine r
section
variable {E : Env} {S S' T T' : St} {w w' : World} {B r b since last Ty : Nat} {cs : List Value} {seen : List Nat}
theorem IterAt.lt (h : IterAt w r b since seen last) : r < w.heap.size := (Array.getElem?_eq_some_iff.1 h).1
theorem Side.frm (h : Side T w B cs Ty r b since seen last) (hf : Frm T T' w w') : Side T' w' B cs Ty r b since seen last := by
  obtain ⟨h1, h2⟩ := hf.owns h.box h.boxn
  refine ⟨h1, h2, ?_, fun hm => ?_⟩
  · have := h.it
    unfold IterAt at *
    rw [hf.but.block r h.it.lt h.itn]
    exact this
  · have := h.it.lt
    rcases hf.new r hm with h3 | h3
    · exact h.itn h3
    · omega
theorem Side.ne (h : Side T w B cs Ty r b since seen last) : B ≠ r := by
  intro e
  have h1 := h.box
  have h2 := h.it
  unfold Owns at h1
  unfold IterAt at h2
  rw [e, h2] at h1
  cases h1
theorem But.drew0 {F : Nat → Prop} {w1 : World} (hw1 : w1 = w ∨ w1 = w.drew) : But F w w1 := by
  rcases hw1 with rfl | rfl
  · exact But.refl _ _
  · exact (But.refl _ _).drew
theorem But.step {w1 : World} (hw1 : w1 = w ∨ w1 = w.drew) (r : Nat) (o : Obj) : But (fun k => k = r) w (putObj w1 r o) :=
  (But.drew0 hw1).trans (But.put (F := fun k => k = r) rfl) fun _ _ h => h
/-- what was not there at the start may be written -/
theorem Frm.newer {w0 : World} (h : Frm S T w0 w) (hb : But (fun k => k = r) w w') (hr : w0.heap.size ≤ r) : Frm S T w0 w' :=
  ⟨h.but.trans hb fun i hi e => by omega, h.new⟩
/-- a step of the walk -/
theorem Side.step (h : Side T w B cs Ty r b since seen last) {w1 : World} (hw1 : w1 = w ∨ w1 = w.drew) (j n : Nat) : Side T (putObj w1 r (.mapIter (some b) since (seen ++ [j]).toArray n)) B cs Ty r b since (seen ++ [j]) n := by
  have hs : w1.heap.size = w.heap.size := by rcases hw1 with rfl | rfl <;> rfl
  refine ⟨(But.step hw1 r _).owns h.box h.ne, h.boxn, ?_, h.itn⟩
  unfold IterAt
  exact putObj_same (by rw [hs]; exact h.it.lt) _
theorem Side.drew (h : Side T w B cs Ty r b since seen last) {w1 : World} (hw1 : w1 = w ∨ w1 = w.drew) : Side T w1 B cs Ty r b since seen last := by
  rcases hw1 with rfl | rfl <;> exact ⟨h.box, h.boxn, h.it, h.itn⟩
theorem Side.grew (h : Side T w B cs Ty r b since seen last) (hg : Grew w w') : Side T w' B cs Ty r b since seen last := by
  refine ⟨h.box.keep hg, h.boxn, ?_, h.itn⟩
  have := h.it
  unfold IterAt at *
  rw [hg.block r h.it.lt]
  exact this
theorem Rep.step (h : Rep E T w) {w1 : World} (hw1 : w1 = w ∨ w1 = w.drew) (hr : ¬T.mine r) (o : Obj) : Rep E T (putObj w1 r o) := h.but (But.step hw1 r o) fun _ hb e => hr (e ▸ hb)
theorem Rep.drew0 (h : Rep E T w) {w1 : World} (hw1 : w1 = w ∨ w1 = w.drew) : Rep E T w1 := by
  rcases hw1 with rfl | rfl
  · exact h
  · exact h.drew
theorem Frm.drew0 {w0 : World} (h : Frm S T w0 w) {w1 : World} (hw1 : w1 = w ∨ w1 = w.drew) : Frm S T w0 w1 := ⟨h.but.trans (But.drew0 (F := fun _ => False) hw1) (fun _ _ h => h.elim), h.new⟩
end
end Go.Proofs.Ytgdcnndmdgcjlaa
