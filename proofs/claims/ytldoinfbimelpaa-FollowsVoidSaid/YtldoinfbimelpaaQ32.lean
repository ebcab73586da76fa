/- Sets to which rules are added, in memory. -/
import Derived.Laws.Tables
import Derived.Test.YtldoinfbimelpaaQ14
import Derived.Test.YtldoinfbimelpaaQ31
import Derived.Test.YtldoinfbimelpaaQ8
import Derived.Test.YtldoinfbimelpaaQ17
namespace Go.Proofs.Ytldoinfbimelpaa
open Go.RowKit

structure PreAt (w : World) (lim : Nat) (V : FV) (S : FS) : Prop where
  sets : SetsAt w V S
  inj : V.Inj S
  body : ∀ i r, S.at i = some r → ∃ b0 b1 b2 b3 b4, V.bv i = [b0, b1, b2, b3, b4] ∧ NodeAt w lim (some b0) (some b1) (some b2) (some b3) (some b4) r.body ∧ FitAt w lim (some b4) r.body
  lof : ∀ i r, S.at i = some r → lim ≤ V.fk i ∧ lim ≤ V.gk i ∧ lim ≤ V.rk i
/-- with one rule more -/
def FV.more (V : FV) (x t f g : Nat) (b : List Value) : FV :=
  { V with rk := fun q => if q = x then t else V.rk q, fk := fun q => if q = x then f else V.fk q, gk := fun q => if q = x then g else V.gk q, bv := fun q => if q = x then b else V.bv q }
theorem PreAt.add {w w' : World} {lim : Nat} {V : FV} {S : FS} (h : PreAt w lim V S) {x : Nat} {r : Rl} {e : Bool} {t f g : Nat} {n0 n1 n2 n3 n4 : Value} (hx : x < S.rules.length) (hpt : V.pm ≠ V.tm)
    (hb : But (fun q => q = V.pm ∨ q = V.rb) w w') (hpm : w'.heap[V.pm]? = some (mapObj (mapL (S.places ++ [(r.name, x)])))) (hrow : Owns w' V.rb ((V.ptrs S).set x (.pointer (some ⟨t, 0, none⟩))) 64)
    (ht : Owns w' t [n0, n1, n2, n3, n4, .bool e, .slice (some ⟨f, 0, none⟩) S.n S.n, .slice (some ⟨g, 0, none⟩) S.n S.n, .int .i64 (-1)] 67) (hf : Owns w' f (fbs (List.replicate S.n false)) 4) (hg : Owns w' g (fbs (List.replicate S.n false)) 4) (hfg : f ≠ g)
    (ht2 : w.heap.size ≤ t) (hf2 : w.heap.size ≤ f) (hg2 : w.heap.size ≤ g) (hl : lim ≤ w.heap.size) (hN : NodeAt w' lim (some n0) (some n1) (some n2) (some n3) (some n4) r.body) (hF : FitAt w' lim (some n4) r.body) (hbl : Below lim w w') :
    PreAt w' lim (V.more x t f g [n0, n1, n2, n3, n4]) (S.addRule x r e) := by
  have hm : ∀ {b : Nat} {L : List (Value × Value)}, w.heap[b]? = some (mapObj L) → b ≠ V.pm → w'.heap[b]? = some (mapObj L) := fun {b L} hb' hn => by
    rw [hb.block b (Array.getElem?_eq_some_iff.1 hb').1 (fun e => by
      rcases e with e | e
      · exact hn e
      · exact owns_map h.sets.row hb' e.symm)]
    exact hb'
  have ho : ∀ {b T : Nat} {cs : List Value}, Owns w b cs T → T ≠ 64 → Owns w' b cs T := fun {b T cs} hb' hT => hb.owns hb' (fun e => by
    rcases e with e | e
    · exact owns_map hb' h.sets.places e
    · exact owns_ne hb' h.sets.row hT e)
  have hlen : (S.addRule x r e).rules.length = S.rules.length := by simp [FS.addRule]
  have hat := addRule_at S x r e hx
  refine ⟨⟨?_, hpm, hm h.sets.tokens (fun e => hpt e.symm), ?_, ?_⟩, ?_, ?_, ?_⟩
  · rw [hlen]
    exact ho h.sets.box (by decide)
  · have hp : (V.more x t f g [n0, n1, n2, n3, n4]).ptrs (S.addRule x r e) = (V.ptrs S).set x (.pointer (some ⟨t, 0, none⟩)) := by
      apply List.ext_getElem
      · simp [FV.ptrs, hlen]
      · intro i h1 h2
        have hi : i < S.rules.length := by simpa [FV.ptrs, hlen] using h1
        rw [List.getElem_set]
        have e1 : ((V.more x t f g [n0, n1, n2, n3, n4]).ptrs (S.addRule x r e))[i] = (V.more x t f g [n0, n1, n2, n3, n4]).ptr (S.addRule x r e) i := by simp [FV.ptrs]
        have e2 : ∀ (h3 : i < (V.ptrs S).length), (V.ptrs S)[i] = V.ptr S i := fun h3 => by simp [FV.ptrs]
        rw [e1, e2 (by simpa [FV.ptrs] using hi)]
        unfold FV.ptr
        rw [hat]
        by_cases e : x = i
        · subst e
          simp [FV.more]
        · rw [if_neg e, if_neg e]
          have en : ¬ i = x := fun h' => e h'.symm
          simp only [FV.more, if_neg en]
    show Owns w' V.rb _ _
    rw [hp]
    exact hrow
  · intro i q hi
    rw [hat] at hi
    by_cases e' : x = i
    · subst e'
      rw [if_pos rfl] at hi
      obtain rfl := Option.some.inj hi
      simp only [FV.more, FV.rcs, if_true]
      exact ⟨ht, hf, hg, rfl⟩
    · rw [if_neg e'] at hi
      have en : ¬ i = x := fun h' => e' h'.symm
      obtain ⟨a1, a2, a3, a4⟩ := h.sets.rule i q hi
      simp only [FV.more, FV.rcs, if_neg en]
      exact ⟨ho a1 (by decide), ho a2 (by decide), ho a3 (by decide), a4⟩
  · intro i j q q' hi hj
    rw [hat] at hi hj
    have hold : ∀ i q, S.at i = some q → V.gk i < w.heap.size ∧ V.fk i < w.heap.size ∧ V.rk i < w.heap.size := fun i q hi => by
      obtain ⟨a1, a2, a3, -⟩ := h.sets.rule i q hi
      exact ⟨a3.lt, a2.lt, a1.lt⟩
    by_cases e1 : x = i
    · by_cases e2 : x = j
      · subst e1 e2
        refine ⟨fun hn => absurd rfl hn, ?_⟩
        simp only [FV.more, if_true]
        exact fun e => hfg e.symm
      · rw [if_neg e2] at hj
        subst e1
        have en : ¬ j = x := fun h' => e2 h'.symm
        obtain ⟨b1, b2, b3⟩ := hold j q' hj
        simp only [FV.more, if_true, if_neg en]
        refine ⟨fun _ => ⟨?_, ?_, ?_⟩, ?_⟩ <;> omega
    · rw [if_neg e1] at hi
      have en1 : ¬ i = x := fun h' => e1 h'.symm
      obtain ⟨b1, b2, b3⟩ := hold i q hi
      by_cases e2 : x = j
      · subst e2
        simp only [FV.more, if_true, if_neg en1]
        refine ⟨fun _ => ⟨?_, ?_, ?_⟩, ?_⟩ <;> omega
      · rw [if_neg e2] at hj
        have en2 : ¬ j = x := fun h' => e2 h'.symm
        simp only [FV.more, if_neg en1, if_neg en2]
        exact h.inj i j q q' hi hj
  · intro i q hi
    rw [hat] at hi
    by_cases e' : x = i
    · subst e'
      rw [if_pos rfl] at hi
      obtain rfl := Option.some.inj hi
      simp only [FV.more, if_true]
      exact ⟨_, _, _, _, _, rfl, hN, hF⟩
    · rw [if_neg e'] at hi
      have en : ¬ i = x := fun h' => e' h'.symm
      simp only [FV.more, if_neg en]
      obtain ⟨b0, b1, b2, b3, b4, a1, a2, a3⟩ := h.body i q hi
      exact ⟨b0, b1, b2, b3, b4, a1, a2.keep hbl, a3.keep hbl⟩
  · intro i q hi
    rw [hat] at hi
    by_cases e' : x = i
    · subst e'
      simp only [FV.more, if_true]
      exact ⟨by omega, by omega, by omega⟩
    · rw [if_neg e'] at hi
      have en : ¬ i = x := fun h' => e' h'.symm
      simp only [FV.more, if_neg en]
      exact h.lof i q hi

/-- a rule is added: the map has got its name (wM), its row of cells has been made (w), the pointer is stored -/
theorem PreAt.round {wr wM w : World} {lim B k n t f f' : Nat} {V : FV} {S : FS} {r : Rl} {e : Bool} {n0 n1 n2 n3 n4 : Value} (h : PreAt wr lim V S) (hV : V.sb = B + 1 + 1 + 1 ∧ V.pm = B ∧ V.tm = B + 1 ∧ V.rb = B + 1 + 1) (hS : S.n = n) (hk : k < S.rules.length)
    (hbp : But (fun q => q = B) wr wM) (hmn : wM.heap[B]? = some (mapObj (mapL (S.places ++ [(r.name, k)])))) (hw : Grew wM w) (hrw : Owns w (B + 1 + 1) (V.ptrs S) 64)
    (ht : Owns w t [n0, n1, n2, n3, n4, .bool e, .slice (some ⟨f, 0, none⟩) n n, .slice (some ⟨f', 0, none⟩) n n, .int .i64 (-1)] 67) (hf : Owns w f (fbs (List.replicate n false)) 4) (hg : Owns w f' (fbs (List.replicate n false)) 4) (hff : f ≠ f')
    (ht2 : wM.heap.size ≤ t) (hf2 : wM.heap.size ≤ f) (hg2 : wM.heap.size ≤ f') (hl : lim ≤ wr.heap.size) (hB : lim ≤ B) (hN : NodeAt wr lim (some n0) (some n1) (some n2) (some n3) (some n4) r.body) (hF : FitAt wr lim (some n4) r.body) :
    ∃ V' : FV, (V'.sb = B + 1 + 1 + 1 ∧ V'.pm = B ∧ V'.tm = B + 1 ∧ V'.rb = B + 1 + 1) ∧ PreAt (w.setCell ⟨B + 1 + 1, k, none⟩ (.pointer (some ⟨t, 0, none⟩))) lim V' (S.addRule k r e) ∧
      But (fun q => q = B ∨ q = B + 1 + 1) wr (w.setCell ⟨B + 1 + 1, k, none⟩ (.pointer (some ⟨t, 0, none⟩))) := by
  have hwW := hbp.size
  have hbs : But (fun q => q = B + 1 + 1) w (w.setCell ⟨B + 1 + 1, k, none⟩ (.pointer (some ⟨t, 0, none⟩))) := by rw [setCell_put hrw]; exact But.put (F := fun q => q = B + 1 + 1) rfl
  have hbr : But (fun q => q = B ∨ q = B + 1 + 1) wr (w.setCell ⟨B + 1 + 1, k, none⟩ (.pointer (some ⟨t, 0, none⟩))) :=
    ((But.refl (fun q => q = B ∨ q = B + 1 + 1) wr).trans (hbp.trans (But.of_grew (F := fun q => q = B) hw) (fun _ _ h => h)) (fun _ _ h => Or.inl h)).trans hbs (fun _ _ h => Or.inr h)
  have hwr9 := hrw.set k (.pointer (some ⟨t, 0, none⟩))
  obtain ⟨v1, v2, v3, v4⟩ := hV
  have hBR : B + 1 + 1 < wr.heap.size := by
    have := h.sets.row.lt
    rw [v4] at this
    exact this
  have ht9 := hbs.owns ht (fun e => by omega)
  have hf9 := hbs.owns hf (fun e => by omega)
  have hg9 := hbs.owns hg (fun e => by omega)
  have hm9 : (w.setCell ⟨B + 1 + 1, k, none⟩ (.pointer (some ⟨t, 0, none⟩))).heap[B]? = some (mapObj (mapL (S.places ++ [(r.name, k)]))) := by
    have h1 : w.heap[B]? = some (mapObj (mapL (S.places ++ [(r.name, k)]))) := by rw [hw.block B (Array.getElem?_eq_some_iff.1 hmn).1]; exact hmn
    rw [hbs.block B (Array.getElem?_eq_some_iff.1 h1).1 (fun e => by omega)]; exact h1
  generalize w.setCell ⟨B + 1 + 1, k, none⟩ (.pointer (some ⟨t, 0, none⟩)) = w9 at *
  have hl9 : Below lim wr w9 := hbr.below hl (fun q e => by rcases e with e | e <;> omega)
  refine ⟨V.more k t f f' [n0, n1, n2, n3, n4], ⟨v1, v2, v3, v4⟩, ?_, hbr⟩
  subst hS
  exact PreAt.add h hk (by omega) (by rw [v2, v4]; exact hbr) (by rw [v2]; exact hm9) (by rw [v4]; exact hwr9) ht9 hf9 hg9 hff (by omega) (by omega) (by omega) hl (hN.keep hl9) (hF.keep hl9) hl9
end Go.Proofs.Ytldoinfbimelpaa

/- follows.Of: the sets as they are laid, and as they begin to grow. -/
namespace Go.Proofs.Ytldoinfbimelpaa
open Go.RowKit

theorem Gr.ofTo_has (g : Gr) (S : List Int) : ∀ j i (h : i < g.rules.length), i < j → (S.any fun y => g.rules[i].sort == y) = true → (i : Int) ∈ g.ofTo S j
  | 0, i, _, h, _ => by omega
  | j + 1, i, h, hij, hs => by
    rw [Gr.ofTo]
    by_cases hj : i = j
    · subst hj
      rw [if_pos (by rw [Gr.isAt_get h]; exact hs)]
      simp
    · have := Gr.ofTo_has g S j i h (by omega) hs
      split
      · exact List.mem_append_left _ this
      · exact this
theorem of_has (g : Gr) (S : List Int) (i : Nat) (h : i < g.rules.length) (hs : (S.any fun y => g.rules[i].sort == y) = true) : ∃ k : Nat, (g.of S)[k]? = some (i : Int) := by
  obtain ⟨k, hk, e⟩ := List.mem_iff_getElem.1 (Gr.ofTo_has g S g.rules.length i h h hs)
  exact ⟨k, by unfold Gr.of; rw [List.getElem?_eq_getElem hk, e]⟩
theorem lookB_mem {l : List (ByteArray × Nat)} {nm : ByteArray} {i : Nat} (h : lookB l nm = some i) : ∃ x ∈ l, x.2 = i := by
  induction l with
  | nil => cases h
  | cons x r ih =>
    rw [lookB] at h
    split at h
    · exact ⟨x, by simp, Option.some.inj h⟩
    · obtain ⟨y, hy, e⟩ := ih h
      exact ⟨y, by simp [hy], e⟩
theorem ofTo_some {g : Gr} {es : List Bool} {T P : List Int} : ∀ {j k i : Nat} {q : Rl}, k < j → P[k]? = some (i : Int) → g.rules[i]? = some q → (FS.ofTo g es T P j).at i = some ⟨q.body, es.getD i false, List.replicate (T.length + 1) false, List.replicate (T.length + 1) false, -1⟩
  | 0, k, _, _, hk, _, _ => absurd hk (by omega)
  | j + 1, k, i, q, hk, hP, hq => by
    have ih : k ≠ j → (FS.ofTo g es T P j).at i = some ⟨q.body, es.getD i false, List.replicate (T.length + 1) false, List.replicate (T.length + 1) false, -1⟩ := fun h => ofTo_some (by omega) hP hq
    rw [FS.ofTo]
    split
    · rename_i y hy
      split
      · rename_i r hr
        have hlt : y.toNat < (FS.ofTo g es T P j).rules.length := by rw [(ofTo_len g es T P j).1]; exact (List.getElem?_eq_some_iff.1 hr).1
        rw [addRule_at _ _ _ _ hlt]
        by_cases e : y.toNat = i
        · subst e
          rw [if_pos rfl, (ofTo_len g es T P j).2.1]
          rw [hq] at hr
          obtain rfl := Option.some.inj hr
          rfl
        · rw [if_neg e]
          refine ih fun h => e ?_
          subst h
          rw [hP] at hy
          obtain rfl := Option.some.inj hy
          simp
      · rename_i hr
        refine ih fun h => ?_
        subst h
        rw [hP] at hy
        obtain rfl := Option.some.inj hy
        rw [Int.toNat_natCast, hq] at hr
        cases hr
    · rename_i hy
      refine ih fun h => ?_
      subst h
      rw [hP] at hy
      cases hy
theorem ofTo_wf {g : Gr} {es : List Bool} {T P : List Int} {j : Nat} (hl : g.rules.length ≤ 1000) (hT : T.length + 1 ≤ 1000) (hP : ∀ y ∈ P, 0 ≤ y) (hany : ∃ i r, (FS.ofTo g es T P j).at i = some r) : (FS.ofTo g es T P j).Wf := by
  obtain ⟨l1, l2, l3⟩ := ofTo_len g es T P j
  refine ⟨by rw [l1]; exact hl, fun nm i h => ?_, fun nm i h => ?_, by rw [l2]; exact hT, hany, fun i r h => ?_, fun i r h => ?_⟩
  · obtain ⟨x, hx, rfl⟩ := lookB_mem h
    obtain ⟨k, -, y, r, -, h2, rfl⟩ := mem_places hx
    rw [l1]
    exact (List.getElem?_eq_some_iff.1 h2).1
  · rw [l3] at h
    obtain ⟨x, hx, rfl⟩ := lookB_mem h
    obtain ⟨k, hk, y, r, -, -, rfl⟩ := mem_tokTo hx
    rw [l2]
    show k + 1 < T.length + 1
    omega
  · obtain ⟨k, -, -, q, -, rfl⟩ := ofTo_at hP h
    rw [l2]
    simp
  · obtain ⟨k, -, -, q, -, rfl⟩ := ofTo_at hP h
    exact ⟨by simp, by simp⟩
theorem PreAt.start {w : World} {lim st : Nat} {V : FV} {S : FS} {r : FR} (h : PreAt w lim V S) (hw : S.Wf) (hl : lim ≤ w.heap.size) (hi : S.at st = some r) : StAt (w.setCell ⟨V.gk st, 0, none⟩ (.bool true)) lim V (S.start st) ∧ Below lim w (w.setCell ⟨V.gk st, 0, none⟩ (.bool true)) := by
  obtain ⟨-, -, h3, -⟩ := h.sets.rule st r hi
  have hb : But (fun k => k = V.gk st) w (w.setCell ⟨V.gk st, 0, none⟩ (.bool true)) := by rw [setCell_put h3]; exact But.put (F := fun k => k = V.gk st) rfl
  have ho : Owns (w.setCell ⟨V.gk st, 0, none⟩ (.bool true)) (V.gk st) (fbs ((S.fol st).set 0 true)) 4 := by
    have h9 := h3.set 0 (.bool true)
    rw [fbs_set] at h9
    have e : S.fol st = r.follow := by unfold FS.fol; rw [hi]
    rw [e]
    exact h9
  have hbl : Below lim w (w.setCell ⟨V.gk st, 0, none⟩ (.bool true)) := hb.below hl (fun q e => by subst e; exact (h.lof st r hi).2.1)
  have h0 : StAt w lim V S := ⟨h.sets, hw, h.inj, h.body, hl, h.lof⟩
  exact ⟨h0.next (h.sets.setFol h.inj hi hb ho) (hw.setFol st (by rw [List.length_set]; exact FS.fol_len hw hi)) (Kin.mod S st _ fun _ => rfl) hbl, hbl⟩
/-- the sets at the beginning -/
def FS.begun (g : Gr) (es : List Bool) (st : Nat) : FS := (FS.ofTo g es (g.of [1, 3]) (g.of [0]) (g.of [0]).length).start st
/-- the three ways to grow -/
def FS.gr : Nat → FS → Nat → Bool × FS
  | 0 => FS.gBegin
  | 1 => FS.gFollow
  | _ => FS.gLow
/-- behind so many rounds of each of them -/
def FS.stage (S : FS) (K : Nat → Nat) : Nat → FS
  | 0 => S
  | n + 1 => FS.rounds (FS.gr n) (FS.stage S K n) (K n + 1)
structure FS.Ends (S : FS) (K : Nat → Nat) : Prop where
  all : ∀ n, n < 3 → FS.settled (FS.gr n) (FS.stage S K n) (K n)
  few : ∀ k, k ≤ K 2 → ∀ j, j < S.rules.length → ∀ r, (FS.grown FS.gLow (FS.rounds FS.gLow (FS.stage S K 2) k) j).2.at j = some r → -1 ≤ (FS.grown FS.gLow (FS.rounds FS.gLow (FS.stage S K 2) k) j).2.lowN r.body ∧ (FS.grown FS.gLow (FS.rounds FS.gLow (FS.stage S K 2) k) j).2.lowN r.body ≤ 1000000
/-- the closure of a way to grow -/
def growV (sb : Nat) : Nat → Value
  | 0 => .func (.func 26) #[.pointer (some ⟨sb, 0, none⟩)] #[]
  | 1 => .func (.func 27) #[.pointer (some ⟨sb, 0, none⟩)] #[]
  | _ => .func (.func 28) #[.pointer (some ⟨sb, 0, none⟩)] #[]
theorem grown_ok (V : FV) (lim : Nat) (S0 : FS) (K : Nat → Nat) (he : S0.Ends K) (n : Nat) (hn : n < 3) (q : Nat) (hq : q ≤ K n) (w : World) (h : StAt w lim V (FS.rounds (FS.gr n) (FS.stage S0 K n) q)) (hk : Kin S0 (FS.rounds (FS.gr n) (FS.stage S0 K n) q)) :
    Calls Try.prog 29 #[.pointer (some ⟨V.sb, 0, none⟩), growV V.sb n] w (GrIs V lim (FS.grown (FS.gr n) (FS.rounds (FS.gr n) (FS.stage S0 K n) q) (FS.rounds (FS.gr n) (FS.stage S0 K n) q).rules.length) (FS.rounds (FS.gr n) (FS.stage S0 K n) q) w) := by
  obtain rfl | rfl | rfl : n = 0 ∨ n = 1 ∨ n = 2 := by omega
  · exact grown_gBegin V lim _ w h
  · exact grown_gFollow V lim _ w h
  · refine grown_gLow V lim _ (fun j hj r hr => he.few q hq j ?_ r hr) w h
    rw [← hk.len]; exact hj
/-- what Of gives -/
def OfIs (g : Gr) (es : List Bool) (st : Nat) (K : Nat → Nat) (W : World) (e : Ending) (W' : World) : Prop := ∃ V, e = .returned (.tuple #[.pointer (some ⟨V.sb, 0, none⟩), .int .i64 0]) ∧ StAt W' W.heap.size V (FS.stage (FS.begun g es st) K 3) ∧ Below W.heap.size W W'
theorem PreAt.keep {w w' : World} {lim : Nat} {V : FV} {S : FS} (h : PreAt w lim V S) (hg : Grew w w') (hl : lim ≤ w.heap.size) : PreAt w' lim V S :=
  ⟨h.sets.keep hg, h.inj, fun i r hi => by obtain ⟨b0, b1, b2, b3, b4, h1, h2, h3⟩ := h.body i r hi; exact ⟨b0, b1, b2, b3, b4, h1, h2.keep (hg.mono hl), h3.keep (hg.mono hl)⟩, h.lof⟩
theorem StAt.own_lt {w : World} {lim : Nat} {V : FV} {S : FS} (h : StAt w lim V S) {q : Nat} (hq : V.Own S q) : q < w.heap.size := by
  obtain ⟨i, r, h1, h2⟩ := hq
  obtain ⟨a, b, c, -⟩ := h.sets.rule i r h1
  rcases h2 with rfl | rfl | rfl
  · exact b.lt
  · exact c.lt
  · exact a.lt
theorem Owns.lt3 {w : World} {b T : Nat} {x : Nat → Value} (h : Owns w b [x 0, x 1, x 2] T) {i : Nat} (hi : i < 3) : w.cell? ⟨b, i, none⟩ = some (x i) := by
  refine h.cell_at ?_
  obtain rfl | rfl | rfl : i = 0 ∨ i = 1 ∨ i = 2 := by omega
  all_goals rfl
theorem rounds_succ (f : FS → Nat → Bool × FS) (S : FS) (k : Nat) : FS.rounds f S (k + 1) = (FS.grown f (FS.rounds f S k) S.rules.length).2 := rfl
end Go.Proofs.Ytldoinfbimelpaa

/- A rule's struct is built. -/
namespace Go.Proofs.Ytldoinfbimelpaa
open Go.RowKit

theorem build_frule (m0 : Int) (m1 m2 : ByteArray) (m3 m6 : Option Addr) (m4 m5 m7 m8 : Nat) (b : Bool) (f f' n : Nat) (u : World) :
    (Instr.build 67 #[(0, .agg #[.int .u8 m0, .string m1, .string m2, .slice m3 m4 m5, .slice m6 m7 m8]), (1, .bool b), (2, .slice (some ⟨f, 0, none⟩) n n), (3, .slice (some ⟨f', 0, none⟩) n n), (4, .int .i64 (-1))]).run Try.prog u
      = .ok (.agg #[.int .u8 m0, .string m1, .string m2, .slice m3 m4 m5, .slice m6 m7 m8, .bool b, .slice (some ⟨f, 0, none⟩) n n, .slice (some ⟨f', 0, none⟩) n n, .int .i64 (-1)]) u :=
  run_build u 67 _ _ (by kernel_rfl)
theorem exec_build {P : Program} {ev : Operand → Value} {o : Oper} {t : TypeId} {parts : Array (Nat × Operand)} {v : Value} {w : World} (B : Array (Nat × Value) → Sem Value) (hop : o.op = .build t parts) (hB : B = Instr.build t) (h : (B (parts.map fun x => (x.1, ev x.2))).run P w = .ok v w) : (execOp ev o).run P w = .ok (.value v) w := by
  unfold execOp
  simp only [hop]
  subst hB
  simp [h]
end Go.Proofs.Ytldoinfbimelpaa
