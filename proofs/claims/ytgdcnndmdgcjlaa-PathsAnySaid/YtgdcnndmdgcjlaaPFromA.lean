/- paths.from: what holds between two places that are gone on from; the last place is taken off the list. -/
import Derived.Test.YtgdcnndmdgcjlaaPGoes
namespace Go.Proofs.Ytgdcnndmdgcjlaa
open Go.RowKit

structure FLoop (E : Env) (S : St) : Prop where
  inv : Inv E S
  opn : ∀ d k y, ¬Opn S d k y
  begun : Begun E S
  first : E.p0 ∈ S.seen none
  done : ∀ κ p, p ∈ S.seen κ → (κ, p) ∈ S.todo ∨ Clos E S κ p.1 p.2 ∨ (κ = none ∧ (p.1 : Int) = E.over)
def St.pop (S : St) (l : List (Key × Pl)) (v : Value) : St := { S with todo := l, tv := v }
section
variable {E : Env} {S S' T T' : St} {w w' : World} {l : List (Key × Pl)} {x : Key × Pl} {v : Value}
theorem FLoop.ends (h : FLoop E S) (ht : S.todo = []) {κ : Key} {p : Pl} : p ∈ S.seen κ ↔ Lv E.N E.w E.p0 E.over κ p :=
  ⟨h.inv.sound κ p, whole h.inv h.opn h.begun h.first fun κ p hp => (h.done κ p hp).resolve_left (by rw [ht]; simp)⟩
theorem Inv.pop (h : Inv E S) (ht : S.todo = l ++ [x]) : Inv E (S.pop l v) :=
  ⟨h.callsN, h.seenN, h.endsN, h.waitsN, (by have := h.todoN; rw [ht, List.nodup_append] at this; exact this.1), h.callR, h.seenR, h.endsIff, fun c y hy => ⟨(has_same rfl _).2 (h.waitsR c y hy).1, (h.waitsR c y hy).2⟩, fun κ p hp => (has_same rfl _).2 (h.seenH κ p hp), h.waitsH, h.all, h.sound, h.waitS,
    fun y hy => h.todoS y (by rw [ht]; exact List.mem_append_left _ hy)⟩
theorem FLoop.over (h : FLoop E S) (ht : S.todo = l ++ [x]) (ho : x.1 = none ∧ (x.2.1 : Int) = E.over) : FLoop E (S.pop l v) := by
  refine ⟨h.inv.pop ht, h.opn, h.begun, h.first, fun κ p hp => ?_⟩
  rcases h.done κ p hp with h1 | h1
  · rw [ht] at h1
    rcases List.mem_append.1 h1 with h2 | h2
    · exact .inl h2
    · simp at h2
      subst h2
      exact .inr (.inr ho)
  · exact .inr h1
theorem FLoop.gone (h : FLoop E S) (ht : S.todo = l ++ [x]) (hg : Gone E (S.pop l v) T x.1 x.2.1 x.2.2) : FLoop E T := by
  refine ⟨hg.inv, fun d k y ho => h.opn d k y (hg.opn d k y ho), hg.begun h.begun, hg.le.seen _ _ h.first, fun κ p hp => ?_⟩
  rcases hg.le.fresh κ p hp with h1 | h1
  · rcases h.done κ p h1 with h2 | h2 | h2
    · rw [ht] at h2
      rcases List.mem_append.1 h2 with h3 | h3
      · exact .inl (hg.le.mem_todo h3)
      · simp at h3
        subst h3
        exact .inr (.inl hg.clos)
    · exact .inr (.inl (Clos.mono (S := S.pop l v) hg.le h2))
    · exact .inr (.inr h2)
  · exact .inl h1
theorem left_lt (h : FLoop E S) (ht : S.todo = l ++ [x]) (hT : Le (S.pop l v) T) : left E T < left E S := by
  have hx : x ∈ S.todo := by rw [ht]; simp
  have hxs := h.inv.todoS x hx
  have hu : x ∈ E.univ := h.inv.univ (h.inv.seenH _ _ hxs) (h.inv.seenR _ _ hxs)
  have hnl : x ∉ l := by
    have := h.inv.todoN
    rw [ht, List.nodup_append] at this
    exact fun hm => this.2.2 x hm x (by simp) rfl
  obtain ⟨m, hm1, hm2⟩ := hT.todo
  refine filter_lt (y := x) (fun y _ hy => ?_) hu (by simp [hx]) ?_
  · simp only [decide_eq_true_eq] at hy ⊢
    rcases hy with h1 | h1
    · exact .inl fun hs => h1 (hT.seen _ _ hs)
    · rw [hm1] at h1
      rcases List.mem_append.1 h1 with h2 | h2
      · exact .inr (by rw [ht]; exact List.mem_append_left _ h2)
      · exact .inl (hm2 y h2)
  · simp only [decide_eq_false_iff_not, not_or]
    refine ⟨fun hn => hn (hT.seen _ _ hxs), fun hm => ?_⟩
    rw [hm1] at hm
    rcases List.mem_append.1 hm with h2 | h2
    · exact hnl h2
    · exact hm2 x h2 hxs

theorem todoCells_len (S : St) : S.todoCells.length = S.todo.length * 3 := by
  unfold St.todoCells
  generalize S.todo = t
  induction t with
  | nil => rfl
  | cons a r ih => rw [List.flatMap_cons, List.length_append, ih]; simp; omega
theorem todoCells_snoc (h : S.todo = l ++ [x]) : S.todoCells = (S.pop l v).todoCells ++ [ptrV (S.loc (.walk x.1)), .int .i64 x.2.1, .int .i64 x.2.2] := by
  unfold St.todoCells St.pop
  rw [h]
  simp [List.flatMap_append]
/-- the last one -/
theorem Rep.last (h : Rep E S w) (ht : S.todo = l ++ [x]) : ∃ g cap, S.tv = .slice (some ⟨g, 0, none⟩) (l.length + 1) cap ∧ l.length + 1 ≤ cap ∧ cap ≤ maxLen ∧ g < w.heap.size ∧
    w.cell? ⟨g, l.length * 3, none⟩ = some (ptrV (S.loc (.walk x.1))) ∧ w.cell? ⟨g, l.length * 3 + 1, none⟩ = some (.int .i64 x.2.1) ∧ w.cell? ⟨g, l.length * 3 + 2, none⟩ = some (.int .i64 x.2.2) ∧
    ∀ w1, w.setCell ⟨S.loc .srch, 7, none⟩ (.slice (some ⟨g, 0, none⟩) l.length l.length) = w1 → Rep E (S.pop l (.slice (some ⟨g, 0, none⟩) l.length l.length)) w1 ∧ Frm S (S.pop l (.slice (some ⟨g, 0, none⟩) l.length l.length)) w w1 := by
  have hrow := h.row
  have hn : S.todo.length = l.length + 1 := by rw [ht]; simp
  have hc := todoCells_snoc (v := .slice none 0 0) ht
  have hlen := todoCells_len (S.pop l (.slice none 0 0))
  rcases hrow.2 with ⟨_, h0⟩ | ⟨g, cap, cur, hv, hb, hg, hnc, hcm, hcs, htake⟩
  · omega
  have hcell : ∀ k, k < 3 → w.cell? ⟨g, l.length * 3 + k, none⟩ = [ptrV (S.loc (.walk x.1)), .int .i64 x.2.1, .int .i64 x.2.2][k]? := by
    intro k hk
    have h1 : S.todoCells[l.length * 3 + k]? = [ptrV (S.loc (.walk x.1)), .int .i64 x.2.1, .int .i64 x.2.2][k]? := by
      rw [hc, List.getElem?_append_right (by rw [hlen]; show l.length * 3 ≤ _; omega), hlen]
      congr 1
      show l.length * 3 + k - l.length * 3 = k
      omega
    rw [← h1]
    obtain ⟨u, hu⟩ : ∃ u, S.todoCells[l.length * 3 + k]? = some u := by
      rw [h1]
      exact ⟨[ptrV (S.loc (.walk x.1)), .int .i64 x.2.1, .int .i64 x.2.2][k]'(by simpa using hk), List.getElem?_eq_getElem (by simpa using hk)⟩
    rw [hu]
    exact looseRow_cells hrow (g := g) (by rw [hv]; rfl) _ _ hu
  refine ⟨g, cap, by rw [hv, hn], by omega, hcm, (Array.getElem?_eq_some_iff.1 hg).1, hcell 0 (by omega), hcell 1 (by omega), hcell 2 (by omega), fun w1 hw1 => ?_⟩
  have hgne : ∀ r, S.ex r → S.loc r ≠ g := fun r hr e => h.far hr (by rw [hv, e]; rfl)
  rw [setCell_put h.srch] at hw1
  subst hw1
  have hsz := h.lt (r := .srch) trivial
  refine ⟨⟨fun r hr => ?_, h.lo, h.inj, ?_⟩, But.put (.inl ⟨.srch, trivial, rfl⟩), fun b hb' => ?_⟩
  · have hr' : S.ex r := (ex_same (S := S) (S' := S.pop l (.slice (some ⟨g, 0, none⟩) l.length l.length)) rfl r).1 hr
    by_cases e : r = .srch
    · subst e
      exact putObj_same hsz _
    · show (putObj w _ _).heap[S.loc r]? = _
      rw [putObj_other (fun e2 => e (h.inj _ _ hr' trivial e2)), h.obj r hr']
      cases r with
      | srch => exact absurd rfl e
      | walk κ => rfl
      | _ => rfl
  · have e1 : (S.pop l (.slice (some ⟨g, 0, none⟩) l.length l.length)).todoCells = (S.pop l (.slice none 0 0)).todoCells := rfl
    refine ⟨by rw [todoCells_len], .inr ⟨g, l.length, cur, rfl, hb, ?_, Nat.le_refl _, by omega, by omega, ?_⟩⟩
    · rw [putObj_other (hgne .srch trivial).symm]; exact hg
    · rw [e1]
      have h2 : (cur.toList.take (S.todo.length * 3)).take (l.length * 3) = S.todoCells.take (l.length * 3) := by rw [htake]
      rw [List.take_take, hn, Nat.min_eq_left (by omega), hc] at h2
      show cur.toList.take (l.length * 3) = _
      rw [h2]
      have h3 : (S.pop l (.slice none 0 0)).todoCells.length = l.length * 3 := hlen
      rw [← h3]
      exact List.take_left
  · rcases hb' with ⟨r, hr, rfl⟩ | hb'
    · exact .inl (.inl ⟨r, (ex_same (S := S) (S' := S.pop l (.slice (some ⟨g, 0, none⟩) l.length l.length)) rfl r).1 hr, rfl⟩)
    · exact .inl (.inr (by rw [hv]; exact hb'))
end

theorem ptr_neq (x y T T' : Nat) (w : World) {cx cy : List Value} (hx : Owns w x cx T) (hy : Owns w y cy T') : (binOp .neq 65 (.pointer (some ⟨x, 0, none⟩)) (.pointer (some ⟨y, 0, none⟩))).run Try.prog w = .ok (.bool (!(x == y))) w := by
  have h : (Op.equal 65 (.pointer (some ⟨x, 0, none⟩)) (.pointer (some ⟨y, 0, none⟩))).run Try.prog w = .ok (x == y) w := ptr_eqIn 9999 x y T T' w hx hy
  simp only [binOp]
  simp [h]
def NewStep (lo : Nat) (v : Value) (w : World) : Prop := ∃ b, v = .pointer (some ⟨b, 0, none⟩) ∧ lo ≤ b ∧ Owns w b [.pointer none, .int .i64 0, .int .i64 0] 120
theorem NewStep.keep {lo : Nat} {v : Value} {w w' : World} (hg : Grew w w') (h : NewStep lo v w) : NewStep lo v w' := by
  obtain ⟨b, h1, h2, h3⟩ := h
  exact ⟨b, h1, h2, h3.keep hg⟩
theorem NewStep.made {lo : Nat} {w : World} (h : lo ≤ w.heap.size) : NewStep lo (.pointer (some ⟨w.heap.size, 0, none⟩)) (w.alloc (.cells #[.pointer none, .int .i64 0, .int .i64 0] 120)) := ⟨_, rfl, h, Owns.alloc _ _ _⟩
theorem set3 {w : World} {b T : Nat} {c0 c1 c2 : Value} (h : Owns w b [c0, c1, c2] T) (a0 a1 a2 : Value) :
    But (fun k => k = b) w (((w.setCell ⟨b, 0, none⟩ a0).setCell ⟨b, 1, none⟩ a1).setCell ⟨b, 2, none⟩ a2) ∧ Owns (((w.setCell ⟨b, 0, none⟩ a0).setCell ⟨b, 1, none⟩ a1).setCell ⟨b, 2, none⟩ a2) b [a0, a1, a2] T := by
  have o1 := h.set 0 a0
  have o2 := o1.set 1 a1
  have o3 := o2.set 2 a2
  refine ⟨?_, by simpa using o3⟩
  rw [setCell_put o2, setCell_put o1, setCell_put h]
  exact ((But.put (F := fun k => k = b) rfl).trans (But.put (F := fun k => k = b) rfl) fun _ _ h => h).trans (But.put (F := fun k => k = b) rfl) fun _ _ h => h

/-- a search that has begun -/
structure Began (E : Env) (W : World) (sb cm : Nat) : Prop where
  srch : Owns W sb [E.n0, E.n1, E.n2, E.n3, E.n4, E.wv, .map (some cm), .slice none 0 0, .bool false] 93
  cmap : W.heap[cm]? = some (mapObj [])
  lo : E.lim ≤ sb ∧ E.lim ≤ cm
theorem Began.keep {E : Env} {W W' : World} {sb cm : Nat} (h : Began E W sb cm) (hg : Grew W W') : Began E W' sb cm :=
  ⟨h.srch.keep hg, by rw [hg.block _ (Array.getElem?_eq_some_iff.1 h.cmap).1]; exact h.cmap, h.lo⟩
def startLoc (sb cm kb mb : Nat) : Role → Nat
  | .srch => sb
  | .cmap => cm
  | .walk _ => kb
  | .seen _ => mb
  | _ => 0
def startSt (sb cm kb mb : Nat) : St := { loc := startLoc sb cm kb mb, calls := [], seen := fun _ => [], ends := fun _ => [], waits := fun _ => [], todo := [], tv := .slice none 0 0, all := false }
theorem start_inv (E : Env) (sb cm kb mb : Nat) : Inv E (startSt sb cm kb mb) :=
  ⟨List.nodup_nil, fun _ => List.nodup_nil, fun _ => List.nodup_nil, fun _ => List.nodup_nil, List.nodup_nil, fun _ h => absurd h (by simp [startSt]), fun _ _ h => absurd h (by simp [startSt]), fun _ _ => by simp [startSt], fun _ _ h => absurd h (by simp [startSt]),
    fun _ _ h => absurd h (by simp [startSt]), fun _ _ h => absurd h (by simp [startSt]), by simp [startSt], fun _ _ h => absurd h (by simp [startSt]), fun _ _ h => absurd h (by simp [startSt]), fun _ h => absurd h (by simp [startSt])⟩
theorem start_rep {E : Env} {W w : World} {sb cm kb mb : Nat} (h : Began E W sb cm) (hg : Grew W w) (hm : w.heap[mb]? = some (mapObj [])) (hk : Owns w kb [.map (some mb), .pointer none, .int .i64 0] 75) (hn : W.heap.size ≤ kb ∧ W.heap.size ≤ mb) : Rep E (startSt sb cm kb mb) w := by
  have hb := h.keep hg
  have hs1 := h.srch.lt
  have hc1 := (Array.getElem?_eq_some_iff.1 h.cmap).1
  have hne : sb ≠ cm := by
    intro e
    have h1 := h.srch
    unfold Owns at h1
    rw [e, h.cmap] at h1
    cases h1
  have hne2 : kb ≠ mb := by
    intro e
    unfold Owns at hk
    rw [e, hm] at hk
    cases hk
  have hlo := h.lo
  have cases_ : ∀ r, (startSt sb cm kb mb).ex r → r = .srch ∨ r = .cmap ∨ r = .walk none ∨ r = .seen none := by
    intro r hr
    cases r with
    | srch => exact .inl rfl
    | cmap => exact .inr (.inl rfl)
    | walk κ =>
      cases κ with
      | none => exact .inr (.inr (.inl rfl))
      | some c => exact absurd hr (by simp [St.ex, St.has, startSt])
    | seen κ =>
      cases κ with
      | none => exact .inr (.inr (.inr rfl))
      | some c => exact absurd hr (by simp [St.ex, St.has, startSt])
    | call c => exact absurd hr (by simp [St.ex, startSt])
    | ends c => exact absurd hr (by simp [St.ex, startSt])
    | waits c => exact absurd hr (by simp [St.ex, startSt])
  refine ⟨fun r hr => ?_, fun r hr => ?_, fun a b ha hb' e => ?_, ⟨rfl, .inl ⟨rfl, rfl⟩⟩⟩
  · rcases cases_ r hr with rfl | rfl | rfl | rfl
    · exact hb.srch
    · exact hb.cmap
    · exact hk
    · exact hm
  · rcases cases_ r hr with rfl | rfl | rfl | rfl
    · exact hlo.1
    · exact hlo.2
    · show E.lim ≤ kb; omega
    · show E.lim ≤ mb; omega
  · rcases cases_ a ha with rfl | rfl | rfl | rfl <;> rcases cases_ b hb' with rfl | rfl | rfl | rfl <;> first
      | rfl
      | (exfalso; simp only [startSt, startLoc] at e; omega)
end Go.Proofs.Ytgdcnndmdgcjlaa
