/- What holds of a search on its way; what is reached at its end. No program in sight. -/
import Derived.Test.YtgdcnndmdgcjlaaPMem
namespace Go.Proofs.Ytgdcnndmdgcjlaa

namespace Net
/-- what is asked of a net -/
structure Ok (N : Net) : Prop where
  len : N.starts.length = N.stops.length
  start : ∀ r, r < N.starts.length → 0 ≤ N.starts.getD r 0 ∧ N.start r < N.states.length
  stop : ∀ r, r < N.starts.length → 0 ≤ N.stops.getD r 0 ∧ N.stop r < N.states.length
  edge : ∀ s, ∀ e ∈ N.edges s, (0 ≤ e.to ∧ e.to.toNat < N.states.length) ∧ 0 ≤ e.what ∧ (e.kind = 2 → e.what.toNat < N.starts.length)
  endsR : ∀ s, ∀ i ∈ N.ends s, 0 ≤ i ∧ i.toNat < N.states.length
  endsE : ∀ s, N.ends s = [] ∨ (N.ends s).length = (N.edges s).length
end Net

structure Le (S S' : St) : Prop where
  calls : ∀ c ∈ S.calls, c ∈ S'.calls
  seen : ∀ κ, ∀ p ∈ S.seen κ, p ∈ S'.seen κ
  ends : ∀ c, S.ends c <+: S'.ends c
  waits : ∀ c, ∀ x ∈ S.waits c, x ∈ S'.waits c
  loc : ∀ r, S.ex r → S'.loc r = S.loc r
  todo : ∃ l, S'.todo = S.todo ++ l ∧ ∀ x ∈ l, x.2 ∉ S.seen x.1
  fresh : ∀ κ p, p ∈ S'.seen κ → p ∈ S.seen κ ∨ (κ, p) ∈ S'.todo

structure Inv (E : Env) (S : St) : Prop where
  callsN : S.calls.Nodup
  seenN : ∀ κ, (S.seen κ).Nodup
  endsN : ∀ c, (S.ends c).Nodup
  waitsN : ∀ c, (S.waits c).Nodup
  todoN : S.todo.Nodup
  callR : ∀ c ∈ S.calls, c.1 < E.N.starts.length ∧ c.2 ≤ E.w.length
  seenR : ∀ κ, ∀ p ∈ S.seen κ, p.1 < E.N.states.length ∧ p.2 ≤ E.w.length
  endsIff : ∀ c i, i ∈ S.ends c ↔ (E.N.stop c.1, i) ∈ S.seen (some c)
  waitsR : ∀ c, ∀ x ∈ S.waits c, S.has x.1 ∧ x.2 < E.N.states.length
  seenH : ∀ κ, ∀ p ∈ S.seen κ, S.has κ
  waitsH : ∀ c, ∀ x ∈ S.waits c, c ∈ S.calls
  all : S.all = true ↔ ∃ κ p, p ∈ S.seen κ ∧ p.2 = E.w.length
  sound : ∀ κ, ∀ p ∈ S.seen κ, Lv E.N E.w E.p0 E.over κ p
  waitS : ∀ c, ∀ x ∈ S.waits c, ∃ s e, Lv E.N E.w E.p0 E.over x.1 (s, c.2) ∧ (x.1 = none → (s : Int) ≠ E.over) ∧ e ∈ E.N.edges s ∧ e.kind = 2 ∧ e.what.toNat = c.1 ∧ e.to.toNat = x.2
  todoS : ∀ x ∈ S.todo, x.2 ∈ S.seen x.1

def Opn (S : St) (c : Nat × Nat) (i : Nat) (x : Key × Nat) : Prop := i ∈ S.ends c ∧ x ∈ S.waits c ∧ (x.2, i) ∉ S.seen x.1
def Begun (E : Env) (S : St) : Prop := ∀ c ∈ S.calls, (E.N.start c.1, c.2) ∈ S.seen (some c)
def Clos (E : Env) (S : St) (κ : Key) (s i : Nat) : Prop := ∀ e ∈ E.N.edges s,
  (e.kind = 2 → (e.what.toNat, i) ∈ S.calls ∧ (κ, e.to.toNat) ∈ S.waits (e.what.toNat, i)) ∧
  (e.kind ≠ 2 → e.kind ≠ 1 → (e.to.toNat, i) ∈ S.seen κ) ∧ (e.kind = 1 → E.w[i]? = some e.what → (e.to.toNat, i + 1) ∈ S.seen κ)

section
variable {E : Env} {S S' S'' : St}
theorem Le.refl (S : St) : Le S S := ⟨fun _ h => h, fun _ _ h => h, fun _ => List.prefix_refl _, fun _ _ h => h, fun _ _ => rfl, ⟨[], by simp, fun _ h => by cases h⟩, fun _ _ h => .inl h⟩
theorem Le.has (h : Le S S') {κ : Key} (hk : S.has κ) : S'.has κ := by
  cases κ with
  | none => trivial
  | some c => exact h.calls c hk
theorem Le.ex (h : Le S S') {r : Role} (hr : S.ex r) : S'.ex r := by
  cases r <;> first | trivial | exact h.has hr | exact h.calls _ hr
theorem Le.trans (h : Le S S') (k : Le S' S'') : Le S S'' := by
  refine ⟨fun c hc => k.calls c (h.calls c hc), fun κ p hp => k.seen κ p (h.seen κ p hp), fun c => (h.ends c).trans (k.ends c), fun c x hx => k.waits c x (h.waits c x hx), fun r hr => by rw [k.loc r (h.ex hr), h.loc r hr], ?_, fun κ p hp => ?_⟩
  · obtain ⟨l, h1, h2⟩ := h.todo
    obtain ⟨l', h3, h4⟩ := k.todo
    refine ⟨l ++ l', by rw [h3, h1, List.append_assoc], fun x hx => ?_⟩
    rcases List.mem_append.1 hx with hx | hx
    · exact h2 x hx
    · exact fun hs => h4 x hx (h.seen _ _ hs)
  · rcases k.fresh κ p hp with h1 | h1
    · rcases h.fresh κ p h1 with h2 | h2
      · exact .inl h2
      · obtain ⟨l', h3, _⟩ := k.todo
        exact .inr (by rw [h3]; exact List.mem_append_left _ h2)
    · exact .inr h1
theorem Le.mem_todo (h : Le S S') {x : Key × Pl} (hx : x ∈ S.todo) : x ∈ S'.todo := by
  obtain ⟨l, h1, _⟩ := h.todo
  rw [h1]; exact List.mem_append_left _ hx
theorem Clos.mono (h : Le S S') {κ : Key} {s i : Nat} (hc : Clos E S κ s i) : Clos E S' κ s i := fun e he => by
  obtain ⟨h1, h2, h3⟩ := hc e he
  exact ⟨fun hk => ⟨h.calls _ (h1 hk).1, h.waits _ _ (h1 hk).2⟩, fun hk hk' => h.seen _ _ (h2 hk hk'), fun hk hw => h.seen _ _ (h3 hk hw)⟩

/-- a place more: by whom, where; v: the new list of what is to be gone on from -/
def St.see (S : St) (E : Env) (κ : Key) (p : Pl) (v : Value) : St :=
  { S with seen := fun k => if k = κ then S.seen k ++ [p] else S.seen k, all := S.all || p.2 == E.w.length, todo := S.todo ++ [(κ, p)], tv := v,
           ends := fun c => if κ = some c ∧ p.1 = E.N.stop c.1 then S.ends c ++ [p.2] else S.ends c }
theorem see_seen (S : St) (E : Env) (κ : Key) (p : Pl) (v : Value) (k : Key) (q : Pl) : q ∈ (S.see E κ p v).seen k ↔ q ∈ S.seen k ∨ (k = κ ∧ q = p) := by
  show q ∈ (if k = κ then S.seen k ++ [p] else S.seen k) ↔ _
  split
  · rename_i h; simp [h]
  · rename_i h; simp [h]
theorem see_ends (S : St) (E : Env) (κ : Key) (p : Pl) (v : Value) (c : Nat × Nat) (i : Nat) : i ∈ (S.see E κ p v).ends c ↔ i ∈ S.ends c ∨ (κ = some c ∧ p.1 = E.N.stop c.1 ∧ i = p.2) := by
  show i ∈ (if κ = some c ∧ p.1 = E.N.stop c.1 then S.ends c ++ [p.2] else S.ends c) ↔ _
  split
  · rename_i h; simp [h.1, h.2]
  · rename_i h
    constructor
    · exact .inl
    · rintro (h1 | ⟨h1, h2, _⟩)
      · exact h1
      · exact absurd ⟨h1, h2⟩ h
theorem Inv.see (h : Inv E S) {κ : Key} {p : Pl} (hk : S.has κ) (hn : p ∉ S.seen κ) (hr : p.1 < E.N.states.length ∧ p.2 ≤ E.w.length) (hl : Lv E.N E.w E.p0 E.over κ p) (v : Value) : Inv E (S.see E κ p v) ∧ Le S (S.see E κ p v) := by
  refine ⟨⟨h.callsN, fun k => ?_, fun c => ?_, h.waitsN, ?_, h.callR, fun k q hq => ?_, fun c i => ?_, h.waitsR, fun k q hq => ?_, h.waitsH, ?_, fun k q hq => ?_, h.waitS, fun x hx => ?_⟩, ?_⟩
  · show (if k = κ then S.seen k ++ [p] else S.seen k).Nodup
    split
    · rename_i e
      subst e
      rw [List.nodup_append]
      exact ⟨h.seenN k, by simp, fun a ha b hb => by simp at hb; subst hb; exact fun e => hn (e ▸ ha)⟩
    · exact h.seenN k
  · show (if κ = some c ∧ p.1 = E.N.stop c.1 then S.ends c ++ [p.2] else S.ends c).Nodup
    split
    · rename_i e
      rw [List.nodup_append]
      refine ⟨h.endsN c, by simp, fun a ha b hb => ?_⟩
      simp at hb
      subst hb
      intro e2
      subst e2
      refine hn ?_
      have := (h.endsIff c p.2).1 ha
      rw [← e.2, ← e.1] at this
      exact this
    · exact h.endsN c
  · show (S.todo ++ [(κ, p)]).Nodup
    rw [List.nodup_append]
    exact ⟨h.todoN, by simp, fun a ha b hb => by simp at hb; subst hb; exact fun e => hn (by have := h.todoS a ha; rw [e] at this; exact this)⟩
  · rcases (see_seen S E κ p v k q).1 hq with h1 | ⟨_, rfl⟩
    · exact h.seenR k q h1
    · exact hr
  · rw [see_ends, see_seen, h.endsIff]
    constructor
    · rintro (h1 | ⟨h1, h2, h3⟩)
      · exact .inl h1
      · exact .inr ⟨h1.symm, by rw [← h2, h3]⟩
    · rintro (h1 | ⟨h1, h2⟩)
      · exact .inl h1
      · exact .inr ⟨h1.symm, by rw [← h2], by rw [← h2]⟩
  · rcases (see_seen S E κ p v k q).1 hq with h1 | ⟨rfl, _⟩
    · have h2 := h.seenH k q h1
      cases k with
      | none => trivial
      | some c => exact h2
    · cases k with
      | none => trivial
      | some c => exact hk
  · show (S.all || p.2 == E.w.length) = true ↔ _
    rw [Bool.or_eq_true, h.all]
    constructor
    · rintro (⟨k, q, h1, h2⟩ | h1)
      · exact ⟨k, q, (see_seen S E κ p v k q).2 (.inl h1), h2⟩
      · exact ⟨κ, p, (see_seen S E κ p v κ p).2 (.inr ⟨rfl, rfl⟩), by simpa using h1⟩
    · rintro ⟨k, q, h1, h2⟩
      rcases (see_seen S E κ p v k q).1 h1 with h3 | ⟨_, rfl⟩
      · exact .inl ⟨k, q, h3, h2⟩
      · exact .inr (by simpa using h2)
  · rcases (see_seen S E κ p v k q).1 hq with h1 | ⟨rfl, rfl⟩
    · exact h.sound k q h1
    · exact hl
  · rcases List.mem_append.1 (show x ∈ S.todo ++ [(κ, p)] from hx) with h1 | h1
    · exact (see_seen S E κ p v _ _).2 (.inl (h.todoS x h1))
    · simp at h1
      subst h1
      exact (see_seen S E κ p v _ _).2 (.inr ⟨rfl, rfl⟩)
  · refine ⟨fun c hc => hc, fun k q hq => (see_seen S E κ p v k q).2 (.inl hq), fun c => by
    show S.ends c <+: (if κ = some c ∧ p.1 = E.N.stop c.1 then S.ends c ++ [p.2] else S.ends c)
    split
    · exact List.prefix_append _ _
    · exact List.prefix_refl _, fun c x hx => hx, fun _ _ => rfl, ⟨[(κ, p)], rfl, fun x hx => by simp at hx; subst hx; exact hn⟩, fun k q hq => ?_⟩
    rcases (see_seen S E κ p v k q).1 hq with h1 | ⟨rfl, rfl⟩
    · exact .inl h1
    · exact .inr (List.mem_append_right _ (by simp))
theorem see_opn {κ : Key} {p : Pl} {v : Value} {c : Nat × Nat} {i : Nat} {x : Key × Nat} (h : Opn (S.see E κ p v) c i x) : Opn S c i x ∨ (κ = some c ∧ p.1 = E.N.stop c.1 ∧ i = p.2 ∧ x ∈ S.waits c) := by
  obtain ⟨h1, h2, h3⟩ := h
  rcases (see_ends S E κ p v c i).1 h1 with h4 | ⟨h4, h5, h6⟩
  · exact .inl ⟨h4, h2, fun hs => h3 ((see_seen S E κ p v _ _).2 (.inl hs))⟩
  · exact .inr ⟨h4, h5, h6, h2⟩

/-! ### how much is not seen -/
def Env.keys (E : Env) : List Key := none :: (List.range E.N.starts.length).flatMap fun r => (List.range (E.w.length + 1)).map fun t => some (r, t)
def Env.pls (E : Env) : List Pl := (List.range E.N.states.length).flatMap fun s => (List.range (E.w.length + 1)).map fun t => (s, t)
def Env.univ (E : Env) : List (Key × Pl) := E.keys.flatMap fun k => E.pls.map fun p => (k, p)
theorem Inv.univ (h : Inv E S) {κ : Key} {p : Pl} (hk : S.has κ) (hp : p.1 < E.N.states.length ∧ p.2 ≤ E.w.length) : (κ, p) ∈ E.univ := by
  unfold Env.univ
  refine List.mem_flatMap.2 ⟨κ, ?_, List.mem_map.2 ⟨p, ?_, rfl⟩⟩
  · unfold Env.keys
    cases κ with
    | none => simp
    | some c =>
      have := h.callR c hk
      refine List.mem_cons_of_mem _ (List.mem_flatMap.2 ⟨c.1, by simpa using this.1, List.mem_map.2 ⟨c.2, ?_, rfl⟩⟩)
      rw [List.mem_range]; omega
  · unfold Env.pls
    refine List.mem_flatMap.2 ⟨p.1, by simpa using hp.1, List.mem_map.2 ⟨p.2, ?_, rfl⟩⟩
    rw [List.mem_range]; omega
/-- how many are not seen, or to be gone on from -/
def left (E : Env) (S : St) : Nat := (E.univ.filter fun x => decide (x.2 ∉ S.seen x.1 ∨ x ∈ S.todo)).length
def unseen (E : Env) (S : St) : Nat := (E.univ.filter fun x => decide (x.2 ∉ S.seen x.1)).length
theorem filter_lt {α : Type} {p q : α → Bool} : ∀ {l : List α}, (∀ x ∈ l, p x = true → q x = true) → ∀ {y : α}, y ∈ l → q y = true → p y = false → (l.filter p).length < (l.filter q).length
  | [], _, _, hy, _, _ => by cases hy
  | x :: r, h, y, hy, hq, hp => by
    have hle : (r.filter p).length ≤ (r.filter q).length := by
      clear hy
      have h' : ∀ z ∈ r, p z = true → q z = true := fun z hz => h z (by simp [hz])
      clear h
      induction r with
      | nil => simp
      | cons z r ih =>
        have ih' := ih fun z hz => h' z (by simp [hz])
        have hz := h' z (by simp)
        rw [List.filter_cons, List.filter_cons]
        cases hpz : p z
        · simp only [Bool.false_eq_true, if_false]
          split <;> simp <;> omega
        · rw [hz hpz]
          simpa using ih'
    rcases List.mem_cons.1 hy with rfl | hy
    · rw [List.filter_cons, List.filter_cons, hq, hp]
      simp only [Bool.false_eq_true, if_false, if_true, List.length_cons]
      omega
    · have ih := filter_lt (l := r) (fun z hz => h z (by simp [hz])) hy hq hp
      have hx := h x (by simp)
      rw [List.filter_cons, List.filter_cons]
      cases hpx : p x
      · simp only [Bool.false_eq_true, if_false]
        split <;> simp <;> omega
      · rw [hx hpx]
        simp
        omega
theorem filter_le {α : Type} {p q : α → Bool} : ∀ {l : List α}, (∀ x ∈ l, p x = true → q x = true) → (l.filter p).length ≤ (l.filter q).length
  | [], _ => by simp
  | x :: r, h => by
    have ih := filter_le (l := r) (fun z hz => h z (by simp [hz]))
    have hx := h x (by simp)
    rw [List.filter_cons, List.filter_cons]
    cases hpx : p x
    · simp only [Bool.false_eq_true, if_false]
      split <;> simp <;> omega
    · rw [hx hpx]
      simp
      omega
theorem Le.unseen (h : Le S S') : unseen E S' ≤ unseen E S := filter_le fun x _ hx => by
  simp only [decide_eq_true_eq] at hx ⊢
  exact fun hs => hx (h.seen _ _ hs)
theorem unseen_lt (h : Le S S') {κ : Key} {p : Pl} (hu : (κ, p) ∈ E.univ) (hn : p ∉ S.seen κ) (hs : p ∈ S'.seen κ) : unseen E S' < unseen E S :=
  filter_lt (fun x _ hx => by simp only [decide_eq_true_eq] at hx ⊢; exact fun hs => hx (h.seen _ _ hs)) hu (by simpa using hn) (by simpa using hs)

/-- the post of reach -/
structure Reached (E : Env) (S S' : St) (κ : Key) (p : Pl) : Prop where
  inv : Inv E S'
  le : Le S S'
  got : p ∈ S'.seen κ
  calls : S'.calls = S.calls
  waits : ∀ c, S'.waits c = S.waits c
  opn : ∀ c i x, Opn S' c i x → Opn S c i x

/-! ### a call more -/
def St.more (S : St) (c : Nat × Nat) (loc : Role → Nat) : St := { S with calls := S.calls ++ [c], loc := loc }
theorem Inv.more (h : Inv E S) {c : Nat × Nat} {loc : Role → Nat} (hn : c ∉ S.calls) (hr : c.1 < E.N.starts.length ∧ c.2 ≤ E.w.length) (hl : ∀ r, S.ex r → loc r = S.loc r) : Inv E (S.more c loc) ∧ Le S (S.more c loc) := by
  have hh : ∀ κ, S.has κ → (S.more c loc).has κ := by
    intro κ hk
    cases κ with
    | none => trivial
    | some d => exact List.mem_append_left _ hk
  refine ⟨⟨?_, h.seenN, h.endsN, h.waitsN, h.todoN, fun d hd => ?_, h.seenR, h.endsIff, fun d x hx => ⟨hh _ (h.waitsR d x hx).1, (h.waitsR d x hx).2⟩, fun κ p hp => hh κ (h.seenH κ p hp), fun d x hx => List.mem_append_left _ (h.waitsH d x hx), h.all, h.sound, h.waitS, h.todoS⟩,
    fun d hd => List.mem_append_left _ hd, fun _ _ hp => hp, fun _ => List.prefix_refl _, fun _ _ hp => hp, hl, ⟨[], by simp [St.more], fun _ hx => by cases hx⟩, fun _ _ hp => .inl hp⟩
  · show (S.calls ++ [c]).Nodup
    rw [List.nodup_append]
    exact ⟨h.callsN, by simp, fun a ha b hb => by simp at hb; subst hb; exact fun e => hn (e ▸ ha)⟩
  · rcases List.mem_append.1 (show d ∈ S.calls ++ [c] from hd) with h1 | h1
    · exact h.callR d h1
    · simp at h1
      subst h1
      exact hr
/-- somebody more who waits -/
def St.wait (S : St) (c : Nat × Nat) (x : Key × Nat) : St := { S with waits := fun d => if d = c then S.waits d ++ [x] else S.waits d }
theorem wait_mem (S : St) (c : Nat × Nat) (x : Key × Nat) (d : Nat × Nat) (y : Key × Nat) : y ∈ (S.wait c x).waits d ↔ y ∈ S.waits d ∨ (d = c ∧ y = x) := by
  show y ∈ (if d = c then S.waits d ++ [x] else S.waits d) ↔ _
  split
  · rename_i h; simp [h]
  · rename_i h; simp [h]
theorem Inv.wait (h : Inv E S) {c : Nat × Nat} {x : Key × Nat} (hc : c ∈ S.calls) (hn : x ∉ S.waits c) (hx : S.has x.1 ∧ x.2 < E.N.states.length)
    (hs : ∃ s e, Lv E.N E.w E.p0 E.over x.1 (s, c.2) ∧ (x.1 = none → (s : Int) ≠ E.over) ∧ e ∈ E.N.edges s ∧ e.kind = 2 ∧ e.what.toNat = c.1 ∧ e.to.toNat = x.2) : Inv E (S.wait c x) ∧ Le S (S.wait c x) := by
  have hh : ∀ κ, S.has κ → (S.wait c x).has κ := by
    intro κ hk
    cases κ with
    | none => trivial
    | some d => exact hk
  refine ⟨⟨h.callsN, h.seenN, h.endsN, fun d => ?_, h.todoN, h.callR, h.seenR, h.endsIff, fun d y hy => ?_, fun κ p hp => hh κ (h.seenH κ p hp), fun d y hy => ?_, h.all, h.sound, fun d y hy => ?_, h.todoS⟩,
    fun d hd => hd, fun _ _ hp => hp, fun _ => List.prefix_refl _, fun d y hy => (wait_mem S c x d y).2 (.inl hy), fun _ _ => rfl, ⟨[], by simp [St.wait], fun _ hx => by cases hx⟩, fun _ _ hp => .inl hp⟩
  · show (if d = c then S.waits d ++ [x] else S.waits d).Nodup
    split
    · rename_i e
      subst e
      rw [List.nodup_append]
      exact ⟨h.waitsN d, by simp, fun a ha b hb => by simp at hb; subst hb; exact fun e => hn (e ▸ ha)⟩
    · exact h.waitsN d
  · rcases (wait_mem S c x d y).1 hy with h1 | ⟨_, rfl⟩
    · exact ⟨hh _ (h.waitsR d y h1).1, (h.waitsR d y h1).2⟩
    · exact ⟨hh _ hx.1, hx.2⟩
  · rcases (wait_mem S c x d y).1 hy with h1 | ⟨rfl, _⟩
    · exact h.waitsH d y h1
    · exact hc
  · rcases (wait_mem S c x d y).1 hy with h1 | ⟨rfl, rfl⟩
    · exact h.waitS d y h1
    · exact hs
theorem wait_opn {c : Nat × Nat} {x : Key × Nat} {d : Nat × Nat} {i : Nat} {y : Key × Nat} (h : Opn (S.wait c x) d i y) : Opn S d i y ∨ (d = c ∧ y = x ∧ i ∈ S.ends c) := by
  obtain ⟨h1, h2, h3⟩ := h
  rcases (wait_mem S c x d y).1 h2 with h4 | ⟨rfl, rfl⟩
  · exact .inl ⟨h1, h4, h3⟩
  · exact .inr ⟨rfl, rfl, h1⟩

/-- the end -/
theorem whole (h : Inv E S) (ho : ∀ c i x, ¬Opn S c i x) (hb : Begun E S) (h0 : E.p0 ∈ S.seen none) (hc : ∀ κ p, p ∈ S.seen κ → Clos E S κ p.1 p.2 ∨ (κ = none ∧ (p.1 : Int) = E.over)) {κ : Key} {p : Pl} (hl : Lv E.N E.w E.p0 E.over κ p) : p ∈ S.seen κ := by
  have cl : ∀ {κ : Key} {s i : Nat}, (s, i) ∈ S.seen κ → (κ = none → (s : Int) ≠ E.over) → Clos E S κ s i := by
    intro κ s i hs hg
    rcases hc κ (s, i) hs with h1 | ⟨h1, h2⟩
    · exact h1
    · exact absurd h2 (hg h1)
  induction hl with
  | root => exact h0
  | begin hl hg he hk ih => exact hb _ ((cl ih hg _ he).1 hk).1
  | eps hl hg he hk hk' ih => exact (cl ih hg _ he).2.1 hk hk'
  | tok hl hg he hk hw ih => exact (cl ih hg _ he).2.2 hk hw
  | @back κ s i j e hl hg he hk hcl ih ih2 =>
    have h1 := ((cl ih hg _ he).1 hk).2
    have h2 : j ∈ S.ends (e.what.toNat, i) := (h.endsIff _ _).2 ih2
    by_cases h3 : (e.to.toNat, j) ∈ S.seen κ
    · exact h3
    · exact absurd ⟨h2, h1, h3⟩ (ho (e.what.toNat, i) j (κ, e.to.toNat))
end
end Go.Proofs.Ytgdcnndmdgcjlaa
