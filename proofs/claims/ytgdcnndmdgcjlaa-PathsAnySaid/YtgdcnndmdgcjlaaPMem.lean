/- A net in memory; a search of ways in memory: who lies where, and what stays. -/
import Derived.Test.YtgdcnndmdgcjlaaPLaw
import Derived.Test.YtgdcnndmdgcjlaaPMap
import Derived.Test.YtgdcnndmdgcjlaaNd
import Derived.Test.YtgdcnndmdgcjlaaPRow
namespace Go.Proofs.Ytgdcnndmdgcjlaa
open Go.RowKit

/-! ### a net -/
def IntsAt (W : World) (lim : Nat) (a : Option Addr) (l : List Int) : Prop := ∀ k (h : k < l.length), ∃ b off, a = some ⟨b, off, none⟩ ∧ b < lim ∧ W.cell? ⟨b, off + k, none⟩ = some (.int .i64 l[k])
def EdgesAt (W : World) (lim : Nat) (a : Option Addr) (l : List Edg) : Prop := ∀ k (h : k < l.length), ∃ b off, a = some ⟨b, off, none⟩ ∧ b < lim ∧
  W.cell? ⟨b, off + k * 3, none⟩ = some (.int .u8 l[k].kind) ∧ W.cell? ⟨b, off + k * 3 + 1, none⟩ = some (.int .i64 l[k].what) ∧ W.cell? ⟨b, off + k * 3 + 2, none⟩ = some (.int .i64 l[k].to)
def SttAt (W : World) (lim : Nat) (c0 c1 c2 : Option Value) (s : Sta) : Prop :=
  c0 = some (.int .i64 s.rule) ∧ (∃ a cap, c1 = some (.slice a s.edges.length cap) ∧ EdgesAt W lim a s.edges) ∧ ∃ a cap, c2 = some (.slice a s.ends.length cap) ∧ IntsAt W lim a s.ends
def StatesAt (W : World) (lim : Nat) (a : Option Addr) (l : List Sta) : Prop := ∀ k (h : k < l.length), ∃ b off, a = some ⟨b, off, none⟩ ∧ b < lim ∧
  SttAt W lim (W.cell? ⟨b, off + k * 3, none⟩) (W.cell? ⟨b, off + k * 3 + 1, none⟩) (W.cell? ⟨b, off + k * 3 + 2, none⟩) l[k]
/-- a slice of integers -/
def IntsV (W : World) (lim : Nat) (v : Value) (l : List Int) : Prop := ∃ a cap, v = .slice a l.length cap ∧ IntsAt W lim a l
structure NetAt (W : World) (lim : Nat) (v0 v1 v2 v3 v4 : Value) (N : Net) : Prop where
  states : ∃ a cap, v0 = .slice a N.states.length cap ∧ StatesAt W lim a N.states
  starts : IntsV W lim v1 N.starts
  stops : IntsV W lim v2 N.stops
  preds : IntsV W lim v3 N.preds
  decisions : IntsV W lim v4 N.decisions

section
variable {W W' : World} {lim : Nat}
theorem IntsAt.keep (hb : Below lim W W') {a : Option Addr} {l : List Int} (h : IntsAt W lim a l) : IntsAt W' lim a l := fun k hk => by
  obtain ⟨b, off, h1, h2, h3⟩ := h k hk
  exact ⟨b, off, h1, h2, by rw [hb.cell h2]; exact h3⟩
theorem EdgesAt.keep (hb : Below lim W W') {a : Option Addr} {l : List Edg} (h : EdgesAt W lim a l) : EdgesAt W' lim a l := fun k hk => by
  obtain ⟨b, off, h1, h2, h3, h4, h5⟩ := h k hk
  exact ⟨b, off, h1, h2, by rw [hb.cell h2]; exact h3, by rw [hb.cell h2]; exact h4, by rw [hb.cell h2]; exact h5⟩
theorem SttAt.keep (hb : Below lim W W') {c0 c1 c2 : Option Value} {s : Sta} (h : SttAt W lim c0 c1 c2 s) : SttAt W' lim c0 c1 c2 s := by
  obtain ⟨h1, ⟨a, cap, h2, h3⟩, a', cap', h4, h5⟩ := h
  exact ⟨h1, ⟨a, cap, h2, h3.keep hb⟩, a', cap', h4, h5.keep hb⟩
theorem StatesAt.keep (hb : Below lim W W') {a : Option Addr} {l : List Sta} (h : StatesAt W lim a l) : StatesAt W' lim a l := fun k hk => by
  obtain ⟨b, off, h1, h2, h3⟩ := h k hk
  have e : ∀ o, W'.cell? ⟨b, o, none⟩ = W.cell? ⟨b, o, none⟩ := fun o => hb.cell h2
  exact ⟨b, off, h1, h2, by rw [e, e, e]; exact h3.keep hb⟩
theorem IntsV.keep (hb : Below lim W W') {v : Value} {l : List Int} (h : IntsV W lim v l) : IntsV W' lim v l := by
  obtain ⟨a, cap, h1, h2⟩ := h
  exact ⟨a, cap, h1, h2.keep hb⟩
theorem NetAt.keep (hb : Below lim W W') {v0 v1 v2 v3 v4 : Value} {N : Net} (h : NetAt W lim v0 v1 v2 v3 v4 N) : NetAt W' lim v0 v1 v2 v3 v4 N := by
  obtain ⟨⟨a, cap, h1, h2⟩, h3, h4, h5, h6⟩ := h
  exact ⟨⟨a, cap, h1, h2.keep hb⟩, h3.keep hb, h4.keep hb, h5.keep hb, h6.keep hb⟩
theorem IntsAt.mono {lim' : Nat} (hl : lim ≤ lim') {a : Option Addr} {l : List Int} (h : IntsAt W lim a l) : IntsAt W lim' a l := fun k hk => by
  obtain ⟨b, off, h1, h2, h3⟩ := h k hk
  exact ⟨b, off, h1, by omega, h3⟩
theorem IntsV.mono {lim' : Nat} (hl : lim ≤ lim') {v : Value} {l : List Int} (h : IntsV W lim v l) : IntsV W lim' v l := by
  obtain ⟨a, cap, h1, h2⟩ := h
  exact ⟨a, cap, h1, h2.mono hl⟩
theorem EdgesAt.mono {lim' : Nat} (hl : lim ≤ lim') {a : Option Addr} {l : List Edg} (h : EdgesAt W lim a l) : EdgesAt W lim' a l := fun k hk => by
  obtain ⟨b, off, h1, h2, h3⟩ := h k hk
  exact ⟨b, off, h1, by omega, h3⟩
theorem SttAt.mono {lim' : Nat} (hl : lim ≤ lim') {c0 c1 c2 : Option Value} {s : Sta} (h : SttAt W lim c0 c1 c2 s) : SttAt W lim' c0 c1 c2 s := by
  obtain ⟨h1, ⟨a, cap, h2, h3⟩, a', cap', h4, h5⟩ := h
  exact ⟨h1, ⟨a, cap, h2, h3.mono hl⟩, a', cap', h4, h5.mono hl⟩
theorem NetAt.mono {lim' : Nat} (hl : lim ≤ lim') {v0 v1 v2 v3 v4 : Value} {N : Net} (h : NetAt W lim v0 v1 v2 v3 v4 N) : NetAt W lim' v0 v1 v2 v3 v4 N := by
  obtain ⟨⟨a, cap, h1, h2⟩, h3, h4, h5, h6⟩ := h
  refine ⟨⟨a, cap, h1, fun k hk => ?_⟩, h3.mono hl, h4.mono hl, h5.mono hl, h6.mono hl⟩
  obtain ⟨b, off, h7, h8, h9⟩ := h2 k hk
  exact ⟨b, off, h7, by omega, h9.mono hl⟩
end

/-! ### all blocks but some stay -/
structure But (F : Nat → Prop) (w w' : World) : Prop where
  os : w'.os = w.os
  tape : w'.tape = w.tape
  output : w'.output = w.output
  size : w.heap.size ≤ w'.heap.size
  block : ∀ k, k < w.heap.size → ¬F k → w'.heap[k]? = w.heap[k]?
theorem But.refl (F : Nat → Prop) (w : World) : But F w w := ⟨rfl, rfl, rfl, Nat.le_refl _, fun _ _ _ => rfl⟩
theorem But.trans {F G : Nat → Prop} {a b c : World} (h : But F a b) (k : But G b c) (hG : ∀ i, i < a.heap.size → G i → F i) : But F a c :=
  ⟨k.os.trans h.os, k.tape.trans h.tape, k.output.trans h.output, Nat.le_trans h.size k.size, fun i hi hn => (k.block i (Nat.lt_of_lt_of_le hi h.size) (fun g => hn (hG i hi g))).trans (h.block i hi hn)⟩
theorem But.of_grew {F : Nat → Prop} {a b : World} (h : Grew a b) : But F a b := ⟨h.os, h.tape, h.output, h.size, fun k hk _ => h.block k hk⟩
theorem But.put {w : World} {b : Nat} {o : Obj} {F : Nat → Prop} (hb : F b) : But F w (putObj w b o) :=
  ⟨rfl, rfl, rfl, by rw [putObj_size]; exact Nat.le_refl _, fun k _ hn => putObj_other (fun e => hn (by rw [e]; exact hb)) o⟩
theorem But.below {F : Nat → Prop} {w w' : World} {lim : Nat} (h : But F w w') (hl : lim ≤ w.heap.size) (hF : ∀ k, F k → lim ≤ k) : Below lim w w' :=
  ⟨h.os, h.tape, h.output, h.size, fun k hk => h.block k (by omega) (fun hf => by have := hF k hf; omega)⟩
theorem But.drew {F : Nat → Prop} {a b : World} (h : But F a b) : But F a b.drew := ⟨h.os, h.tape, h.output, h.size, h.block⟩
theorem But.owns {F : Nat → Prop} {w w' : World} {b T : Nat} {cs : List Value} (h : But F w w') (ho : Owns w b cs T) (hn : ¬F b) : Owns w' b cs T := by
  have := ho.lt
  unfold Owns at *
  rw [h.block b this hn]; exact ho

theorem setCell_put {w : World} {b T i : Nat} {cs : List Value} (h : Owns w b cs T) (v : Value) : w.setCell ⟨b, i, none⟩ v = putObj w b (.cells (cs.set i v).toArray T (0, 0)) := by
  have hlt := h.lt
  unfold Owns at h
  unfold World.setCell putObj
  have hget : w.heap[b] = .cells cs.toArray T (0, 0) := by
    have := Array.getElem?_eq_getElem hlt
    rw [h] at this
    exact (Option.some.inj this).symm
  congr 1
  apply Array.ext
  · simp
  · intro j h1 h2
    by_cases e : j = b
    · subst e
      simp [Array.getElem_modify, hget]
    · rw [Array.getElem_setIfInBounds_ne (by simpa using h1) (Ne.symm e)]
      simp [Array.getElem_modify, Ne.symm e]

/-! ### a search -/
inductive Role where
  | srch
  | cmap
  | walk (κ : Key)
  | seen (κ : Key)
  | call (c : Nat × Nat)
  | ends (c : Nat × Nat)
  | waits (c : Nat × Nat)

structure Env where
  N : Net
  w : List Int
  n0 : Value
  n1 : Value
  n2 : Value
  n3 : Value
  n4 : Value
  wv : Value
  lim : Nat
  p0 : Pl
  over : Int

structure St where
  loc : Role → Nat
  calls : List (Nat × Nat)
  seen : Key → List Pl
  ends : Nat × Nat → List Nat
  waits : Nat × Nat → List (Key × Nat)
  todo : List (Key × Pl)
  tv : Value
  all : Bool

def ptrV (b : Nat) : Value := .pointer (some ⟨b, 0, none⟩)
def plV (p : Pl) : Value := .agg #[.int .i64 p.1, .int .i64 p.2]
def unitV : Value := .agg #[]

namespace St
def has (S : St) : Key → Prop
  | none => True
  | some c => c ∈ S.calls
def ex (S : St) : Role → Prop
  | .srch => True
  | .cmap => True
  | .walk κ => S.has κ
  | .seen κ => S.has κ
  | .call c => c ∈ S.calls
  | .ends c => c ∈ S.calls
  | .waits c => c ∈ S.calls
def ownV (S : St) : Key → Value
  | none => .pointer none
  | some c => ptrV (S.loc (.call c))
def waitV (S : St) (x : Key × Nat) : Value := .agg #[ptrV (S.loc (.walk x.1)), .int .i64 x.2]
def todoCells (S : St) : List Value := S.todo.flatMap fun x => [ptrV (S.loc (.walk x.1)), .int .i64 x.2.1, .int .i64 x.2.2]
def seenL (S : St) (κ : Key) : List (Value × Value) := (S.seen κ).map fun p => (plV p, unitV)
def endsL (S : St) (c : Nat × Nat) : List (Value × Value) := (S.ends c).map fun (i : Nat) => (.int .i64 i, unitV)
def waitsL (S : St) (c : Nat × Nat) : List (Value × Value) := (S.waits c).map fun x => (S.waitV x, unitV)
def callsL (S : St) : List (Value × Value) := S.calls.map fun c => (plV c, ptrV (S.loc (.call c)))
def srchL (S : St) (E : Env) : List Value := [E.n0, E.n1, E.n2, E.n3, E.n4, E.wv, .map (some (S.loc .cmap)), S.tv, .bool S.all]
def walkL (S : St) (E : Env) (κ : Key) : List Value := [.map (some (S.loc (.seen κ))), S.ownV κ, .int .i64 (match κ with | none => 0 | some c => E.N.stops.getD c.1 0)]
def callL (S : St) (c : Nat × Nat) : List Value := [.map (some (S.loc (.ends c))), .map (some (S.loc (.waits c)))]
def obj (S : St) (E : Env) : Role → Obj
  | .srch => .cells (S.srchL E).toArray 93 (0, 0)
  | .cmap => mapObj S.callsL
  | .walk κ => .cells (S.walkL E κ).toArray 75 (0, 0)
  | .seen κ => mapObj (S.seenL κ)
  | .call c => .cells (S.callL c).toArray 147 (0, 0)
  | .ends c => mapObj (S.endsL c)
  | .waits c => mapObj (S.waitsL c)
/-- whose block it is -/
def mine (S : St) (b : Nat) : Prop := (∃ r, S.ex r ∧ S.loc r = b) ∨ S.tv.ownBlock = some b
end St

/-- the net and the tokens lie below all that the search makes -/
structure Laid (E : Env) (W : World) : Prop where
  net : NetAt W E.lim E.n0 E.n1 E.n2 E.n3 E.n4 E.N
  toks : IntsV W E.lim E.wv E.w
theorem Laid.keep {E : Env} {W W' : World} (h : Laid E W) (hb : Below E.lim W W') : Laid E W' := ⟨h.net.keep hb, h.toks.keep hb⟩

structure Rep (E : Env) (S : St) (w : World) : Prop where
  obj : ∀ r, S.ex r → w.heap[S.loc r]? = some (S.obj E r)
  lo : ∀ r, S.ex r → E.lim ≤ S.loc r
  inj : ∀ r r', S.ex r → S.ex r' → S.loc r = S.loc r' → r = r'
  row : looseRow w E.lim 120 3 S.tv S.todo.length S.todoCells

/-- all but the search's own stays; what is its own now was so, or is new -/
structure Frm (S S' : St) (w w' : World) : Prop where
  but : But S.mine w w'
  new : ∀ b, S'.mine b → S.mine b ∨ w.heap.size ≤ b

theorem Frm.refl (S : St) (w : World) : Frm S S w w := ⟨But.refl _ _, fun _ h => .inl h⟩
theorem Frm.trans {S S' S'' : St} {a b c : World} (h : Frm S S' a b) (k : Frm S' S'' b c) : Frm S S'' a c :=
  ⟨h.but.trans k.but fun i hi hm => (h.new i hm).resolve_right (by omega), fun i hm => by
    rcases k.new i hm with h1 | h1
    · exact h.new i h1
    · exact .inr (Nat.le_trans h.but.size h1)⟩
theorem Frm.grew {S : St} {a b : World} (h : Grew a b) : Frm S S a b := ⟨But.of_grew h, fun _ hm => .inl hm⟩
theorem Frm.owns {S S' : St} {w w' : World} {b T : Nat} {cs : List Value} (h : Frm S S' w w') (ho : Owns w b cs T) (hn : ¬S.mine b) : Owns w' b cs T ∧ ¬S'.mine b :=
  ⟨h.but.owns ho hn, fun hm => by have := ho.lt; rcases h.new b hm with h1 | h1; exact hn h1; omega⟩

section
variable {E : Env} {S S' : St} {w w' : World}

theorem obj_step (S : St) (E : Env) (r : Role) : ∀ cs f, S.obj E r ≠ .cells cs 120 f := by
  intro cs f h
  cases r <;> simp [St.obj, mapObj] at h
theorem Rep.lt (h : Rep E S w) {r : Role} (hr : S.ex r) : S.loc r < w.heap.size := (Array.getElem?_eq_some_iff.1 (h.obj r hr)).1
theorem row_own {base e size n : Nat} {v : Value} {xs : List Value} (h : looseRow w base e size v n xs) {g : Nat} (hg : v.ownBlock = some g) : base ≤ g ∧ ∃ cs, w.heap[g]? = some (.cells cs e (0, 0)) := by
  rcases h.2 with ⟨rfl, _⟩ | ⟨g', cap, cur, rfl, h1, h2, _⟩
  · simp [Value.ownBlock] at hg
  · simp only [Value.ownBlock, Option.some.injEq] at hg
    subst hg
    exact ⟨h1, cur, h2⟩
theorem Rep.far (h : Rep E S w) {r : Role} (hr : S.ex r) : S.tv.ownBlock ≠ some (S.loc r) := by
  intro e
  obtain ⟨_, cs, h2⟩ := row_own h.row e
  rw [h.obj r hr] at h2
  exact obj_step S E r cs (0, 0) (Option.some.inj h2)
theorem Rep.mine_lo (h : Rep E S w) {b : Nat} (hb : S.mine b) : E.lim ≤ b := by
  rcases hb with ⟨r, hr, rfl⟩ | hb
  · exact h.lo r hr
  · exact (row_own h.row hb).1
theorem Rep.mine_lt (h : Rep E S w) {b : Nat} (hb : S.mine b) : b < w.heap.size := by
  rcases hb with ⟨r, hr, rfl⟩ | hb
  · exact h.lt hr
  · obtain ⟨_, cs, h2⟩ := row_own h.row hb
    exact (Array.getElem?_eq_some_iff.1 h2).1
theorem Rep.lim_le (h : Rep E S w) : E.lim ≤ w.heap.size := by
  have h1 := h.lo .srch trivial
  have h2 := h.lt (r := .srch) trivial
  omega
theorem Frm.below (h : Frm S S' w w') (hR : Rep E S w) : Below E.lim w w' := h.but.below hR.lim_le fun _ hk => hR.mine_lo hk
theorem Rep.notmine (h : Rep E S w) {b : Nat} (hb : w.heap.size ≤ b) : ¬S.mine b := fun hm => by have := h.mine_lt hm; omega

theorem row_but {base e size n : Nat} {v : Value} {xs : List Value} (h : looseRow w base e size v n xs) {F : Nat → Prop} (hb : But F w w') (hn : ∀ g, v.ownBlock = some g → ¬F g) : looseRow w' base e size v n xs := by
  refine ⟨h.1, ?_⟩
  rcases h.2 with h2 | ⟨g, cap, cur, rfl, h1, h2, h3⟩
  · exact .inl h2
  · exact .inr ⟨g, cap, cur, rfl, h1, by rw [hb.block g (Array.getElem?_eq_some_iff.1 h2).1 (hn g rfl)]; exact h2, h3⟩

/-- what is not the search's own may be written -/
theorem Rep.but (h : Rep E S w) {F : Nat → Prop} (hb : But F w w') (hn : ∀ b, S.mine b → ¬F b) : Rep E S w' :=
  ⟨fun r hr => by rw [hb.block _ (h.lt hr) (hn _ (.inl ⟨r, hr, rfl⟩))]; exact h.obj r hr, h.lo, h.inj, row_but h.row hb fun g hg => hn g (.inr hg)⟩
theorem Rep.grew (h : Rep E S w) (hg : Grew w w') : Rep E S w' := h.but (F := fun _ => False) (But.of_grew hg) fun _ _ => id
theorem Rep.drew (h : Rep E S w) : Rep E S w.drew := ⟨h.obj, h.lo, h.inj, h.row⟩

/-- one of its objects is another one -/
theorem Rep.put (h : Rep E S w) {r : Role} (hr : S.ex r) (hloc : S'.loc = S.loc) (hex : ∀ r, S'.ex r ↔ S.ex r) (htv : S'.tv = S.tv) (htodo : S'.todo = S.todo) (hob : ∀ r', r' ≠ r → S'.obj E r' = S.obj E r') :
    Rep E S' (putObj w (S.loc r) (S'.obj E r)) ∧ Frm S S' w (putObj w (S.loc r) (S'.obj E r)) := by
  have hm : ∀ b, S'.mine b → S.mine b := by
    intro b hb
    rcases hb with ⟨r', hr', rfl⟩ | hb
    · exact .inl ⟨r', (hex r').1 hr', by rw [hloc]⟩
    · exact .inr (by rw [← htv]; exact hb)
  refine ⟨⟨fun r' hr' => ?_, fun r' hr' => ?_, fun a b ha hb e => ?_, ?_⟩, But.put (.inl ⟨r, hr, rfl⟩), fun b hb => .inl (hm b hb)⟩
  · by_cases e : r' = r
    · subst e
      rw [hloc]
      exact putObj_same (h.lt hr) _
    · rw [hloc, putObj_other (fun e2 => e (h.inj _ _ ((hex r').1 hr') hr e2)), hob r' e]
      exact h.obj r' ((hex r').1 hr')
  · rw [hloc]; exact h.lo r' ((hex r').1 hr')
  · rw [hloc] at e
    exact h.inj a b ((hex a).1 ha) ((hex b).1 hb) e
  · have h1 : S'.todoCells = S.todoCells := by unfold St.todoCells; rw [htodo, hloc]
    rw [htv, htodo, h1]
    exact row_but (F := fun b => b = S.loc r) h.row (But.put rfl) fun g hg e => h.far hr (by rw [hg, e])
end
end Go.Proofs.Ytgdcnndmdgcjlaa
