/- slices.IndexFunc over rules; nulls.Find. -/
import Derived.Lib.Hide
import Derived.Outline
import Derived.Test.YtgdcnndmdgcjlaaQ2
namespace Go.Proofs.Ytgdcnndmdgcjlaa
open Go.RowKit
def ixOf {α : Type} (l : List α) (q : α → Bool) : Int :=
  match l.findIdx? q with
  | some i => i
  | none => -1
theorem ixOf_at {α : Type} {l : List α} {q : α → Bool} {j : Nat} (hj : j < l.length) (h : ∀ i (hi : i < l.length), i < j → q l[i] = false) (hq : q l[j] = true) : ixOf l q = j := by
  unfold ixOf
  have : l.findIdx? q = some j := by
    rw [List.findIdx?_eq_some_iff_getElem]
    exact ⟨hj, hq, fun i hi => by simpa using h i (by omega) hi⟩
  rw [this]
theorem ixOf_none {α : Type} {l : List α} {q : α → Bool} (h : ∀ i (hi : i < l.length), q l[i] = false) : ixOf l q = -1 := by
  unfold ixOf
  have : l.findIdx? q = none := by
    rw [List.findIdx?_eq_none_iff]
    intro x hx
    obtain ⟨i, hi, rfl⟩ := List.mem_iff_getElem.1 hx
    simpa using h i hi
  rw [this]
theorem ixOf_cases {α : Type} (l : List α) (q : α → Bool) : (ixOf l q = -1 ∧ ∀ i (hi : i < l.length), q l[i] = false) ∨ ∃ j, ∃ hj : j < l.length, ixOf l q = j ∧ q l[j] = true ∧ ∀ i (hi : i < l.length), i < j → q l[i] = false := by
  unfold ixOf
  cases h : l.findIdx? q with
  | none =>
    rw [List.findIdx?_eq_none_iff] at h
    exact .inl ⟨rfl, fun i hi => by simpa using h _ (List.getElem_mem hi)⟩
  | some j =>
    rw [List.findIdx?_eq_some_iff_getElem] at h
    obtain ⟨hj, hq, hn⟩ := h
    exact .inr ⟨j, hj, rfl, hq, fun i hi hlt => by simpa using hn i hlt⟩
def NoneTo {α : Type} (l : List α) (q : α → Bool) (j : Nat) : Prop := ∀ i (hi : i < l.length), i < j → q l[i] = false
theorem noneTo_next {α : Type} {l : List α} {q : α → Bool} {j : Nat} (h : NoneTo l q j) (hj : j < l.length) (hq : q l[j] = false) : NoneTo l q (j + 1) := by
  intro i hi hlt
  by_cases e : i = j
  · subst e; exact hq
  · exact h i hi (by omega)
def Enters (F : Nat) : Prop := ∀ (args : Array Value) (w : World), (callFunc F args).run Try.prog w = .ok (.enter F args) w
theorem enters96 : Enters 96 := fun _ _ => by kernel_rfl
set_option maxHeartbeats 1000000 in
set_option maxRecDepth 20000 in
theorem indexRules_ok (l : List Rl) (q : Rl → Bool) (F : Nat) (cp : Array Value) (hF : Enters F) (W : World) (a : Option Addr) (cap : Nat) (hl : l.length ≤ reachN) (hR : RulesAt W W.heap.size a 0 l)
    (HF : Hid (∀ (i : Nat) (hi : i < l.length) (W' : World) (v0 v1 v2 v3 v4 v5 v6 v7 v8 v9 : Value), Below W.heap.size W W' → RuleAt W' W'.heap.size (some v0) (some v1) (some v2) (some v3) (some v4) (some v5) (some v6) (some v7) (some v8) (some v9) l[i] →
      Calls Try.prog F (#[.agg #[v0, v1, v2, v3, v4, v5, v6, v7, v8, v9]] ++ cp) W' fun e W2 => e = .returned (.bool (q l[i])) ∧ Below W'.heap.size W' W2)) :
    Calls Try.prog 95 #[.slice a l.length cap, .func (.func F) #[] cp] W fun e W' => e = .returned (.int .i64 (ixOf l q)) ∧ Below W.heap.size W W' := by
  unfold reachN at hl
  go_enter Try.func95, Try.ntmps95
  go_wp2
  go_loopw [8] (fun i wr => ∃ (j : Nat), i = .int .i64 j ∧ j ≤ l.length ∧ Hid (NoneTo l q j) ∧ Below W.heap.size W wr) (fun i _ => l.length - (intOf i).toNat)
  case atStart =>
    exact ⟨0, rfl, by omega, fun i hi h => absurd h (by omega), Below.refl _ _⟩
  case round =>
    obtain ⟨j, rfl, hj, hf, hbw⟩ := hrel
    by_cases hlt : j < l.length
    · obtain ⟨b, off, rfl, hb, hrule⟩ := (hR.keep hbw).get hlt
      simp only [Nat.zero_add] at hrule
      obtain ⟨u2, u3, u4, u5, u6, e0, e1, e2, e3, e4, e5, e6, e7, e8, e9, hrule, hnode⟩ := hrule.vals
      have HS := Lib.hid (HF.out j hlt wr _ _ _ _ _ _ _ _ _ _ hbw (hrule.mono hbw.size))
      clear hrule hnode hR HF
      have hFx := hF
      unfold Enters at hFx
      clear hF
      obtain ⟨t, ht⟩ : ∃ t, t = q l[j] := ⟨_, rfl⟩
      rw [← ht] at HS
      have HQ := Lib.hid ht
      clear ht
      cases t
      · go_wp2_with (refine HS.out.mono ?_; rintro e w2 ⟨rfl, hb2⟩)
        exact ⟨⟨j + 1, by go_num, by omega, noneTo_next hf.out hlt HQ.out.symm, hbw.trans (hb2.mono hbw.size)⟩, by simp [intOf]; omega⟩
      · go_wp2_with (refine HS.out.mono ?_; rintro e w2 ⟨rfl, hb2⟩)
        go_ret
        exact ⟨ret_int (ixOf_at hlt hf.out HQ.out.symm).symm, hbw.trans (hb2.mono hbw.size)⟩
    · go_wp2_with fail
      go_ret
      exact ⟨ret_int (ixOf_none fun i hi => hf.out i hi (by omega)).symm, hbw⟩
theorem find1_ok (r : Rl) (W : World) (v0 v1 v2 v3 v4 v5 v6 v7 v8 v9 : Value) (b : Nat) (name : ByteArray) (hb : W.cell? ⟨b, 0, none⟩ = some (.string name))
    (hR : RuleAt W W.heap.size (some v0) (some v1) (some v2) (some v3) (some v4) (some v5) (some v6) (some v7) (some v8) (some v9) r) :
    Calls Try.prog 96 (#[.agg #[v0, v1, v2, v3, v4, v5, v6, v7, v8, v9]] ++ #[.pointer (some ⟨b, 0, none⟩)]) W fun e W2 => e = .returned (.bool (sameB r.name name)) ∧ Below W.heap.size W W2 := by
  obtain rfl := Option.some.inj hR.1
  clear hR
  have hlt : b < W.heap.size := by
    rcases Nat.lt_or_ge b W.heap.size with h | h
    · exact h
    · simp [World.cell?, Array.getElem?_eq_none h] at hb
  simp only [List.append_toArray, List.cons_append, List.nil_append]
  go_enter Try.func96, Try.ntmps96
  go_wp2
  go_ret
  exact ⟨rfl, (Below.refl _ _).alloc (Nat.le_refl _) _⟩
def Gr.find (g : Gr) (name : ByteArray) : Int := ixOf g.rules fun r => sameB r.name name
theorem find_ok (g : Gr) (name : ByteArray) (W : World) (v0 v1 v2 v3 : Value) (hG : GrAt W W.heap.size (some v0) (some v1) (some v2) (some v3) g) :
    Calls Try.prog 80 #[.agg #[v0, v1, v2, v3], .string name] W fun e W' => e = .returned (.int .i64 (g.find name)) ∧ Below W.heap.size W W' := by
  obtain ⟨h1, hs, h2, h3, h4, h5, ra, rc, h6, h7, h8⟩ := hG
  obtain rfl := Option.some.inj h1
  obtain rfl := Option.some.inj h2
  obtain rfl := Option.some.inj h3
  obtain rfl := Option.some.inj h6
  clear h1 h2 h3 h4 h5 h6
  have hB : Below W.heap.size W ((W.alloc (.cells #[.string g.name, .int .i64 g.bound, .int .i64 g.states, .slice ra g.rules.length rc] 57)).alloc (.cells #[.string name] 9)) := ((Below.refl _ _).alloc (Nat.le_refl _) _).alloc (by simp) _
  have hc : ((W.alloc (.cells #[.string g.name, .int .i64 g.bound, .int .i64 g.states, .slice ra g.rules.length rc] 57)).alloc (.cells #[.string name] 9)).cell? ⟨W.heap.size + 1, 0, none⟩ = some (.string name) := by simp [go_sem]
  have hc2 : W.heap.size + 1 < ((W.alloc (.cells #[.string g.name, .int .i64 g.bound, .int .i64 g.states, .slice ra g.rules.length rc] 57)).alloc (.cells #[.string name] 9)).heap.size := by simp
  have hS := Lib.hid (indexRules_ok g.rules (fun r => sameB r.name name) 96 #[.pointer (some ⟨W.heap.size + 1, 0, none⟩)] enters96 _ ra rc h7 ((h8.keep hB).mono hB.size)
    (fun i hi W' v0 v1 v2 v3 v4 v5 v6 v7 v8 v9 hb hr => find1_ok _ W' _ _ _ _ _ _ _ _ _ _ _ name (by rw [hb.cell hc2]; exact hc) hr))
  have HB := Lib.hid hB
  clear hB hc hc2 h8
  unfold reachN at h7 hs
  go_enter Try.func80, Try.ntmps80
  go_wp2_with (go_at_call 95; refine hS.out.mono ?_; rintro e w' ⟨rfl, hb2⟩)
  go_ret
  exact ⟨rfl, HB.out.trans (hb2.mono (by simp; omega))⟩
end Go.Proofs.Ytgdcnndmdgcjlaa

/- Making a net of a grammar, as plain functions: what the program's making does. No program in sight. -/
namespace Go.Proofs.Ytgdcnndmdgcjlaa
structure Mk where
  rule : Int
  N : Net
  waits : List (Int × Nd)
  many : Nat
  full : Bool
def maxStates : Nat := 4096
def noNd : Nd := .mk 1 ⟨#[]⟩ ⟨#[]⟩ [] []
def Nd.sub1 (n : Nd) : Nd := match n.subs with | [] => noNd | s :: _ => s
def Sta.addEdge (s : Sta) (e : Edg) : Sta := { s with edges := s.edges ++ [e] }
def Sta.addEnd (s : Sta) (i : Int) : Sta := { s with ends := s.ends ++ [i] }
namespace Mk
def state (m : Mk) : Nat × Mk := if m.full || decide (maxStates ≤ m.N.states.length) then (0, { m with full := true }) else (m.N.states.length, { m with N := { m.N with states := m.N.states ++ [⟨m.rule, [], []⟩] } })
def edge (m : Mk) (a : Nat) (kind what : Int) (b : Nat) : Mk := if m.full then m else { m with N := { m.N with states := m.N.states.modify a fun s => s.addEdge ⟨kind, what, b⟩ } }
def empty (m : Mk) (a b : Nat) : Mk := m.edge a 0 0 b
def alt (m : Mk) (d to over : Nat) : Mk := if (m.empty d to).full then m.empty d to else { m.empty d to with N := { (m.empty d to).N with states := (m.empty d to).N.states.modify d fun s => s.addEnd over } }
def leaving (m : Mk) (d e b : Nat) : Mk := ((m.state.2.alt d m.state.1 e).empty m.state.1 e).empty e b
def wait (m : Mk) (n : Nd) : Mk := { m with many := m.many + 1, waits := m.waits ++ [(m.rule, n)] }
end Mk
structure Nums where
  tok : ByteArray → Int
  rule : ByteArray → Int
mutual
def Nd.piece (P : Nums) : Nd → Nat → Nat → Mk → Mk
  | .mk k nm _ _ subs, a, b, m =>
    if m.full then m
    else if k = 6 then m.edge a 1 (P.tok nm) b
    else if k = 5 then m.edge a 2 (P.rule nm) b
    else if k = 7 then (m.edge a 3 m.many b).wait (match subs with | [] => noNd | s :: _ => s)
    else if k = 1 ∧ subs ≠ [] then Nd.pieces P subs a b m
    else if k = 0 then (Nd.palts P subs m.state.2.state.1 m.state.1 (m.state.2.state.2.empty a m.state.1)).empty m.state.2.state.1 b
    else if k = 2 then
      let d := m.state.1
      let e := m.state.2.state.1
      let m1 := m.state.2.state.2.empty a d
      let m2 := Nd.piece1 P subs m1.state.1 e (m1.state.2.alt d m1.state.1 e)
      (if (m2.state.2.alt d m2.state.1 e).full then m2.state.2.alt d m2.state.1 e else (m2.state.2.alt d m2.state.1 e).empty m2.state.1 e).empty e b
    else if k = 3 then
      let d := m.state.1
      let e := m.state.2.state.1
      let m1 := m.state.2.state.2.empty a d
      (Nd.piece1 P subs m1.state.1 d (m1.state.2.alt d m1.state.1 d)).leaving d e b
    else if k = 4 then
      let x := m.state.1
      let d := m.state.2.state.1
      let e := m.state.2.state.2.state.1
      let m1 := m.state.2.state.2.state.2.empty a x
      ((Nd.piece1 P subs x d m1).alt d x d).leaving d e b
    else m.empty a b
def Nd.piece1 (P : Nums) : List Nd → Nat → Nat → Mk → Mk
  | [], a, b, m => if m.full then m else m.empty a b
  | s :: _, a, b, m => Nd.piece P s a b m
def Nd.pieces (P : Nums) : List Nd → Nat → Nat → Mk → Mk
  | [], _, _, m => m
  | s :: r, a, b, m => if r = [] then Nd.piece P s a b m else Nd.pieces P r m.state.1 b (Nd.piece P s a m.state.1 m.state.2)
def Nd.palts (P : Nums) : List Nd → Nat → Nat → Mk → Mk
  | [], _, _, m => m
  | s :: r, e, d, m => Nd.palts P r e d (Nd.piece P s m.state.1 e (m.state.2.alt d m.state.1 e))
end
end Go.Proofs.Ytgdcnndmdgcjlaa

/- Ways through a net by what rules take: who takes what is the least; that is what is reached. No program in sight. -/
namespace Go.Proofs.Ytgdcnndmdgcjlaa
inductive Wk (N : Net) (w : List Int) (E : Nat → Nat → Nat → Prop) (p0 : Pl) (over : Int) : Pl → Prop
  | root : Wk N w E p0 over p0
  | eps {s i : Nat} {e : Edg} (h : Wk N w E p0 over (s, i)) (hg : (s : Int) ≠ over) (he : e ∈ N.edges s) (hk : e.kind ≠ 2) (hk' : e.kind ≠ 1) : Wk N w E p0 over (e.to.toNat, i)
  | tok {s i : Nat} {e : Edg} (h : Wk N w E p0 over (s, i)) (hg : (s : Int) ≠ over) (he : e ∈ N.edges s) (hk : e.kind = 1) (hw : w[i]? = some e.what) : Wk N w E p0 over (e.to.toNat, i + 1)
  | rule {s i j : Nat} {e : Edg} (h : Wk N w E p0 over (s, i)) (hg : (s : Int) ≠ over) (he : e ∈ N.edges s) (hk : e.kind = 2) (hE : E e.what.toNat i j) : Wk N w E p0 over (e.to.toNat, j)
def WkAll (N : Net) (w : List Int) (E : Nat → Nat → Nat → Prop) (A : Nat → Nat → Prop) (p0 : Pl) (over : Int) : Prop :=
  (∃ p, Wk N w E p0 over p ∧ p.2 = w.length) ∨ ∃ s i e, Wk N w E p0 over (s, i) ∧ (s : Int) ≠ over ∧ e ∈ N.edges s ∧ e.kind = 2 ∧ A e.what.toNat i
inductive Tg (N : Net) (w : List Int) : Nat × Nat → Pl → Prop
  | root (c : Nat × Nat) : Tg N w c (N.start c.1, c.2)
  | eps {c : Nat × Nat} {s i : Nat} {e : Edg} (h : Tg N w c (s, i)) (he : e ∈ N.edges s) (hk : e.kind ≠ 2) (hk' : e.kind ≠ 1) : Tg N w c (e.to.toNat, i)
  | tok {c : Nat × Nat} {s i : Nat} {e : Edg} (h : Tg N w c (s, i)) (he : e ∈ N.edges s) (hk : e.kind = 1) (hw : w[i]? = some e.what) : Tg N w c (e.to.toNat, i + 1)
  | rule {c : Nat × Nat} {s i j : Nat} {e : Edg} (h : Tg N w c (s, i)) (he : e ∈ N.edges s) (hk : e.kind = 2) (hc : Tg N w (e.what.toNat, i) (N.stop e.what.toNat, j)) : Tg N w c (e.to.toNat, j)
def TgE (N : Net) (w : List Int) (r i j : Nat) : Prop := Tg N w (r, i) (N.stop r, j)
inductive Ag (N : Net) (w : List Int) : Nat × Nat → Prop
  | here {c : Nat × Nat} {p : Pl} (h : Tg N w c p) (hp : p.2 = w.length) : Ag N w c
  | sub {c : Nat × Nat} {s i : Nat} {e : Edg} (h : Tg N w c (s, i)) (he : e ∈ N.edges s) (hk : e.kind = 2) (ha : Ag N w (e.what.toNat, i)) : Ag N w c
def AgP (N : Net) (w : List Int) (r i : Nat) : Prop := Ag N w (r, i)
section
variable {N : Net} {w : List Int}
theorem nat_ne (s : Nat) : (s : Int) ≠ -1 := by omega
theorem Tg.most {c : Nat × Nat} {p : Pl} (h : Tg N w c p) (h0 : c.2 ≤ w.length) : p.2 ≤ w.length := by
  induction h with
  | root c => exact h0
  | eps h he hk hk' ih => exact ih h0
  | tok h he hk hw ih =>
    have := (List.getElem?_eq_some_iff.1 hw).1
    simp only
    omega
  | rule h he hk hc ih ih2 => exact ih2 (ih h0)
theorem Wk.mono {E E' : Nat → Nat → Nat → Prop} (hE : ∀ r i j, E r i j → E' r i j) {p0 : Pl} {over : Int} {p : Pl} (h : Wk N w E p0 over p) : Wk N w E' p0 over p := by
  induction h with
  | root => exact .root
  | eps h hg he hk hk' ih => exact .eps ih hg he hk hk'
  | tok h hg he hk hw ih => exact .tok ih hg he hk hw
  | rule h hg he hk hc ih => exact .rule ih hg he hk (hE _ _ _ hc)
theorem WkAll.mono {E E' : Nat → Nat → Nat → Prop} {A A' : Nat → Nat → Prop} (hE : ∀ r i j, E r i j → E' r i j) (hA : ∀ r i, A r i → A' r i) {p0 : Pl} {over : Int} (h : WkAll N w E A p0 over) : WkAll N w E' A' p0 over := by
  rcases h with ⟨p, h1, h2⟩ | ⟨s, i, e, h1, h2, h3, h4, h5⟩
  · exact .inl ⟨p, h1.mono hE, h2⟩
  · exact .inr ⟨s, i, e, h1.mono hE, h2, h3, h4, hA _ _ h5⟩
theorem Wk.tg {c : Nat × Nat} {p : Pl} (h : Wk N w (TgE N w) (N.start c.1, c.2) (-1) p) : Tg N w c p := by
  induction h with
  | root => exact .root c
  | eps h hg he hk hk' ih => exact .eps ih he hk hk'
  | tok h hg he hk hw ih => exact .tok ih he hk hw
  | rule h hg he hk hc ih => exact .rule ih he hk hc
theorem WkAll.ag {c : Nat × Nat} (h : WkAll N w (TgE N w) (AgP N w) (N.start c.1, c.2) (-1)) : Ag N w c := by
  rcases h with ⟨p, h1, h2⟩ | ⟨s, i, e, h1, h2, h3, h4, h5⟩
  · exact .here h1.tg h2
  · exact .sub h1.tg h3 h4 h5
theorem Tg.wk {E : Nat → Nat → Nat → Prop} (hN : N.Ok) (hE : ∀ r i j, r < N.starts.length → i ≤ w.length → j ≤ w.length → Wk N w E (N.start r, i) (-1) (N.stop r, j) → E r i j) {c : Nat × Nat} {p : Pl} (h : Tg N w c p) (h0 : c.2 ≤ w.length) :
    Wk N w E (N.start c.1, c.2) (-1) p := by
  induction h with
  | root c => exact .root
  | eps h he hk hk' ih => exact .eps (ih h0) (nat_ne _) he hk hk'
  | tok h he hk hw ih => exact .tok (ih h0) (nat_ne _) he hk hw
  | @rule c s i j e h he hk hc ih ih2 =>
    have hi : i ≤ w.length := h.most h0
    have hj : j ≤ w.length := hc.most hi
    exact .rule (ih h0) (nat_ne _) he hk (hE _ _ _ ((hN.edge s e he).2.2 hk) hi hj (ih2 hi))
theorem Ag.wk {E : Nat → Nat → Nat → Prop} {A : Nat → Nat → Prop} (hN : N.Ok) (hE : ∀ r i j, r < N.starts.length → i ≤ w.length → j ≤ w.length → Wk N w E (N.start r, i) (-1) (N.stop r, j) → E r i j)
    (hA : ∀ r i, r < N.starts.length → i ≤ w.length → WkAll N w E A (N.start r, i) (-1) → A r i) {c : Nat × Nat} (h : Ag N w c) (h0 : c.2 ≤ w.length) : WkAll N w E A (N.start c.1, c.2) (-1) := by
  induction h with
  | here h hp => exact .inl ⟨_, h.wk hN hE h0, hp⟩
  | @sub c s i e h he hk ha ih =>
    have hi : i ≤ w.length := h.most h0
    exact .inr ⟨s, i, e, h.wk hN hE h0, nat_ne _, he, hk, hA _ _ ((hN.edge s e he).2.2 hk) hi (ih hi)⟩
theorem Tg.lv {p0 : Pl} {over : Int} {c : Nat × Nat} {p : Pl} (h : Tg N w c p) (h0 : Lv N w p0 over (some c) (N.start c.1, c.2)) : Lv N w p0 over (some c) p := by
  induction h with
  | root c => exact h0
  | eps h he hk hk' ih => exact .eps (ih h0) (fun h => by cases h) he hk hk'
  | tok h he hk hw ih => exact .tok (ih h0) (fun h => by cases h) he hk hw
  | rule h he hk hc ih ih2 => exact .back (ih h0) (fun h => by cases h) he hk (ih2 (.begin (ih h0) (fun h => by cases h) he hk))
theorem Lv.wk {p0 : Pl} {over : Int} {κ : Key} {p : Pl} (h : Lv N w p0 over κ p) : (κ = none → Wk N w (TgE N w) p0 over p) ∧ ∀ c, κ = some c → Tg N w c p := by
  induction h with
  | root => exact ⟨fun _ => .root, fun c h => (by cases h)⟩
  | begin h hg he hk ih => exact ⟨fun h => (by cases h), fun c h => (by cases h; exact .root _)⟩
  | eps h hg he hk hk' ih => exact ⟨fun h => .eps (ih.1 h) (hg h) he hk hk', fun c h => .eps (ih.2 c h) he hk hk'⟩
  | tok h hg he hk hw ih => exact ⟨fun h => .tok (ih.1 h) (hg h) he hk hw, fun c h => .tok (ih.2 c h) he hk hw⟩
  | back h hg he hk hc ih ih2 => exact ⟨fun h => .rule (ih.1 h) (hg h) he hk (ih2.2 _ rfl), fun c h => .rule (ih.2 c h) he hk (ih2.2 _ rfl)⟩
theorem Wk.lv {p0 : Pl} {over : Int} {p : Pl} (h : Wk N w (TgE N w) p0 over p) : Lv N w p0 over none p := by
  induction h with
  | root => exact .root
  | eps h hg he hk hk' ih => exact .eps ih (fun _ => hg) he hk hk'
  | tok h hg he hk hw ih => exact .tok ih (fun _ => hg) he hk hw
  | rule h hg he hk hc ih => exact .back ih (fun _ => hg) he hk (Tg.lv hc (.begin ih (fun _ => hg) he hk))
theorem lv_iff {p0 : Pl} {over : Int} {p : Pl} : Lv N w p0 over none p ↔ Wk N w (TgE N w) p0 over p := ⟨fun h => h.wk.1 rfl, Wk.lv⟩
theorem Lv.ag {p0 : Pl} {over : Int} {κ : Key} {p : Pl} (h : Lv N w p0 over κ p) : ∀ c, κ = some c → Ag N w c → WkAll N w (TgE N w) (AgP N w) p0 over := by
  induction h with
  | root => exact fun c h => by cases h
  | @begin κ s i e h hg he hk ih =>
    intro c hc ha
    cases hc
    cases κ with
    | none => exact .inr ⟨s, i, e, h.wk.1 rfl, hg rfl, he, hk, ha⟩
    | some c0 => exact ih c0 rfl (.sub (h.wk.2 c0 rfl) he hk ha)
  | eps h hg he hk hk' ih => exact ih
  | tok h hg he hk hw ih => exact ih
  | back h hg he hk hc ih ih2 => exact ih
theorem Ag.lv {p0 : Pl} {over : Int} {c : Nat × Nat} (h : Ag N w c) (h0 : Lv N w p0 over (some c) (N.start c.1, c.2)) : ∃ κ p, Lv N w p0 over κ p ∧ p.2 = w.length := by
  induction h with
  | here h hp => exact ⟨_, _, h.lv h0, hp⟩
  | sub h he hk ha ih => exact ih (.begin (h.lv h0) (fun h => by cases h) he hk)
theorem all_iff {p0 : Pl} {over : Int} : (∃ κ p, Lv N w p0 over κ p ∧ p.2 = w.length) ↔ WkAll N w (TgE N w) (AgP N w) p0 over := by
  constructor
  · rintro ⟨κ, p, h, hp⟩
    cases κ with
    | none => exact .inl ⟨p, h.wk.1 rfl, hp⟩
    | some c => exact h.ag c rfl (.here (h.wk.2 c rfl) hp)
  · rintro (⟨p, h1, h2⟩ | ⟨s, i, e, h1, h2, h3, h4, h5⟩)
    · exact ⟨none, p, h1.lv, h2⟩
    · exact Ag.lv h5 (.begin h1.lv (fun _ => h2) h3 h4)
theorem along_iff {p0 : Pl} {over : Int} : AlongIs N w p0 over ↔ WkAll N w (TgE N w) (AgP N w) p0 over ∨ ∃ i, i ≤ w.length ∧ Wk N w (TgE N w) p0 over (over.toNat, i) := by
  unfold AlongIs
  rw [all_iff]
  constructor
  · rintro (h | ⟨i, hi, h⟩)
    · exact .inl h
    · exact .inr ⟨i, hi, lv_iff.1 h⟩
  · rintro (h | ⟨i, hi, h⟩)
    · exact .inl h
    · exact .inr ⟨i, hi, lv_iff.2 h⟩
end
end Go.Proofs.Ytgdcnndmdgcjlaa

/- What the loops of Takes keep: a walk's places, what rules take. No program in sight. -/
namespace Go.Proofs.Ytgdcnndmdgcjlaa
def prs (S n : Nat) : List (Nat × Nat) := (List.range S).flatMap fun s => (List.range (n + 1)).map fun i => (s, i)
theorem mem_prs {S n s i : Nat} : (s, i) ∈ prs S n ↔ s < S ∧ i ≤ n := by
  unfold prs
  simp only [List.mem_flatMap, List.mem_range, List.mem_map, Prod.mk.injEq]
  constructor
  · rintro ⟨a, ha, b, hb, rfl, rfl⟩; exact ⟨ha, by omega⟩
  · rintro ⟨h1, h2⟩; exact ⟨s, h1, i, by omega, rfl, rfl⟩
def upd2 (g : Nat → Nat → Bool) (s i : Nat) : Nat → Nat → Bool := fun s' i' => if s' = s ∧ i' = i then true else g s' i'
theorem upd2_same (g : Nat → Nat → Bool) (s i : Nat) : upd2 g s i s i = true := by simp [upd2]
theorem upd2_old {g : Nat → Nat → Bool} {s i s' i' : Nat} (h : g s' i' = true) : upd2 g s i s' i' = true := by unfold upd2; split <;> simp_all
theorem upd2_iff {g : Nat → Nat → Bool} {s i s' i' : Nat} : upd2 g s i s' i' = true ↔ (s' = s ∧ i' = i) ∨ g s' i' = true := by unfold upd2; split <;> simp_all
theorem upd2_ne {g : Nat → Nat → Bool} {s i s' i' : Nat} (h : ¬ (s' = s ∧ i' = i)) : upd2 g s i s' i' = g s' i' := by unfold upd2; rw [if_neg h]
def cntF (S n : Nat) (g : Nat → Nat → Bool) : Nat := ((prs S n).filter fun p => !g p.1 p.2).length
theorem cntF_upd {S n s i : Nat} {g : Nat → Nat → Bool} (hs : s < S) (hi : i ≤ n) (h : g s i = false) : cntF S n (upd2 g s i) < cntF S n g := by
  unfold cntF
  refine filter_lt (fun x _ hx => ?_) (y := (s, i)) (mem_prs.2 ⟨hs, hi⟩) (by simp [h]) (by simp [upd2_same])
  simp only [Bool.not_eq_true'] at hx ⊢
  cases hg : g x.1 x.2
  · rfl
  · rw [upd2_old hg] at hx; cases hx
/-! ### a walk -/
structure WEnv where
  N : Net
  w : List Int
  E : Nat → Nat → Nat → Bool
  A : Nat → Nat → Bool
  p0 : Pl
  over : Int
namespace WEnv
def n (V : WEnv) : Nat := V.w.length
def S (V : WEnv) : Nat := V.N.states.length
def P (V : WEnv) (r i j : Nat) : Prop := V.E r i j = true
def Q (V : WEnv) (r i : Nat) : Prop := V.A r i = true
def wk (V : WEnv) (p : Pl) : Prop := Wk V.N V.w V.P V.p0 V.over p
def wall (V : WEnv) : Prop := WkAll V.N V.w V.P V.Q V.p0 V.over
end WEnv
structure WS (V : WEnv) (g : Nat → Nat → Bool) (all : Bool) : Prop where
  base : g V.p0.1 V.p0.2 = true
  snd : ∀ s i, g s i = true → V.wk (s, i)
  all0 : V.p0.2 = V.n → all = true
  allS : all = true → V.wall
def Cl (V : WEnv) (g : Nat → Nat → Bool) (all : Bool) (s i : Nat) (e : Edg) : Prop :=
  g s i = true → (e.kind = 2 → (∀ j, j ≤ V.n → V.E e.what.toNat i j = true → g e.to.toNat j = true) ∧ (V.A e.what.toNat i = true → all = true)) ∧
    (e.kind = 1 → V.w[i]? = some e.what → g e.to.toNat (i + 1) = true) ∧ (e.kind ≠ 2 → e.kind ≠ 1 → g e.to.toNat i = true)
def ClTo (V : WEnv) (g : Nat → Nat → Bool) (all : Bool) (s k i : Nat) : Prop :=
  ∀ (s' k' i' : Nat) e, (s' : Int) ≠ V.over → (V.N.edges s')[k']? = some e → i' ≤ V.n → (s' < s ∨ s' = s ∧ (k' < k ∨ k' = k ∧ i' < i)) → Cl V g all s' i' e
section
variable {V : WEnv} {g : Nat → Nat → Bool} {all : Bool}
theorem ClTo.zero : ClTo V g all 0 0 0 := fun s' k' i' e _ _ _ h => by omega
theorem ClTo.place {s k i : Nat} {e : Edg} (h : ClTo V g all s k i) (he : (V.N.edges s)[k]? = some e) (hc : Cl V g all s i e) : ClTo V g all s k (i + 1) := by
  intro s' k' i' e' hg he' hi' hl
  by_cases hx : s' = s ∧ k' = k ∧ i' = i
  · obtain ⟨rfl, rfl, rfl⟩ := hx
    rw [he] at he'
    cases he'
    exact hc
  · exact h s' k' i' e' hg he' hi' (by omega)
theorem ClTo.edge {s k : Nat} (h : ClTo V g all s k (V.n + 1)) : ClTo V g all s (k + 1) 0 := by
  intro s' k' i' e' hg he' hi' hl
  exact h s' k' i' e' hg he' hi' (by omega)
theorem ClTo.state {s : Nat} (h : ClTo V g all s (V.N.edges s).length 0) : ClTo V g all (s + 1) 0 0 := by
  intro s' k' i' e' hg he' hi' hl
  have := (List.getElem?_eq_some_iff.1 he').1
  by_cases hx : s' = s
  · subst hx; exact h s' k' i' e' hg he' hi' (by omega)
  · exact h s' k' i' e' hg he' hi' (by omega)
theorem ClTo.over {s : Nat} (h : ClTo V g all s 0 0) (ho : (s : Int) = V.over) : ClTo V g all (s + 1) 0 0 := by
  intro s' k' i' e' hg he' hi' hl
  by_cases hx : s' = s
  · subst hx; exact absurd ho hg
  · exact h s' k' i' e' hg he' hi' (by omega)
theorem ClTo.allUp {s k i : Nat} {b : Bool} (h : ClTo V g all s k i) (hb : all = true → b = true) : ClTo V g b s k i := by
  intro s' k' i' e' hg he' hi' hl hgs
  obtain ⟨h1, h2, h3⟩ := h s' k' i' e' hg he' hi' hl hgs
  exact ⟨fun hk => ⟨(h1 hk).1, fun ha => hb ((h1 hk).2 ha)⟩, h2, h3⟩
theorem wk_range (hN : V.N.Ok) (hE : ∀ r i j, V.E r i j = true → j ≤ V.n) (h0 : V.p0.1 < V.S ∧ V.p0.2 ≤ V.n) {p : Pl} (h : V.wk p) : p.1 < V.S ∧ p.2 ≤ V.n := by
  unfold WEnv.wk at h
  induction h with
  | root => exact h0
  | eps h hg he hk hk' ih => exact ⟨(hN.edge _ _ he).1.2, ih.2⟩
  | tok h hg he hk hw ih => exact ⟨(hN.edge _ _ he).1.2, (List.getElem?_eq_some_iff.1 hw).1⟩
  | rule h hg he hk hc ih => exact ⟨(hN.edge _ _ he).1.2, hE _ _ _ hc⟩
theorem WS.full (h : WS V g all) (hN : V.N.Ok) (hE : ∀ r i j, V.E r i j = true → j ≤ V.n) (h0 : V.p0.1 < V.S ∧ V.p0.2 ≤ V.n) (hc : ClTo V g all V.S 0 0) : (∀ s i, g s i = true ↔ V.wk (s, i)) ∧
    ((all = true ∨ ∃ s, s < V.S ∧ g s V.n = true) ↔ V.wall) := by
  have key : ∀ p, V.wk p → g p.1 p.2 = true := by
    intro p hp
    unfold WEnv.wk at hp
    induction hp with
    | root => exact h.base
    | @eps s i e h' hg he hk hk' ih =>
      have hr := wk_range hN hE h0 h'
      obtain ⟨k, hk2, hke⟩ := List.getElem_of_mem he
      exact (hc s k i e hg (by rw [List.getElem?_eq_getElem hk2, hke]) hr.2 (.inl hr.1) ih).2.2 hk hk'
    | @tok s i e h' hg he hk hw ih =>
      have hr := wk_range hN hE h0 h'
      obtain ⟨k, hk2, hke⟩ := List.getElem_of_mem he
      exact (hc s k i e hg (by rw [List.getElem?_eq_getElem hk2, hke]) hr.2 (.inl hr.1) ih).2.1 hk hw
    | @rule s i j e h' hg he hk hc' ih =>
      have hr := wk_range hN hE h0 h'
      obtain ⟨k, hk2, hke⟩ := List.getElem_of_mem he
      exact ((hc s k i e hg (by rw [List.getElem?_eq_getElem hk2, hke]) hr.2 (.inl hr.1) ih).1 hk).1 j (hE _ _ _ hc') hc'
  refine ⟨fun s i => ⟨h.snd s i, key (s, i)⟩, ⟨?_, ?_⟩⟩
  · rintro (ha | ⟨s, hs, hg⟩)
    · exact h.allS ha
    · exact .inl ⟨(s, V.n), h.snd _ _ hg, rfl⟩
  · rintro (⟨p, hp, hl⟩ | ⟨s, i, e, h1, h2, h3, h4, h5⟩)
    · refine .inr ⟨p.1, (wk_range hN hE h0 hp).1, ?_⟩
      have := key p hp
      rw [hl] at this
      exact this
    · have hr := wk_range hN hE h0 h1
      obtain ⟨k, hk2, hke⟩ := List.getElem_of_mem h3
      exact .inl (((hc s k i e h2 (by rw [List.getElem?_eq_getElem hk2, hke]) hr.2 (.inl hr.1) (key _ h1)).1 h4).2 h5)
theorem WS.start (V : WEnv) {a0 : Bool} (ha : ((V.p0.2 : Int) == (V.n : Int)) = a0) : WS V (upd2 (fun _ _ => false) V.p0.1 V.p0.2) a0 := by
  have hr : V.wk V.p0 := .root
  refine ⟨upd2_same _ _ _, fun s i h => ?_, fun h => ?_, fun h => ?_⟩
  · rcases upd2_iff.1 h with ⟨rfl, rfl⟩ | h
    · exact hr
    · cases h
  · rw [← ha, h]; simp
  · rw [h] at ha
    have h2 : (V.p0.2 : Int) = (V.n : Int) := eq_of_beq ha
    exact .inl ⟨V.p0, hr, by unfold WEnv.n at h2; omega⟩
structure WR (V : WEnv) (c0 : Nat) (g : Nat → Nat → Bool) (all changed : Bool) (s k i : Nat) : Prop where
  ws : WS V g all
  le : cntF V.S V.n g ≤ c0
  lt : changed = true → cntF V.S V.n g < c0
  cl : changed = false → ClTo V g all s k i
theorem WR.begin (h : WS V g all) : WR V (cntF V.S V.n g) g all false 0 0 0 := ⟨h, Nat.le_refl _, fun h => by (cases h), fun _ => .zero⟩
variable {c0 : Nat} {changed : Bool}
theorem WR.over {s : Nat} (h : WR V c0 g all changed s 0 0) (ho : (s : Int) = V.over) : WR V c0 g all changed (s + 1) 0 0 := ⟨h.ws, h.le, h.lt, fun hc => (h.cl hc).over ho⟩
theorem WR.state {s : Nat} (h : WR V c0 g all changed s (V.N.edges s).length 0) : WR V c0 g all changed (s + 1) 0 0 := ⟨h.ws, h.le, h.lt, fun hc => (h.cl hc).state⟩
theorem WR.edge {s k : Nat} (h : WR V c0 g all changed s k (V.n + 1)) : WR V c0 g all changed s (k + 1) 0 := ⟨h.ws, h.le, h.lt, fun hc => (h.cl hc).edge⟩
theorem WR.none {s k i : Nat} {e : Edg} (h : WR V c0 g all changed s k i) (he : (V.N.edges s)[k]? = some e) (hg : g s i = false) : WR V c0 g all changed s k (i + 1) :=
  ⟨h.ws, h.le, h.lt, fun hc => (h.cl hc).place he fun ht => by rw [hg] at ht; cases ht⟩
structure WJ (V : WEnv) (c0 : Nat) (nx : Nat → Bool) (t : Nat) (g : Nat → Nat → Bool) (all changed : Bool) (s k i j : Nat) : Prop where
  wr : WR V c0 g all changed s k i
  at_ : g s i = true
  nxS : ∀ j, j ≤ V.n → nx j = true → V.wk (t, j)
  got : changed = false → ∀ j', j' < j → nx j' = true → g t j' = true
variable {nx : Nat → Bool} {t s k i j : Nat}
theorem WJ.skip (h : WJ V c0 nx t g all changed s k i j) (hn : nx j = false) : WJ V c0 nx t g all changed s k i (j + 1) :=
  ⟨h.wr, h.at_, h.nxS, fun hc j' hj hx => by
    by_cases e : j' = j
    · subst e; rw [hn] at hx; cases hx
    · exact h.got hc j' (by omega) hx⟩
theorem WJ.there (h : WJ V c0 nx t g all changed s k i j) (hn : g t j = true) : WJ V c0 nx t g all changed s k i (j + 1) :=
  ⟨h.wr, h.at_, h.nxS, fun hc j' hj hx => by
    by_cases e : j' = j
    · subst e; exact hn
    · exact h.got hc j' (by omega) hx⟩
theorem WJ.new (h : WJ V c0 nx t g all changed s k i j) (ht : t < V.S) (hj : j ≤ V.n) (hn : nx j = true) (hg : g t j = false) : WJ V c0 nx t (upd2 g t j) all true s k i (j + 1) := by
  have hl := cntF_upd (n := V.n) ht hj hg
  refine ⟨⟨⟨upd2_old h.wr.ws.base, fun s' i' hg' => ?_, h.wr.ws.all0, h.wr.ws.allS⟩, ?_, fun _ => ?_, fun hc => by cases hc⟩, upd2_old h.at_, h.nxS, fun hc => by cases hc⟩
  · rcases upd2_iff.1 hg' with ⟨rfl, rfl⟩ | hg'
    · exact h.nxS _ hj hn
    · exact h.wr.ws.snd _ _ hg'
  · have := h.wr.le; omega
  · have := h.wr.le; omega
theorem WJ.place (h : WJ V c0 nx t g all changed s k i (V.n + 1)) {e : Edg} (he : (V.N.edges s)[k]? = some e) (ht : e.to.toNat = t)
    (h2 : e.kind = 2 → (∀ j, j ≤ V.n → V.E e.what.toNat i j = true → nx j = true) ∧ (V.A e.what.toNat i = true → all = true))
    (h1 : e.kind = 1 → V.w[i]? = some e.what → nx (i + 1) = true) (h0 : e.kind ≠ 2 → e.kind ≠ 1 → i ≤ V.n → nx i = true) (hi : i ≤ V.n) : WR V c0 g all changed s k (i + 1) := by
  subst ht
  refine ⟨h.wr.ws, h.wr.le, h.wr.lt, fun hc => (h.wr.cl hc).place he fun _ => ⟨fun hk => ⟨fun j hj hx => h.got hc j (by omega) ((h2 hk).1 j hj hx), (h2 hk).2⟩, fun hk hw => ?_, fun hk hk' => h.got hc i (by omega) (h0 hk hk' hi)⟩⟩
  have := (List.getElem?_eq_some_iff.1 hw).1
  exact h.got hc (i + 1) (by unfold WEnv.n; omega) (h1 hk hw)
def NxOk (V : WEnv) (e : Edg) (i : Nat) (nx : Nat → Bool) (a : Bool) : Prop :=
  (e.kind = 2 → (∀ j, j ≤ V.n → V.E e.what.toNat i j = true → nx j = true) ∧ (V.A e.what.toNat i = true → a = true)) ∧ (e.kind = 1 → V.w[i]? = some e.what → nx (i + 1) = true) ∧ (e.kind ≠ 2 → e.kind ≠ 1 → i ≤ V.n → nx i = true)
theorem WR.inner (h : WR V c0 g all changed s k i) (hg : g s i = true) (hx : ∀ j, j ≤ V.n → nx j = true → V.wk (t, j)) : WJ V c0 nx t g all changed s k i 0 := ⟨h, hg, hx, fun _ j' hj => by omega⟩
theorem WR.told (h : WR V c0 g all changed s k i) {e : Edg} (he : e ∈ V.N.edges s) (hk : e.kind = 2) (hg : g s i = true) (ho : (s : Int) ≠ V.over) : WR V c0 g (all || V.A e.what.toNat i) changed s k i := by
  refine ⟨⟨h.ws.base, h.ws.snd, fun h0 => by rw [h.ws.all0 h0]; rfl, fun ha => ?_⟩, h.le, h.lt, fun hc => (h.cl hc).allUp fun ha => by rw [ha]; rfl⟩
  rcases Bool.or_eq_true _ _ ▸ ha with ha | ha
  · exact h.ws.allS ha
  · exact .inr ⟨s, i, e, h.ws.snd _ _ hg, ho, he, hk, ha⟩
end
/-! ### what rules take -/
structure OEnv where
  N : Net
  w : List Int
namespace OEnv
def n (O : OEnv) : Nat := O.w.length
def R (O : OEnv) : Nat := O.N.starts.length
def env (O : OEnv) (E : Nat → Nat → Nat → Bool) (A : Nat → Nat → Bool) (r i : Nat) : WEnv := ⟨O.N, O.w, E, A, (O.N.start r, i), -1⟩
end OEnv
def upd3 (E : Nat → Nat → Nat → Bool) (r i j : Nat) : Nat → Nat → Nat → Bool := fun r' i' j' => if r' = r ∧ i' = i ∧ j' = j then true else E r' i' j'
theorem upd3_same (E : Nat → Nat → Nat → Bool) (r i j : Nat) : upd3 E r i j r i j = true := by simp [upd3]
theorem upd3_old {E : Nat → Nat → Nat → Bool} {r i j r' i' j' : Nat} (h : E r' i' j' = true) : upd3 E r i j r' i' j' = true := by unfold upd3; split <;> simp_all
theorem upd3_iff {E : Nat → Nat → Nat → Bool} {r i j r' i' j' : Nat} : upd3 E r i j r' i' j' = true ↔ (r' = r ∧ i' = i ∧ j' = j) ∨ E r' i' j' = true := by unfold upd3; split <;> simp_all
def trs (R n : Nat) : List ((Nat × Nat) × Nat) := (prs R n).flatMap fun p => (List.range (n + 1)).map fun j => (p, j)
theorem mem_trs {R n r i j : Nat} : ((r, i), j) ∈ trs R n ↔ r < R ∧ i ≤ n ∧ j ≤ n := by
  unfold trs
  simp only [List.mem_flatMap, List.mem_range, List.mem_map, Prod.mk.injEq]
  constructor
  · rintro ⟨a, ha, b, hb, rfl, rfl⟩; have := mem_prs.1 ha; exact ⟨this.1, this.2, by omega⟩
  · rintro ⟨h1, h2, h3⟩; exact ⟨(r, i), mem_prs.2 ⟨h1, h2⟩, j, by omega, rfl, rfl⟩
def cntE (R n : Nat) (E : Nat → Nat → Nat → Bool) : Nat := ((trs R n).filter fun p => !E p.1.1 p.1.2 p.2).length
theorem cntE_upd {R n r i j : Nat} {E : Nat → Nat → Nat → Bool} (hr : r < R) (hi : i ≤ n) (hj : j ≤ n) (h : E r i j = false) : cntE R n (upd3 E r i j) < cntE R n E := by
  unfold cntE
  refine filter_lt (fun x _ hx => ?_) (y := ((r, i), j)) (mem_trs.2 ⟨hr, hi, hj⟩) (by simp [h]) (by simp [upd3_same])
  simp only [Bool.not_eq_true'] at hx ⊢
  cases hg : E x.1.1 x.1.2 x.2
  · rfl
  · rw [upd3_old hg] at hx; cases hx
structure OS (O : OEnv) (E : Nat → Nat → Nat → Bool) (A : Nat → Nat → Bool) : Prop where
  e : ∀ r i j, E r i j = true → TgE O.N O.w r i j ∧ r < O.R ∧ i ≤ O.n ∧ j ≤ O.n
  a : ∀ r i, A r i = true → AgP O.N O.w r i
def OCl (O : OEnv) (E : Nat → Nat → Nat → Bool) (A : Nat → Nat → Bool) (r i : Nat) : Prop :=
  (∀ j, j ≤ O.n → (O.env E A r i).wk (O.N.stop r, j) → E r i j = true) ∧ ((O.env E A r i).wall → A r i = true)
def OClTo (O : OEnv) (E : Nat → Nat → Nat → Bool) (A : Nat → Nat → Bool) (r i : Nat) : Prop := ∀ r' i' : Nat, i' ≤ O.n → (r' < r ∨ r' = r ∧ i' < i) → OCl O E A r' i'
structure OR (O : OEnv) (c0 : Nat) (E : Nat → Nat → Nat → Bool) (A : Nat → Nat → Bool) (changed : Bool) (r i : Nat) : Prop where
  os : OS O E A
  le : cntE O.R O.n E + cntF O.R O.n A ≤ c0
  lt : changed = true → cntE O.R O.n E + cntF O.R O.n A < c0
  cl : changed = false → OClTo O E A r i
section
variable {O : OEnv} {E : Nat → Nat → Nat → Bool} {A : Nat → Nat → Bool} {c0 : Nat} {changed : Bool} {r i j : Nat}
theorem OR.begin (h : OS O E A) : OR O (cntE O.R O.n E + cntF O.R O.n A) E A false 0 0 := ⟨h, Nat.le_refl _, fun h => by (cases h), fun _ r' i' _ h => by omega⟩
theorem OR.row (h : OR O c0 E A changed r (O.n + 1)) : OR O c0 E A changed (r + 1) 0 := ⟨h.os, h.le, h.lt, fun hc r' i' hi hl => h.cl hc r' i' hi (by omega)⟩
theorem OS.tg (h : OS O E A) {p : Pl} (hw : (O.env E A r i).wk p) : Tg O.N O.w (r, i) p := Wk.tg (c := (r, i)) (Wk.mono (fun r i j hx => (h.e r i j hx).1) hw)
theorem OS.ag (h : OS O E A) (hw : (O.env E A r i).wall) : AgP O.N O.w r i := WkAll.ag (c := (r, i)) (WkAll.mono (fun r i j hx => (h.e r i j hx).1) (fun r i hx => h.a r i hx) hw)
structure OJ (O : OEnv) (c0 : Nat) (g : Nat → Bool) (E : Nat → Nat → Nat → Bool) (A : Nat → Nat → Bool) (changed : Bool) (r i j : Nat) : Prop where
  or : OR O c0 E A changed r i
  tg : ∀ j, g j = true → Tg O.N O.w (r, i) (O.N.stop r, j)
  wk : changed = false → ∀ j, (O.env E A r i).wk (O.N.stop r, j) → g j = true
  al : changed = false → (O.env E A r i).wall → A r i = true
  got : changed = false → ∀ j', j' < j → g j' = true → E r i j' = true
variable {g : Nat → Bool}
theorem OR.walked (h : OR O c0 E A changed r i) (hr : r < O.R) (hi : i ≤ O.n) {all : Bool} (hg : ∀ j, g j = true ↔ (O.env E A r i).wk (O.N.stop r, j)) (ha : all = true ↔ (O.env E A r i).wall) :
    (all = false ∨ A r i = true → OJ O c0 g E A changed r i 0) ∧ (all = true → A r i = false → OJ O c0 g E (upd2 A r i) true r i 0) := by
  refine ⟨fun hx => ⟨h, fun j hj => h.os.tg ((hg j).1 hj), fun _ j hj => (hg j).2 hj, fun _ hw => ?_, fun _ j' hj => by omega⟩, fun h1 h2 => ?_⟩
  · rcases hx with hx | hx
    · rw [ha.2 hw] at hx; cases hx
    · exact hx
  · have hl := cntF_upd (n := O.n) hr hi h2
    have hle := h.le
    refine ⟨⟨⟨h.os.e, fun r' i' hA => ?_⟩, by omega, fun _ => by omega, fun hc => by cases hc⟩, fun j hj => h.os.tg ((hg j).1 hj), fun hc => by (cases hc), fun hc => by (cases hc), fun hc => by cases hc⟩
    rcases upd2_iff.1 hA with ⟨rfl, rfl⟩ | hA
    · exact h.os.ag (ha.1 h1)
    · exact h.os.a _ _ hA
theorem OJ.skip (h : OJ O c0 g E A changed r i j) (hx : g j = false ∨ E r i j = true) : OJ O c0 g E A changed r i (j + 1) :=
  ⟨h.or, h.tg, h.wk, h.al, fun hc j' hj hg => by
    by_cases e : j' = j
    · subst e
      rcases hx with hx | hx
      · rw [hx] at hg; cases hg
      · exact hx
    · exact h.got hc j' (by omega) hg⟩
theorem OJ.new (h : OJ O c0 g E A changed r i j) (hr : r < O.R) (hi : i ≤ O.n) (hj : j ≤ O.n) (hg : g j = true) (hx : E r i j = false) : OJ O c0 g (upd3 E r i j) A true r i (j + 1) := by
  have hl := cntE_upd (n := O.n) hr hi hj hx
  have hle := h.or.le
  refine ⟨⟨⟨fun r' i' j' hE => ?_, h.or.os.a⟩, by omega, fun _ => by omega, fun hc => by cases hc⟩, h.tg, fun hc => by (cases hc), fun hc => by (cases hc), fun hc => by cases hc⟩
  rcases upd3_iff.1 hE with ⟨rfl, rfl, rfl⟩ | hE
  · exact ⟨h.tg _ hg, hr, hi, hj⟩
  · exact h.or.os.e _ _ _ hE
theorem OJ.place (h : OJ O c0 g E A changed r i (O.n + 1)) : OR O c0 E A changed r (i + 1) :=
  ⟨h.or.os, h.or.le, h.or.lt, fun hc r' i' hi hl => by
    by_cases hx : r' = r ∧ i' = i
    · obtain ⟨rfl, rfl⟩ := hx
      exact ⟨fun j hj hw => h.got hc j (by omega) (h.wk hc j hw), h.al hc⟩
    · exact h.or.cl hc r' i' hi (by omega)⟩
theorem wk_found (hN : O.N.Ok) (hS : OS O E A) (hE : ∀ r i j, r < O.R → i ≤ O.n → (E r i j = true ↔ TgE O.N O.w r i j)) {p0 p : Pl} {over : Int} (h0 : p0.2 ≤ O.n) : Wk O.N O.w (fun r i j => E r i j = true) p0 over p ↔ Wk O.N O.w (TgE O.N O.w) p0 over p := by
  constructor
  · exact fun h => h.mono fun r i j hx => (hS.e r i j hx).1
  · intro h
    have : Wk O.N O.w (fun r i j => E r i j = true) p0 over p ∧ p.2 ≤ O.n := by
      induction h with
      | root => exact ⟨.root, h0⟩
      | eps h hg he hk hk' ih => exact ⟨.eps ih.1 hg he hk hk', ih.2⟩
      | tok h hg he hk hw ih => exact ⟨.tok ih.1 hg he hk hw, (List.getElem?_eq_some_iff.1 hw).1⟩
      | @rule s i j e h hg he hk hc ih => exact ⟨.rule ih.1 hg he hk ((hE _ _ _ ((hN.edge _ _ he).2.2 hk) ih.2).2 hc), (Tg.most (p := (O.N.stop e.what.toNat, j)) hc ih.2 : j ≤ _)⟩
    exact this.1
theorem wkAll_found (hN : O.N.Ok) (hS : OS O E A) (hE : ∀ r i j, r < O.R → i ≤ O.n → (E r i j = true ↔ TgE O.N O.w r i j)) (hA : ∀ r i, r < O.R → i ≤ O.n → (A r i = true ↔ AgP O.N O.w r i)) {p0 : Pl} {over : Int} (h0 : p0.2 ≤ O.n) :
    WkAll O.N O.w (fun r i j => E r i j = true) (fun r i => A r i = true) p0 over ↔ WkAll O.N O.w (TgE O.N O.w) (AgP O.N O.w) p0 over := by
  have most : ∀ {p : Pl}, Wk O.N O.w (TgE O.N O.w) p0 over p → p.2 ≤ O.n := by
    intro p h
    induction h with
    | root => exact h0
    | eps h hg he hk hk' ih => exact ih
    | tok h hg he hk hw ih => exact (List.getElem?_eq_some_iff.1 hw).1
    | @rule s i j e h hg he hk hc ih => exact (Tg.most (p := (O.N.stop e.what.toNat, j)) hc ih : j ≤ _)
  constructor
  · rintro (⟨p, h1, h2⟩ | ⟨s, i, e, h1, h2, h3, h4, h5⟩)
    · exact .inl ⟨p, (wk_found hN hS hE h0).1 h1, h2⟩
    · exact .inr ⟨s, i, e, (wk_found hN hS hE h0).1 h1, h2, h3, h4, hS.a _ _ h5⟩
  · rintro (⟨p, h1, h2⟩ | ⟨s, i, e, h1, h2, h3, h4, h5⟩)
    · exact .inl ⟨p, (wk_found hN hS hE h0).2 h1, h2⟩
    · exact .inr ⟨s, i, e, (wk_found hN hS hE h0).2 h1, h2, h3, h4, (hA _ _ ((hN.edge _ _ h3).2.2 h4) (most h1)).2 h5⟩
theorem OR.full (h : OR O c0 E A false O.R 0) (hN : O.N.Ok) : (∀ r i j, r < O.R → i ≤ O.n → (E r i j = true ↔ TgE O.N O.w r i j)) ∧ ∀ r i, r < O.R → i ≤ O.n → (A r i = true ↔ AgP O.N O.w r i) := by
  have hE : ∀ r i j, r < O.N.starts.length → i ≤ O.w.length → j ≤ O.w.length → Wk O.N O.w (fun r i j => E r i j = true) (O.N.start r, i) (-1) (O.N.stop r, j) → E r i j = true := fun r i j hr hi hj hw => (h.cl rfl r i hi (.inl hr)).1 j hj hw
  have hA : ∀ r i, r < O.N.starts.length → i ≤ O.w.length → WkAll O.N O.w (fun r i j => E r i j = true) (fun r i => A r i = true) (O.N.start r, i) (-1) → A r i = true := fun r i hr hi hw => (h.cl rfl r i hi (.inl hr)).2 hw
  refine ⟨fun r i j hr hi => ⟨fun hx => (h.os.e r i j hx).1, fun hx => ?_⟩, fun r i hr hi => ⟨fun hx => h.os.a r i hx, fun hx => ?_⟩⟩
  · have hj : j ≤ O.w.length := Tg.most hx hi
    exact hE r i j hr hi hj (Tg.wk hN hE hx hi)
  · exact hA r i hr hi (Ag.wk hN hE hA hx hi)
end
end Go.Proofs.Ytgdcnndmdgcjlaa

/- A table of bools that is made row by row; a net as the document has it; what rules take: in memory. -/
namespace Go.Proofs.Ytgdcnndmdgcjlaa
open Go.RowKit
theorem owns_type {w : World} {b T T' : Nat} {cs cs' : List Value} (h : Owns w b cs T) (h' : Owns w b cs' T') : T = T' := by
  unfold Owns at h h'
  rw [h] at h'
  simp only [Option.some.injEq, Obj.cells.injEq] at h'
  exact h'.2.1
theorem owns_ne {w : World} {b b' T T' : Nat} {cs cs' : List Value} (h : Owns w b cs T) (h' : Owns w b' cs' T') (hT : T ≠ T') : b ≠ b' := fun e => by
  subst e
  exact hT (owns_type h h')
theorem put_heap {w : World} {a : Addr} {v : Value} {i : Nat} (h : a.block ≠ i) : (w.setCell a v).heap[i]? = w.heap[i]? := Below.heap_setCell _ _ _ _ (fun e => h e.symm)
def bcells (n : Nat) (h : Nat → Bool) : List Value := (List.range (n + 1)).map fun i => .bool (h i)
theorem bcells_at {n i : Nat} (h : Nat → Bool) (hi : i ≤ n) : (bcells n h)[i]? = some (.bool (h i)) := by
  unfold bcells
  rw [List.getElem?_map, List.getElem?_range (by omega)]
  rfl
theorem bcells_false (n : Nat) : List.replicate (n + 1) (Value.bool false) = bcells n fun _ => false := by
  unfold bcells
  apply List.ext_getElem <;> simp
theorem bcells_set {n i : Nat} (h : Nat → Bool) : (bcells n h).set i (.bool true) = bcells n fun j => if j = i then true else h j := by
  unfold bcells
  apply List.ext_getElem
  · simp
  · intro k h1 h2
    rw [List.getElem_set]
    simp only [List.getElem_map, List.getElem_range]
    by_cases e : i = k
    · subst e; simp
    · have e' : ¬ k = i := fun x => e x.symm
      rw [if_neg e, if_neg e']
def rcells (S n : Nat) (f : Nat → Nat) : List Value := (List.range S).map fun s => .slice (some ⟨f s, 0, none⟩) (n + 1) (n + 1)
theorem rcells_at {S n s : Nat} (f : Nat → Nat) (hs : s < S) : (rcells S n f)[s]? = some (.slice (some ⟨f s, 0, none⟩) (n + 1) (n + 1)) := by
  unfold rcells
  rw [List.getElem?_map, List.getElem?_range hs]
  rfl
theorem rcells_next (S n t : Nat) (f : Nat → Nat) : rcells S n f ++ [.slice (some ⟨t, 0, none⟩) (n + 1) (n + 1)] = rcells (S + 1) n fun s => if s = S then t else f s := by
  unfold rcells
  rw [List.range_succ, List.map_append]
  congr 1
  · apply List.map_congr_left
    intro s hs
    rw [List.mem_range] at hs
    have e : ¬ s = S := by omega
    simp only [e, if_false]
  · simp
structure Grid (w : World) (base : Nat) (v : Value) (S n : Nat) (f : Nat → Nat) (g : Nat → Nat → Bool) : Prop where
  row : looseRow w base 31 1 v S (rcells S n f)
  cells : ∀ s, s < S → Owns w (f s) (bcells n (g s)) 4
  lo : ∀ s, s < S → base ≤ f s
  inj : ∀ s s', s < S → s' < S → f s = f s' → s = s'
section
variable {w w' : World} {base S n : Nat} {v : Value} {f : Nat → Nat} {g : Nat → Nat → Bool}
theorem loose_move {e size k : Nat} {xs : List Value} (h : looseRow w base e size v k xs) (hm : ∀ (b : Nat) (cs : Array Value), w.heap[b]? = some (Obj.cells cs e (0, 0)) → w'.heap[b]? = w.heap[b]?) : looseRow w' base e size v k xs := by
  refine ⟨h.1, h.2.imp id ?_⟩
  rintro ⟨b, cap, cur, h1, h2, h3, h4⟩
  exact ⟨b, cap, cur, h1, h2, (hm b cur h3).trans h3, h4⟩
theorem Grid.nil (w : World) (base n : Nat) (f : Nat → Nat) (g : Nat → Nat → Bool) : Grid w base (.slice none 0 0) 0 n f g :=
  ⟨⟨rfl, .inl ⟨rfl, rfl⟩⟩, fun s h => absurd h (by omega), fun s h => absurd h (by omega), fun s s' h => absurd h (by omega)⟩
theorem Grid.move (h : Grid w base v S n f g) (hm : ∀ (b : Nat) (cs : Array Value), w.heap[b]? = some (Obj.cells cs 31 (0, 0)) → w'.heap[b]? = w.heap[b]?) (hc : ∀ s, s < S → w'.heap[f s]? = w.heap[f s]?) : Grid w' base v S n f g :=
  ⟨loose_move h.row hm, fun s hs => (hc s hs).trans (h.cells s hs), h.lo, h.inj⟩
theorem Grid.keep (h : Grid w base v S n f g) (hg : Grew w w') : Grid w' base v S n f g :=
  h.move (fun b _ hb => hg.block b (Array.getElem?_eq_some_iff.1 hb).1) fun s hs => hg.block _ (h.cells s hs).lt
theorem Grid.other (h : Grid w base v S n f g) {a : Addr} {cs : List Value} {T : Nat} (ho : Owns w a.block cs T) (hT : T ≠ 31) (hn : ∀ s, s < S → f s ≠ a.block) (x : Value) : Grid (w.setCell a x) base v S n f g :=
  h.move (fun b cs' hb => put_heap fun e => by
    subst e
    unfold Owns at ho
    rw [ho] at hb
    simp only [Option.some.injEq, Obj.cells.injEq] at hb
    exact hT hb.2.1) fun s hs => put_heap fun e => hn s hs e.symm
theorem Grid.cell (h : Grid w base v S n f g) {s i : Nat} (hs : s < S) (hi : i ≤ n) : w.cell? ⟨f s, i, none⟩ = some (.bool (g s i)) := (h.cells s hs).cell_at (bcells_at _ hi)
theorem Grid.at (h : Grid w base v S n f g) {s : Nat} (hs : s < S) : ∃ b cap, v = .slice (some ⟨b, 0, none⟩) S cap ∧ b < w.heap.size ∧ ∀ s, s < S → w.cell? ⟨b, s, none⟩ = some (.slice (some ⟨f s, 0, none⟩) (n + 1) (n + 1)) := by
  rcases h.row.2 with ⟨_, h0⟩ | ⟨b, cap, cur, h1, h2, h3, h4⟩
  · omega
  · exact ⟨b, cap, h1, (Array.getElem?_eq_some_iff.1 h3).1, fun s hs => looseRow_cells h.row (g := b) (by rw [h1]; rfl) s _ (rcells_at f hs)⟩
theorem Grid.put (h : Grid w base v S n f g) {s i : Nat} (hs : s < S) : Grid (w.setCell ⟨f s, i, none⟩ (.bool true)) base v S n f (upd2 g s i) := by
  have ho := h.cells s hs
  refine ⟨loose_move h.row fun b cs hb => put_heap fun e => ?_, fun s' hs' => ?_, h.lo, h.inj⟩
  · have e : f s = b := e
    subst e
    unfold Owns at ho
    rw [ho] at hb
    simp only [Option.some.injEq, Obj.cells.injEq] at hb
    exact absurd hb.2.1 (by decide)
  · by_cases e : s' = s
    · subst e
      have := ho.set i (.bool true)
      rw [bcells_set] at this
      have he : (fun j => if j = i then true else g s' j) = upd2 g s' i s' := by
        funext j
        unfold upd2
        simp
      rwa [he] at this
    · have he : upd2 g s i s' = g s' := by
        funext j
        exact upd2_ne fun x => e x.1
      rw [he]
      exact (h.cells s' hs').other (by show f s ≠ f s'; exact fun x => e (h.inj _ _ hs' hs x.symm)) _
theorem Grid.congr (h : Grid w base v S n f g) {g' : Nat → Nat → Bool} (he : ∀ s, s < S → ∀ i, i ≤ n → g s i = g' s i) : Grid w base v S n f g' :=
  ⟨h.row, fun s hs => by
    have : bcells n (g' s) = bcells n (g s) := by
      unfold bcells
      apply List.map_congr_left
      intro i hi
      rw [List.mem_range] at hi
      rw [he s hs i (by omega)]
    rw [this]
    exact h.cells s hs, h.lo, h.inj⟩
theorem Grid.next (h : Grid w base v S n f g) {v' : Value} {t : Nat} {b : Nat → Bool} (hg : w.grownBy w' v.ownBlock) (hr : looseRow w' base 31 1 v' (S + 1) (rcells S n f ++ [.slice (some ⟨t, 0, none⟩) (n + 1) (n + 1)])) (ht : Owns w' t (bcells n b) 4) (hb : base ≤ t) (hn : ∀ s, s < S → f s ≠ t) :
    Grid w' base v' (S + 1) n (fun s => if s = S then t else f s) (fun s => if s = S then b else g s) := by
  rw [rcells_next] at hr
  refine ⟨hr, fun s hs => ?_, fun s hs => ?_, fun s s' hs hs' e => ?_⟩
  · by_cases e : s = S
    · simpa [e] using ht
    · have hs' : s < S := by omega
      have ho := h.cells s hs'
      simp only [e, if_false]
      unfold Owns at *
      rw [hg.block _ (Array.getElem?_eq_some_iff.1 ho).1 (fun e2 => ?_)]
      · exact ho
      · obtain ⟨_, cs, h2⟩ := row_own h.row e2.symm
        rw [h2] at ho
        simp only [Option.some.injEq, Obj.cells.injEq] at ho
        exact absurd ho.2.1 (by decide)
  · by_cases e : s = S
    · simpa [e] using hb
    · simpa [e] using h.lo s (by omega)
  · by_cases e1 : s = S
    · by_cases e2 : s' = S
      · omega
      · simp only [e1, e2, if_true, if_false] at e
        exact absurd e.symm (hn s' (by omega))
    · by_cases e2 : s' = S
      · simp only [e1, e2, if_true, if_false] at e
        exact absurd e (hn s (by omega))
      · simp only [e1, e2, if_false] at e
        exact h.inj _ _ (by omega) (by omega) e
end
theorem grew_put {W w : World} {b : Nat} (h : Grew W w) (hb : W.heap.size ≤ b) (i : Nat) (v : Value) : Grew W (w.setCell ⟨b, i, none⟩ v) := Below.setCell h (p := ⟨b, i, none⟩) hb v
structure WSt (W w : World) (v : Value) (S n : Nat) (f : Nat → Nat) (g : Nat → Nat → Bool) : Prop where
  gr : Grid w W.heap.size v S n f g
  low : Grew W w
theorem WSt.keep {W w w' : World} {v : Value} {S n : Nat} {f : Nat → Nat} {g : Nat → Nat → Bool} (h : WSt W w v S n f g) (hg : Grew w w') : WSt W w' v S n f g := ⟨h.gr.keep hg, h.low.trans hg⟩
theorem WSt.put {W w : World} {v : Value} {S n s : Nat} {f : Nat → Nat} {g : Nat → Nat → Bool} (h : WSt W w v S n f g) (hs : s < S) (i : Nat) : WSt W (w.setCell ⟨f s, i, none⟩ (.bool true)) v S n f (upd2 g s i) := ⟨h.gr.put hs, grew_put h.low (h.gr.lo s hs) i _⟩
theorem WSt.other {W w : World} {v x : Value} {S n b i : Nat} {f : Nat → Nat} {g : Nat → Nat → Bool} {cs : List Value} (h : WSt W w v S n f g) (ho : Owns w b cs 4) (hb : W.heap.size ≤ b) (hn : ∀ s, s < S → f s ≠ b) : WSt W (w.setCell ⟨b, i, none⟩ x) v S n f g :=
  ⟨h.gr.other (a := ⟨b, i, none⟩) ho (by decide) hn x, grew_put h.low hb i x⟩
theorem grew_own {W w w' : World} {e size k : Nat} {v : Value} {xs : List Value} (h : Grew W w) (hr : looseRow w W.heap.size e size v k xs) (hg : w.grownBy w' v.ownBlock) : Grew W w' :=
  ⟨hg.os.trans h.os, hg.tape.trans h.tape, hg.output.trans h.output, Nat.le_trans h.size hg.size, fun i hi => by
    rw [hg.block i (Nat.lt_of_lt_of_le hi h.size) (fun e => by have := (row_own hr e.symm).1; omega)]
    exact h.block i hi⟩
theorem owns_grown {w w' : World} {base b e size k T : Nat} {v : Value} {cs xs : List Value} (ho : Owns w b cs T) (hr : looseRow w base e size v k xs) (hT : T ≠ e) (hg : w.grownBy w' v.ownBlock) : Owns w' b cs T := by
  unfold Owns at *
  rw [hg.block b (Array.getElem?_eq_some_iff.1 ho).1 (fun e2 => ?_)]
  · exact ho
  · obtain ⟨_, cs', h2⟩ := row_own hr e2.symm
    rw [h2] at ho
    simp only [Option.some.injEq, Obj.cells.injEq] at ho
    exact hT ho.2.1.symm
/-! ### a net as the document has it -/
def REdgesAt (W : World) (lim : Nat) (a : Option Addr) (l : List Edg) : Prop := ∀ k (h : k < l.length), ∃ b off, a = some ⟨b, off, none⟩ ∧ b < lim ∧
  W.cell? ⟨b, off + k * 3, none⟩ = some (.int .i64 l[k].kind) ∧ W.cell? ⟨b, off + k * 3 + 1, none⟩ = some (.int .i64 l[k].what) ∧ W.cell? ⟨b, off + k * 3 + 2, none⟩ = some (.int .i64 l[k].to)
def RSttAt (W : World) (lim : Nat) (c0 c1 c2 : Option Value) (s : Sta) : Prop :=
  c0 = some (.int .i64 s.rule) ∧ (∃ a cap, c1 = some (.slice a s.edges.length cap) ∧ REdgesAt W lim a s.edges) ∧ ∃ a cap, c2 = some (.slice a s.ends.length cap) ∧ IntsAt W lim a s.ends
def RStatesAt (W : World) (lim : Nat) (a : Option Addr) (l : List Sta) : Prop := ∀ k (h : k < l.length), ∃ b off, a = some ⟨b, off, none⟩ ∧ b < lim ∧
  RSttAt W lim (W.cell? ⟨b, off + k * 3, none⟩) (W.cell? ⟨b, off + k * 3 + 1, none⟩) (W.cell? ⟨b, off + k * 3 + 2, none⟩) l[k]
structure RNetAt (W : World) (lim : Nat) (v0 v1 v2 v3 v4 : Value) (N : Net) : Prop where
  states : ∃ a cap, v0 = .slice a N.states.length cap ∧ RStatesAt W lim a N.states
  starts : IntsV W lim v1 N.starts
  stops : IntsV W lim v2 N.stops
  preds : IntsV W lim v3 N.preds
  decisions : IntsV W lim v4 N.decisions
section
variable {W W' : World} {lim : Nat}
theorem REdgesAt.keep (hb : Below lim W W') {a : Option Addr} {l : List Edg} (h : REdgesAt W lim a l) : REdgesAt W' lim a l := fun k hk => by
  obtain ⟨b, off, h1, h2, h3, h4, h5⟩ := h k hk
  exact ⟨b, off, h1, h2, by rw [hb.cell h2]; exact h3, by rw [hb.cell h2]; exact h4, by rw [hb.cell h2]; exact h5⟩
theorem RSttAt.keep (hb : Below lim W W') {c0 c1 c2 : Option Value} {s : Sta} (h : RSttAt W lim c0 c1 c2 s) : RSttAt W' lim c0 c1 c2 s := by
  obtain ⟨h1, ⟨a, cap, h2, h3⟩, a', cap', h4, h5⟩ := h
  exact ⟨h1, ⟨a, cap, h2, h3.keep hb⟩, a', cap', h4, h5.keep hb⟩
theorem RStatesAt.keep (hb : Below lim W W') {a : Option Addr} {l : List Sta} (h : RStatesAt W lim a l) : RStatesAt W' lim a l := fun k hk => by
  obtain ⟨b, off, h1, h2, h3⟩ := h k hk
  have e : ∀ o, W'.cell? ⟨b, o, none⟩ = W.cell? ⟨b, o, none⟩ := fun o => hb.cell h2
  exact ⟨b, off, h1, h2, by rw [e, e, e]; exact h3.keep hb⟩
theorem RNetAt.keep (hb : Below lim W W') {v0 v1 v2 v3 v4 : Value} {N : Net} (h : RNetAt W lim v0 v1 v2 v3 v4 N) : RNetAt W' lim v0 v1 v2 v3 v4 N := by
  obtain ⟨⟨a, cap, h1, h2⟩, h3, h4, h5, h6⟩ := h
  exact ⟨⟨a, cap, h1, h2.keep hb⟩, h3.keep hb, h4.keep hb, h5.keep hb, h6.keep hb⟩
theorem REdgesAt.mono {lim' : Nat} (hl : lim ≤ lim') {a : Option Addr} {l : List Edg} (h : REdgesAt W lim a l) : REdgesAt W lim' a l := fun k hk => by
  obtain ⟨b, off, h1, h2, h3⟩ := h k hk
  exact ⟨b, off, h1, by omega, h3⟩
theorem RSttAt.mono {lim' : Nat} (hl : lim ≤ lim') {c0 c1 c2 : Option Value} {s : Sta} (h : RSttAt W lim c0 c1 c2 s) : RSttAt W lim' c0 c1 c2 s := by
  obtain ⟨h1, ⟨a, cap, h2, h3⟩, a', cap', h4, h5⟩ := h
  exact ⟨h1, ⟨a, cap, h2, h3.mono hl⟩, a', cap', h4, h5.mono hl⟩
theorem RNetAt.mono {lim' : Nat} (hl : lim ≤ lim') {v0 v1 v2 v3 v4 : Value} {N : Net} (h : RNetAt W lim v0 v1 v2 v3 v4 N) : RNetAt W lim' v0 v1 v2 v3 v4 N := by
  obtain ⟨⟨a, cap, h1, h2⟩, h3, h4, h5, h6⟩ := h
  refine ⟨⟨a, cap, h1, fun k hk => ?_⟩, h3.mono hl, h4.mono hl, h5.mono hl, h6.mono hl⟩
  obtain ⟨b, off, h7, h8, h9⟩ := h2 k hk
  exact ⟨b, off, h7, by omega, h9.mono hl⟩
end
/-! ### what rules take -/
structure TkLoc where
  lv : Nat → Value
  xf : Nat → Nat → Nat
  af : Nat → Nat
def lcells (R : Nat) (lv : Nat → Value) : List Value := (List.range R).map lv
structure TkAt (W : World) (base tb : Nat) (n0 n1 n2 n3 n4 wv ev av : Value) (R Q n : Nat) (L : TkLoc) (E : Nat → Nat → Nat → Bool) (A : Nat → Nat → Bool) : Prop where
  box : Owns W tb [n0, n1, n2, n3, n4, wv, ev, av] 126
  ends : looseRow W base 77 1 ev R (lcells R L.lv)
  l : ∀ r, r < R → Grid W base (L.lv r) (n + 1) n (L.xf r) (E r)
  a : Grid W base av Q n L.af A
  xx : ∀ r r' i i', r < R → r' < R → i ≤ n → i' ≤ n → r ≠ r' → L.xf r i ≠ L.xf r' i'
  xa : ∀ r r' i, r < R → r' < Q → i ≤ n → L.xf r i ≠ L.af r'
  la : ∀ r, r < R → ∀ b, (L.lv r).ownBlock = some b → av.ownBlock ≠ some b
section
variable {W W' : World} {base tb R Q n : Nat} {n0 n1 n2 n3 n4 wv ev av : Value} {L : TkLoc} {E : Nat → Nat → Nat → Bool} {A : Nat → Nat → Bool}
theorem lcells_at {R r : Nat} {lv : Nat → Value} (hr : r < R) : (lcells R lv)[r]? = some (lv r) := by
  unfold lcells
  rw [List.getElem?_map, List.getElem?_range hr]
  rfl
theorem lcells_next (R : Nat) (lv : Nat → Value) (x : Value) : lcells R lv ++ [x] = lcells (R + 1) fun r => if r = R then x else lv r := by
  unfold lcells
  rw [List.range_succ, List.map_append]
  congr 1
  · apply List.map_congr_left
    intro s hs
    rw [List.mem_range] at hs
    have e : ¬ s = R := by omega
    simp only [e, if_false]
  · simp
theorem TkAt.keep (h : TkAt W base tb n0 n1 n2 n3 n4 wv ev av R Q n L E A) (hg : Grew W W') : TkAt W' base tb n0 n1 n2 n3 n4 wv ev av R Q n L E A :=
  ⟨h.box.keep hg, loose_move h.ends fun b _ hb => hg.block b (Array.getElem?_eq_some_iff.1 hb).1, fun r hr => (h.l r hr).keep hg, h.a.keep hg, h.xx, h.xa, h.la⟩
theorem TkAt.ends_at (h : TkAt W base tb n0 n1 n2 n3 n4 wv ev av R Q n L E A) {r : Nat} (hr : r < R) : ∃ b cap b' cap', ev = .slice (some ⟨b, 0, none⟩) R cap ∧ b < W.heap.size ∧ W.cell? ⟨b, r, none⟩ = some (.slice (some ⟨b', 0, none⟩) (n + 1) cap') ∧ b' < W.heap.size ∧
    ∀ i, i ≤ n → W.cell? ⟨b', i, none⟩ = some (.slice (some ⟨L.xf r i, 0, none⟩) (n + 1) (n + 1)) := by
  obtain ⟨b', cap', h1, h2, h3⟩ := (h.l r hr).at (s := 0) (by omega)
  rcases h.ends.2 with ⟨_, h0⟩ | ⟨b, cap, cur, k1, k2, k3, k4⟩
  · omega
  · refine ⟨b, cap, b', cap', k1, (Array.getElem?_eq_some_iff.1 k3).1, ?_, h2, fun i hi => h3 i (by omega)⟩
    have := looseRow_cells h.ends (g := b) (by rw [k1]; rfl) r _ (lcells_at hr)
    rw [this, h1]
theorem TkAt.putE (h : TkAt W base tb n0 n1 n2 n3 n4 wv ev av R Q n L E A) {r i j : Nat} (hr : r < R) (hi : i ≤ n) : TkAt (W.setCell ⟨L.xf r i, j, none⟩ (.bool true)) base tb n0 n1 n2 n3 n4 wv ev av R Q n L (upd3 E r i j) A := by
  have ho := (h.l r hr).cells i (by omega)
  refine ⟨h.box.other (owns_ne ho h.box (by decide)) _, loose_move h.ends fun b cs hb => put_heap fun e => ?_, fun r' hr' => ?_, h.a.other ho (by decide) (fun s hs => fun e => h.xa r s i hr hs hi e.symm) _, h.xx, h.xa, h.la⟩
  · have e : L.xf r i = b := e
    subst e
    unfold Owns at ho
    rw [ho] at hb
    simp only [Option.some.injEq, Obj.cells.injEq] at hb
    exact absurd hb.2.1 (by decide)
  · by_cases e : r' = r
    · subst e
      have := (h.l r' hr').put (s := i) (i := j) (by omega)
      have he : upd2 (E r') i j = upd3 E r' i j r' := by
        funext i' j'
        unfold upd2 upd3
        simp
      rwa [he] at this
    · have he : upd3 E r i j r' = E r' := by
        funext i' j'
        unfold upd3
        rw [if_neg fun x => e x.1]
      rw [he]
      exact (h.l r' hr').other ho (by decide) (fun s hs => h.xx r' r s i hr' hr (by omega) hi e) _
theorem TkAt.putA (h : TkAt W base tb n0 n1 n2 n3 n4 wv ev av R Q n L E A) {r i : Nat} (hr : r < Q) : TkAt (W.setCell ⟨L.af r, i, none⟩ (.bool true)) base tb n0 n1 n2 n3 n4 wv ev av R Q n L E (upd2 A r i) := by
  have ho := h.a.cells r hr
  refine ⟨h.box.other (owns_ne ho h.box (by decide)) _, loose_move h.ends fun b cs hb => put_heap fun e => ?_, fun r' hr' => ?_, h.a.put hr, h.xx, h.xa, h.la⟩
  · have e : L.af r = b := e
    subst e
    unfold Owns at ho
    rw [ho] at hb
    simp only [Option.some.injEq, Obj.cells.injEq] at hb
    exact absurd hb.2.1 (by decide)
  · exact (h.l r' hr').other ho (by decide) (fun s hs => h.xa r' r s hr' hr (by omega)) _
theorem Grid.grown {w w' : World} {b2 e size k S m : Nat} {v v' : Value} {xs : List Value} {f : Nat → Nat} {g : Nat → Nat → Bool} (h : Grid w base v S m f g) (hr : looseRow w b2 e size v' k xs) (hg : w.grownBy w' v'.ownBlock) (he : e ≠ 4) (hn : e ≠ 31 ∨ ∀ b, v.ownBlock = some b → v'.ownBlock ≠ some b) : Grid w' base v S m f g := by
  have far : ∀ b cs T, w.heap[b]? = some (Obj.cells cs T (0, 0)) → T ≠ e → w'.heap[b]? = w.heap[b]? := fun b cs T hb hT => hg.block b (Array.getElem?_eq_some_iff.1 hb).1 (fun e2 => by
    obtain ⟨_, cs', h2⟩ := row_own hr e2.symm
    rw [h2] at hb
    simp only [Option.some.injEq, Obj.cells.injEq] at hb
    exact hT hb.2.1.symm)
  rcases hn with hn | hn
  · exact h.move (fun b cs hb => far b cs _ hb hn.symm) fun s hs => far _ _ _ (h.cells s hs) he.symm
  · refine ⟨⟨h.row.1, h.row.2.imp id ?_⟩, fun s hs => (far _ _ _ (h.cells s hs) he.symm).trans (h.cells s hs), h.lo, h.inj⟩
    rintro ⟨b, cap, cur, h1, h2, h3, h4⟩
    exact ⟨b, cap, cur, h1, h2, (hg.block b (Array.getElem?_eq_some_iff.1 h3).1 (fun e2 => hn b (by rw [h1]; rfl) e2.symm)).trans h3, h4⟩
theorem Grid.weaken {w : World} {b2 S m : Nat} {v : Value} {f : Nat → Nat} {g : Nat → Nat → Bool} (h : Grid w base v S m f g) (hb : b2 ≤ base) : Grid w b2 v S m f g := by
  refine ⟨⟨h.row.1, h.row.2.imp id ?_⟩, h.cells, fun s hs => Nat.le_trans hb (h.lo s hs), h.inj⟩
  rintro ⟨b, cap, cur, h1, h2, h3⟩
  exact ⟨b, cap, cur, h1, Nat.le_trans hb h2, h3⟩
theorem TkAt.nextE (h : TkAt W base tb n0 n1 n2 n3 n4 wv ev av R Q n L E A) {W1 : World} {ev' lnew : Value} {xnew : Nat → Nat} (hg : W.grownBy W1 ev.ownBlock) (hr : looseRow W1 base 77 1 ev' (R + 1) (lcells R L.lv ++ [lnew])) (hl : Grid W base lnew (n + 1) n xnew (E R))
    (hx : ∀ r i i', r < R → i ≤ n → i' ≤ n → L.xf r i ≠ xnew i') (ha : ∀ r i', r < Q → i' ≤ n → L.af r ≠ xnew i') (hla : ∀ b, lnew.ownBlock = some b → av.ownBlock ≠ some b) :
    TkAt (W1.setCell ⟨tb, 6, none⟩ ev') base tb n0 n1 n2 n3 n4 wv ev' av (R + 1) Q n ⟨fun r => if r = R then lnew else L.lv r, fun r => if r = R then xnew else L.xf r, L.af⟩ E A := by
  have hbox : Owns W1 tb [n0, n1, n2, n3, n4, wv, ev, av] 126 := owns_grown h.box h.ends (by decide) hg
  have hb : Owns W1 (⟨tb, 6, none⟩ : Addr).block [n0, n1, n2, n3, n4, wv, ev, av] 126 := hbox
  rw [lcells_next] at hr
  have gp : ∀ {v S f g}, Grid W base v S n f g → Grid (W1.setCell ⟨tb, 6, none⟩ ev') base v S n f g := fun hG => (hG.grown h.ends hg (by decide) (.inl (by decide))).other hb (by decide) (fun s hs => owns_ne ((hG.grown h.ends hg (by decide) (.inl (by decide))).cells s hs) hbox (by decide)) _
  refine ⟨hbox.set 6 ev', loose_move hr fun b cs hb2 => put_heap fun e => ?_, fun r hr' => ?_, gp h.a, fun r r' i i' h1 h2 h3 h4 h5 => ?_, fun r r' i h1 h2 h3 => ?_, fun r h1 b hb2 => ?_⟩
  · have e : tb = b := e
    subst e
    unfold Owns at hbox
    rw [hbox] at hb2
    simp only [Option.some.injEq, Obj.cells.injEq] at hb2
    exact absurd hb2.2.1 (by decide)
  · by_cases e : r = R
    · subst e
      simpa using gp hl
    · simpa [e] using gp (h.l r (by omega))
  · by_cases e1 : r = R
    · by_cases e2 : r' = R
      · omega
      · simp only [e1, e2, if_true, if_false]
        exact fun e => hx r' i' i (by omega) h4 h3 e.symm
    · by_cases e2 : r' = R
      · simp only [e1, e2, if_true, if_false]
        exact hx r i i' (by omega) h3 h4
      · simp only [e1, e2, if_false]
        exact h.xx r r' i i' (by omega) (by omega) h3 h4 h5
  · by_cases e1 : r = R
    · simp only [e1, if_true]
      exact fun e => ha r' i h2 h3 e.symm
    · simp only [e1, if_false]
      exact h.xa r r' i (by omega) h2 h3
  · by_cases e1 : r = R
    · simp only [e1, if_true] at hb2
      exact hla b hb2
    · simp only [e1, if_false] at hb2
      exact h.la r (by omega) b hb2
theorem TkAt.nextA (h : TkAt W base tb n0 n1 n2 n3 n4 wv ev av R Q n L E A) {W1 : World} {av' : Value} {t gb : Nat} (hg : W.grownBy W1 av.ownBlock) (hr : looseRow W1 base 31 1 av' (Q + 1) (rcells Q n L.af ++ [.slice (some ⟨t, 0, none⟩) (n + 1) (n + 1)])) (ht : Owns W t (bcells n (A Q)) 4) (hb : base ≤ t)
    (hx : ∀ r i, r < R → i ≤ n → L.xf r i ≠ t) (ha : ∀ r, r < Q → L.af r ≠ t) (hgb : av'.ownBlock = some gb) (hat : av.ownBlock = some gb ∨ gb = W.heap.size) :
    TkAt (W1.setCell ⟨tb, 7, none⟩ av') base tb n0 n1 n2 n3 n4 wv ev av' R (Q + 1) n ⟨L.lv, L.xf, fun r => if r = Q then t else L.af r⟩ E A := by
  have hbox : Owns W1 tb [n0, n1, n2, n3, n4, wv, ev, av] 126 := owns_grown h.box h.a.row (by decide) hg
  have hb2 : Owns W1 (⟨tb, 7, none⟩ : Addr).block [n0, n1, n2, n3, n4, wv, ev, av] 126 := hbox
  have ht1 := owns_grown ht h.a.row (by decide) hg
  have hA := h.a.next hg hr ht1 hb ha
  have hA2 : Grid W1 base av' (Q + 1) n (fun s => if s = Q then t else L.af s) A := hA.congr fun s hs i hi => by
    by_cases e : s = Q
    · subst e; simp
    · simp [e]
  have gp : ∀ {v S f g}, Grid W1 base v S n f g → Grid (W1.setCell ⟨tb, 7, none⟩ av') base v S n f g := fun hG => hG.other hb2 (by decide) (fun s hs => owns_ne (hG.cells s hs) hbox (by decide)) _
  refine ⟨hbox.set 7 av', ?_, fun r hr' => gp ((h.l r hr').grown h.a.row hg (by decide) (.inr (h.la r hr'))), gp hA2, h.xx, fun r r' i h1 h2 h3 => ?_, fun r h1 b hb3 => ?_⟩
  · refine loose_move (loose_move h.ends fun b cs hb3 => hg.block b (Array.getElem?_eq_some_iff.1 hb3).1 fun e => ?_) fun b cs hb3 => put_heap fun e => ?_
    · obtain ⟨_, cs', h2⟩ := row_own h.a.row e.symm
      rw [h2] at hb3
      simp only [Option.some.injEq, Obj.cells.injEq] at hb3
      exact absurd hb3.2.1 (by decide)
    · have e : tb = b := e
      subst e
      unfold Owns at hbox
      rw [hbox] at hb3
      simp only [Option.some.injEq, Obj.cells.injEq] at hb3
      exact absurd hb3.2.1 (by decide)
  · by_cases e1 : r' = Q
    · simp only [e1, if_true]
      exact hx r i h1 h3
    · simp only [e1, if_false]
      exact h.xa r r' i h1 (by omega) h3
  · rw [hgb]
    intro e
    cases e
    rcases hat with hat | hat
    · exact h.la r h1 _ hb3 hat
    · obtain ⟨_, cs', h2⟩ := row_own (h.l r h1).row hb3
      have := (Array.getElem?_eq_some_iff.1 h2).1
      omega
end
end Go.Proofs.Ytgdcnndmdgcjlaa

/- Is something among a map's keys? The three of them. -/
namespace Go.Proofs.Ytgdcnndmdgcjlaa
open Go.RowKit
noncomputable def isV (v x : Value) : Bool := @decide (x = v) (Classical.propDecidable _)
theorem isV_true {v x : Value} : isV v x = true ↔ x = v := by simp [isV]
theorem isV_false {v x : Value} : isV v x = false ↔ x ≠ v := by simp [isV]
theorem plV_inj {p q : Pl} (h : plV p = plV q) : p = q := by
  obtain ⟨a, b⟩ := p
  obtain ⟨c, d⟩ := q
  simp [plV] at h
  rw [Prod.mk.injEq]
  omega
theorem at_check (p : Pl) (w : World) (e : Bool) : (Instr.checkKey e 10000 71 (plV p)).run Try.prog w = .ok () w := by
  kernel_rfl
theorem at_eqIn (n : Nat) (a b c d : Int) (w : World) : (Op.equalIn (n + 2) 71 (.agg #[.int .i64 a, .int .i64 b]) (.agg #[.int .i64 c, .int .i64 d])).run Try.prog w = .ok (a == c && b == d) w := by
  rw [run_equalIn_struct w (n + 1) 71 _ _ (by kernel_rfl) (by kernel_rfl)]
  go_simp
  by_cases h1 : a = c <;> by_cases h2 : b = d <;> simp [h1, h2]
theorem at_eq (p q : Pl) (w : World) : (Op.equal 71 (plV p) (plV q)).run Try.prog w = .ok (isV (plV p) (plV q)) w := by
  have h := at_eqIn 9998 p.1 p.2 q.1 q.2 w
  have e : (((p.1 : Int) == (q.1 : Int)) && ((p.2 : Int) == (q.2 : Int))) = isV (plV p) (plV q) := by
    rw [Bool.eq_iff_iff, isV_true]
    simp only [Bool.and_eq_true, beq_iff_eq]
    constructor
    · rintro ⟨h1, h2⟩; unfold plV; rw [h1, h2]
    · intro h; rw [plV_inj h]; exact ⟨rfl, rfl⟩
  rw [e] at h
  exact h
theorem frozen_own {w : World} {b T : Nat} {cs : List Value} (h : Owns w b cs T) (o : Nat) : w.frozen? { block := b, off := o } = false := h.free o
theorem shape_own {w : World} {b T : Nat} {cs : List Value} (h : Owns w b cs T) : w.shape? b = some (T, cs.length) := by
  unfold Owns at h
  simp [World.shape?, h]
theorem ptr_eqIn (n x y T T' : Nat) (w : World) {cx cy : List Value} (hx : Owns w x cx T) (hy : Owns w y cy T') : (Op.equalIn (n + 1) 65 (ptrV x) (ptrV y)).run Try.prog w = .ok (x == y) w := by
  have h1 := frozen_own hx
  have h2 := frozen_own hy
  have h3 := shape_own hx
  have h4 := shape_own hy
  unfold Op.equalIn ptrV
  go_simp
  by_cases e : x = y
  · subst e
    simp [sameAddr]
  · have e' : (x == y) = false := by simpa using e
    simp [sameAddr, e', noView, viewAt, mayBeOne, stringish, frozen, shape, Sem.run, h1, h2, h3, h4]
theorem wait_check (b : Nat) (s : Int) (w : World) (e : Bool) : (Instr.checkKey e 10000 149 (.agg #[ptrV b, .int .i64 s])).run Try.prog w = .ok () w := by
  kernel_rfl
theorem wait_eqIn (n x y T T' : Nat) (s t : Int) (w : World) {cx cy : List Value} (hx : Owns w x cx T) (hy : Owns w y cy T') :
    (Op.equalIn (n + 2) 149 (.agg #[ptrV x, .int .i64 s]) (.agg #[ptrV y, .int .i64 t])).run Try.prog w = .ok (x == y && s == t) w := by
  have hp := ptr_eqIn n x y T T' w hx hy
  unfold ptrV at *
  rw [run_equalIn_struct w (n + 1) 149 _ _ (by kernel_rfl) (by kernel_rfl)]
  clear hx hy
  go_simp
  cases h1 : (x == y) <;> cases h2 : (s == t) <;> simp_all
theorem any_isV {α : Type} [DecidableEq α] (f : α → Value) (u : Value) (hf : ∀ a b, f a = f b → a = b) (l : List α) (a : α) : ((l.map fun x => (f x, u)).any fun x => isV (f a) x.1) = decide (a ∈ l) := by
  rw [Bool.eq_iff_iff, decide_eq_true_eq, List.any_eq_true]
  constructor
  · rintro ⟨x, hx, h⟩
    obtain ⟨b, hb, rfl⟩ := List.mem_map.1 hx
    have := isV_true.1 h
    rw [← hf _ _ this]; exact hb
  · intro h
    exact ⟨(f a, u), List.mem_map.2 ⟨a, h, rfl⟩, isV_true.2 rfl⟩
theorem int_key (a : Int) (l : List Nat) : ∀ x ∈ l.map (fun (i : Nat) => (Value.int .i64 i, unitV)), ∃ b, x.1 = .int .i64 b ∧ isV (.int .i64 a) (.int .i64 b) = (a == b) := by
  intro x hx
  obtain ⟨b, hb, rfl⟩ := List.mem_map.1 hx
  refine ⟨b, rfl, ?_⟩
  rw [Bool.eq_iff_iff, isV_true, beq_iff_eq]
  exact ⟨fun h => by cases h; rfl, fun h => by rw [h]⟩
theorem zero_unit (w : World) : (zeroValue 122).run Try.prog w = .ok unitV w := by kernel_rfl
theorem key_at (w : World) (p : Pl) (l : List Pl) (u : Value) : KeyRun Try.prog w 71 (plV p) (isV (plV p)) (l.map fun q => (plV q, u)) :=
  KeyRun.struct (fs := Try.prog.fieldsOf 71) (by kernel_rfl) (at_check p w) fun x hx => by
    obtain ⟨q, _, rfl⟩ := List.mem_map.1 hx
    exact at_eq p q w
theorem key_at2 (w : World) (p : Pl) (l : List Pl) (f : Pl → Value) : KeyRun Try.prog w 71 (plV p) (isV (plV p)) (l.map fun q => (plV q, f q)) :=
  KeyRun.struct (fs := Try.prog.fieldsOf 71) (by kernel_rfl) (at_check p w) fun x hx => by
    obtain ⟨q, _, rfl⟩ := List.mem_map.1 hx
    exact at_eq p q w
theorem key_int (w : World) (a : Nat) (l : List Nat) : KeyRun Try.prog w 3 (.int .i64 a) (isV (.int .i64 a)) (l.map fun (i : Nat) => (Value.int .i64 i, unitV)) :=
  KeyRun.int Try.underlying3 (int_key a l)
theorem dec_eq {p : Prop} (a b : Decidable p) : @decide p a = @decide p b := by congr
set_option maxRecDepth 20000 in
theorem hasat_ok (W : World) (b : Nat) (l : List Pl) (p : Pl) (hb : W.heap[b]? = some (mapObj (l.map fun q => (plV q, unitV)))) :
    Calls Try.prog 26 #[.map (some b), plV p] W fun e W' => e = .returned (.bool (decide (p ∈ l))) ∧ Grew W W' := by
  have hlt := (Array.getElem?_eq_some_iff.1 hb).1
  have hg := grew_alloc W (.cells #[.int .i64 p.1, .int .i64 p.2] 71)
  have hlook := run_look_ok (P := Try.prog) (t := 72) (kt := 71) (e := 122) (by kernel_rfl) ((hg.block b hlt).trans hb) (key_at _ p l unitV) (zero_unit _) (fun x hx => by obtain ⟨q, _, rfl⟩ := List.mem_map.1 hx; rfl)
  rw [any_isV plV unitV (fun _ _ => plV_inj) l p] at hlook
  have HG := Lib.hid hg
  clear hg hb hlt
  unfold plV unitV at *
  go_enter Try.func26, Try.ntmps26
  go_wp2
  go_ret
  exact ⟨ret_bool (dec_eq _ _), HG.out.trans (grew_alloc _ _)⟩
set_option maxRecDepth 20000 in
theorem hasint_ok (W : World) (b : Nat) (l : List Nat) (p : Nat) (hb : W.heap[b]? = some (mapObj (l.map fun (q : Nat) => (Value.int .i64 q, unitV)))) :
    Calls Try.prog 67 #[.map (some b), .int .i64 p] W fun e W' => e = .returned (.bool (decide (p ∈ l))) ∧ Grew W W' := by
  have hlook := run_look_ok (P := Try.prog) (t := 144) (kt := 3) (e := 122) (by kernel_rfl) hb (key_int _ p l) (zero_unit _) (fun x hx => by obtain ⟨q, _, rfl⟩ := List.mem_map.1 hx; rfl)
  rw [any_isV (fun (q : Nat) => Value.int .i64 q) unitV (fun a b h => by simp at h; omega) l p] at hlook
  clear hb
  unfold unitV at *
  go_enter Try.func67, Try.ntmps67
  go_wp2
  go_ret
  exact ⟨ret_bool (dec_eq _ _), grew_alloc _ _⟩
def waitN (x : Nat × Nat) : Value := .agg #[ptrV x.1, .int .i64 x.2]
theorem waitN_inj : ∀ a b : Nat × Nat, waitN a = waitN b → a = b := by
  intro a b h
  obtain ⟨a1, a2⟩ := a
  obtain ⟨b1, b2⟩ := b
  simp [waitN, ptrV] at h
  rw [Prod.mk.injEq]
  omega
theorem key_wait (w : World) (l : List (Nat × Nat)) (x : Nat × Nat) (hx : ∃ cs T, Owns w x.1 cs T) (hl : ∀ q ∈ l, ∃ cs T, Owns w q.1 cs T) : KeyRun Try.prog w 149 (waitN x) (isV (waitN x)) (l.map fun q => (waitN q, unitV)) :=
  KeyRun.struct (fs := Try.prog.fieldsOf 149) (by kernel_rfl) (wait_check _ _ _) fun y hy => by
    obtain ⟨q, hq, rfl⟩ := List.mem_map.1 hy
    obtain ⟨cs, T, ho⟩ := hx
    obtain ⟨cs', T', ho'⟩ := hl q hq
    have h := wait_eqIn 9998 x.1 q.1 T T' x.2 q.2 _ ho ho'
    have e : (x.1 == q.1 && ((x.2 : Int) == (q.2 : Int))) = isV (waitN x) (waitN q) := by
      rw [Bool.eq_iff_iff, isV_true]
      simp only [Bool.and_eq_true, beq_iff_eq]
      constructor
      · rintro ⟨h1, h2⟩; unfold waitN; rw [h1, h2]
      · intro h; rw [waitN_inj _ _ h]; exact ⟨rfl, rfl⟩
    rw [e] at h
    exact h
set_option maxRecDepth 20000 in
theorem haswait_ok (W : World) (b : Nat) (l : List (Nat × Nat)) (x : Nat × Nat) (hb : W.heap[b]? = some (mapObj (l.map fun q => (waitN q, unitV)))) (hx : ∃ cs T, Owns W x.1 cs T) (hl : ∀ q ∈ l, ∃ cs T, Owns W q.1 cs T) :
    Calls Try.prog 81 #[.map (some b), waitN x] W fun e W' => e = .returned (.bool (decide (x ∈ l))) ∧ Grew W W' := by
  have hlt := (Array.getElem?_eq_some_iff.1 hb).1
  have hg := grew_alloc W (.cells #[ptrV x.1, .int .i64 x.2] 149)
  have hK := key_wait (W.alloc (.cells #[ptrV x.1, .int .i64 x.2] 149)) l x (by obtain ⟨cs, T, h⟩ := hx; exact ⟨cs, T, h.keep hg⟩) (fun q hq => by obtain ⟨cs, T, h⟩ := hl q hq; exact ⟨cs, T, h.keep hg⟩)
  have hlook := run_look_ok (P := Try.prog) (t := 145) (kt := 149) (e := 122) (by kernel_rfl) ((hg.block b hlt).trans hb) hK (zero_unit _) (fun x hx => by obtain ⟨q, _, rfl⟩ := List.mem_map.1 hx; rfl)
  rw [any_isV waitN unitV waitN_inj l x] at hlook
  have HG := Lib.hid hg
  clear hg hb hlt hx hl hK
  unfold waitN unitV ptrV at *
  go_enter Try.func81, Try.ntmps81
  go_wp2
  go_ret
  exact ⟨ret_bool (dec_eq _ _), HG.out.trans (grew_alloc _ _)⟩
end Go.Proofs.Ytgdcnndmdgcjlaa
