/- What a node is made to goes along just its texts. Plain. -/
import Derived.Lib.Hide
import Derived.BigQuiet
import Derived.Deep.QuietTactic
import Derived.StillTailTactics
import Derived.Deep.RegionHeld3
import Derived.Test.YtkinlcichclnkaaDoorQT7
import Derived.Test.YtkinlcichclnkaaDoorQT2
import Derived.Test.YtkinlcichclnkaaDoorQT5
namespace Go.Proofs.YtkinlcichclnkaaDoor

theorem follow_hold {d : NB} {a e i : Nat} {pl : NPl} (hp : d.out[i]? = some pl) : ∃ pl', (d.follow a e).out[i]? = some pl' ∧ pl'.set = pl.set ∧ pl'.kind = pl.kind ∧ ∀ q, (pl'.fol.testBit q = true ↔ pl.fol.testBit q = true ∨ (a.testBit i = true ∧ e.testBit q = true)) := by
  rw [follow_get, hp]
  refine ⟨_, rfl, ?_, ?_, fun q => ?_⟩
  · split <;> rfl
  · split <;> rfl
  · split
    · rename_i hx
      unfold NPl.more
      dsimp only
      rw [Nat.testBit_or, Bool.or_eq_true, hx]
      simp
    · rename_i hx
      constructor
      · exact .inl
      · rintro (e | ⟨e, _⟩)
        · exact e
        · exact absurd e hx
theorem follow_new {d : NB} {a e i : Nat} {pl' : NPl} (hp : (d.follow a e).out[i]? = some pl') : ∃ pl, d.out[i]? = some pl ∧ pl'.set = pl.set ∧ pl'.kind = pl.kind ∧ ∀ q, (pl'.fol.testBit q = true ↔ pl.fol.testBit q = true ∨ (a.testBit i = true ∧ e.testBit q = true)) := by
  have hp0 := hp
  rw [follow_get] at hp
  cases hd : d.out[i]? with
  | none => rw [hd] at hp; cases hp
  | some pl =>
    obtain ⟨pl2, h1, h2⟩ := follow_hold (a := a) (e := e) hd
    rw [hp0] at h1
    cases h1
    exact ⟨pl, rfl, h2⟩
/-- as often as may be, once at least -/
inductive Plus (L : List Int → Prop) : List Int → Prop
  | one {u : List Int} (h : L u) : Plus L u
  | more {u v : List Int} (h : L u) (hr : Plus L v) : Plus L (u ++ v)
section
variable {kind : Int} {L M : List Int → Prop} {x y : NPart} {b c d : NB}
theorem PartOk.again (h : PartOk kind L x b c) : PartOk kind (Plus L) x b (c.follow x.last x.first) := by
  have up : ∀ {p z : Nat} {u : List Int}, Run c.out p u z → (b.out.length ≤ p ∧ p < c.out.length) → Run (c.follow x.last x.first).out p u z := fun hr hp =>
    (hr.mono (P := fun p => b.out.length ≤ p ∧ p < c.out.length) (fun i pl hi hd => by
      obtain ⟨pl', h1, h2, _, h3⟩ := follow_hold (a := x.last) (e := x.first) hd
      exact ⟨pl', h1, h2, fun q hq => ⟨(h3 q).2 (.inl hq), (h.fol i pl hi.1 hd).1 q hq⟩⟩) hp).1
  have dec : ∀ {p z : Nat} {u : List Int}, Run (c.follow x.last x.first).out p u z → (b.out.length ≤ p ∧ p < c.out.length) → x.last.testBit z = true → ∃ u1 u2 z1, u = u1 ++ u2 ∧ x.last.testBit z1 = true ∧ Run c.out p u1 z1 ∧ (u2 = [] ∨ Plus L u2) := by
    intro p z u hr
    induction hr with
    | @one p r pl hp hh =>
      intro hb hz
      obtain ⟨pl0, h1, h2, _, _⟩ := follow_new hp
      exact ⟨[r], [], p, rfl, hz, .one h1 (h2 ▸ hh), .inl rfl⟩
    | @step p q z r u pl hp hh hf hr ih =>
      intro hb hz
      obtain ⟨pl0, h1, h2, _, h3⟩ := follow_new hp
      rcases (h3 q).1 hf with h4 | ⟨h4, h5⟩
      · obtain ⟨u1, u2, z1, rfl, i2, i3, i4⟩ := ih ((h.fol p pl0 hb.1 h1).1 q h4) hz
        exact ⟨r :: u1, u2, z1, rfl, i2, .step h1 (h2 ▸ hh) h4 i3, i4⟩
      · obtain ⟨u1, u2, z1, rfl, i2, i3, i4⟩ := ih (h.first q h5) hz
        have hl : L u1 := (h.lang u1 i3.ne).2 ⟨q, z1, h5, i2, i3⟩
        refine ⟨[r], u1 ++ u2, p, rfl, h4, .one h1 (h2 ▸ hh), .inr ?_⟩
        rcases i4 with rfl | i4
        · rw [List.append_nil]; exact .one hl
        · exact .more hl i4
  refine ⟨by rw [follow_len2]; exact h.len, fun i hi => ?_, fun p hp => by rw [follow_len2]; exact h.first p hp, fun p hp => by rw [follow_len2]; exact h.last p hp, fun p pl h1 h2 => ?_, ?_, fun u hu => ?_⟩
  · rw [follow_get, h.same i hi]
    have hx : x.last.testBit i = false := by
      cases e : x.last.testBit i
      · rfl
      · have := h.last i e; omega
    rw [hx]
    simp
  · rw [follow_len2]
    obtain ⟨pl0, e1, e2, e3, e4⟩ := follow_new h2
    rw [e3]
    have := h.fol p pl0 h1 e1
    refine ⟨fun q hq => ?_, this.2⟩
    rcases (e4 q).1 hq with e5 | ⟨_, e5⟩
    · exact this.1 q e5
    · exact h.first q e5
  · rw [h.eps]
    constructor
    · exact .one
    · intro hp
      generalize hn : ([] : List Int) = u at hp
      induction hp with
      | one h => exact hn ▸ h
      | more h _ _ =>
        obtain ⟨rfl, rfl⟩ := List.append_eq_nil_iff.1 hn.symm
        exact h
  · constructor
    · intro hp
      induction hp with
      | @one u hl =>
        obtain ⟨p, z, f1, f2, f3⟩ := (h.lang u hu).1 hl
        exact ⟨p, z, f1, f2, up f3 (h.first p f1)⟩
      | @more u v hl hr ih =>
        by_cases hv : v = []
        · subst hv
          rw [List.append_nil] at hu ⊢
          obtain ⟨p, z, f1, f2, f3⟩ := (h.lang u hu).1 hl
          exact ⟨p, z, f1, f2, up f3 (h.first p f1)⟩
        · obtain ⟨q, z', g1, g2, g3⟩ := ih hv
          by_cases hu' : u = []
          · subst hu'
            exact ⟨q, z', g1, g2, g3⟩
          · obtain ⟨p, z, f1, f2, f3⟩ := (h.lang u hu').1 hl
            obtain ⟨pl, hpl⟩ := f3.there.2
            obtain ⟨pl', m1, _, _, m2⟩ := follow_hold (a := x.last) (e := x.first) hpl
            exact ⟨p, z', f1, g2, (up f3 (h.first p f1)).app m1 ((m2 q).2 (.inr ⟨f2, g1⟩)) g3⟩
    · rintro ⟨p, z, f1, f2, f3⟩
      obtain ⟨u1, u2, z1, rfl, i2, i3, i4⟩ := dec f3 (h.first p f1) f2
      have hl : L u1 := (h.lang u1 i3.ne).2 ⟨p, z1, f1, i2, i3⟩
      rcases i4 with rfl | i4
      · rw [List.append_nil]; exact .one hl
      · exact .more hl i4
theorem PartOk.out (h : PartOk kind L x b c) {b' : NB} (e : b'.out = b.out) : PartOk kind L x b' c := ⟨by rw [e]; exact h.len, fun i hi => by rw [e] at hi ⊢; exact h.same i hi, fun p hp => by rw [e]; exact h.first p hp, fun p hp => by rw [e]; exact h.last p hp, fun p pl h1 h2 => by rw [e] at h1 ⊢; exact h.fol p pl h1 h2, h.eps, h.lang⟩
end

/-! ### nodes -/
section
variable {lk : ByteArray → Nd} {kind : Int} {f : Nd → NB → NPart × NB}
def FullOk (f : Nd → NB → NPart × NB) : Prop := ∀ n b, (f n b).2.full = false → b.full = false
theorem place_full {kind : Int} {set : List (Int × Int)} {b : NB} (h : (b.place kind set).2.full = false) : b.full = false := by
  unfold NB.place at h
  split at h
  · cases h
  · exact h
theorem altsN_full (hf : FullOk f) : ∀ (l : List Nd) (x : NPart) (b : NB), (altsN f l x b).2.full = false → b.full = false
  | [], _, _, h => h
  | s :: r, _, b, h => hf s b (altsN_full hf r _ _ h)
theorem seqN_full (hf : FullOk f) : ∀ (l : List Nd) (x : NPart) (b : NB), (seqN f l x b).2.full = false → b.full = false
  | [], _, _, h => h
  | s :: r, x, b, h => hf s b (seqN_full hf r _ ((f s b).2.follow x.last (f s b).1.first) h)
theorem litN_full (kind : Int) : ∀ (l : List Int) (x : NPart) (b : NB), (litN kind l x b).2.full = false → b.full = false
  | [], _, _, h => h
  | r :: l, x, b, h => place_full (kind := kind) (set := [(r, r)]) (litN_full kind l _ ((b.place kind [(r, r)]).2.follow x.last (b.place kind [(r, r)]).1.first) h)
theorem subN_full (hf : FullOk f) : ∀ (l : List Nd) (b : NB), (subN f l b).2.full = false → b.full = false
  | [], _, h => h
  | s :: _, b, h => hf s b h
theorem nodeN_full (lk : ByteArray → Nd) (kind : Int) : ∀ k, FullOk (nodeN lk kind k)
  | 0, n, b, h => by unfold nodeN at h; cases h
  | k + 1, .mk kd nm tx set subs, b, h => by
    have hf := nodeN_full lk kind k
    unfold nodeN at h
    split at h
    · cases h
    split at h
    · exact altsN_full hf _ _ ⟨b.out, b.steps - 1, b.full⟩ h
    split at h
    · exact seqN_full hf _ _ ⟨b.out, b.steps - 1, b.full⟩ h
    split at h
    · exact litN_full _ _ _ ⟨b.out, b.steps - 1, b.full⟩ h
    split at h
    · exact place_full (b := ⟨b.out, b.steps - 1, b.full⟩) h
    split at h
    · exact hf _ ⟨b.out, b.steps - 1, b.full⟩ h
    split at h
    · exact subN_full hf _ ⟨b.out, b.steps - 1, b.full⟩ h
    split at h
    · exact subN_full hf _ ⟨b.out, b.steps - 1, b.full⟩ h
    split at h
    · exact subN_full hf _ ⟨b.out, b.steps - 1, b.full⟩ h
    · exact h
def NodesOk (lk : ByteArray → Nd) (kind : Int) (f : Nd → NB → NPart × NB) : Prop := ∀ n b, (f n b).2.full = false → PartOk kind (Tx lk n) (f n b).1 b (f n b).2
theorem alts_part (hff : FullOk f) (hf : NodesOk lk kind f) : ∀ (l : List Nd) (L : List Int → Prop) (x : NPart) (b0 b : NB), PartOk kind L x b0 b → (altsN f l x b).2.full = false → PartOk kind (fun u => L u ∨ ∃ s ∈ l, Tx lk s u) (altsN f l x b).1 b0 (altsN f l x b).2
  | [], L, x, b0, b, h, _ => h.iff fun u => by simp
  | s :: r, L, x, b0, b, h, hfl => by
    have h1 := hf s b (altsN_full hff r _ _ hfl)
    refine (alts_part hff hf r _ _ _ _ (h.either h1) hfl).iff fun u => ?_
    simp only [List.mem_cons, exists_eq_or_imp, or_assoc]
theorem seq_part (hff : FullOk f) (hf : NodesOk lk kind f) : ∀ (l : List Nd) (L : List Int → Prop) (x : NPart) (b0 b : NB), PartOk kind L x b0 b → (seqN f l x b).2.full = false → PartOk kind (Cat L (TxL lk l)) (seqN f l x b).1 b0 (seqN f l x b).2
  | [], L, x, b0, b, h, _ => h.iff fun u => by
    constructor
    · rintro ⟨v, w, rfl, h1, h2⟩
      cases h2
      rw [List.append_nil]
      exact h1
    · intro hu
      exact ⟨u, [], by rw [List.append_nil], hu, .nil⟩
  | s :: r, L, x, b0, b, h, hfl => by
    have h1 := hf s b (seqN_full hff r _ ((f s b).2.follow x.last (f s b).1.first) hfl)
    refine (seq_part hff hf r _ _ _ _ (h.join h1) hfl).iff fun u => ?_
    constructor
    · rintro ⟨v, w, rfl, h2, h3⟩
      cases h3 with
      | @cons _ _ w1 w2 h4 h5 => exact ⟨v ++ w1, w2, by rw [List.append_assoc], ⟨v, w1, rfl, h2, h4⟩, h5⟩
    · rintro ⟨v, w, rfl, ⟨v1, v2, rfl, h2, h3⟩, h4⟩
      exact ⟨v1, v2 ++ w, by rw [List.append_assoc], h2, .cons h3 h4⟩
theorem lit_part (kind : Int) : ∀ (l : List Int) (L : List Int → Prop) (x : NPart) (b0 b : NB), PartOk kind L x b0 b → (litN kind l x b).2.full = false → PartOk kind (Cat L (· = l)) (litN kind l x b).1 b0 (litN kind l x b).2
  | [], L, x, b0, b, h, _ => h.iff fun u => by
    constructor
    · rintro ⟨v, w, rfl, h1, rfl⟩
      rw [List.append_nil]
      exact h1
    · intro hu
      exact ⟨u, [], by rw [List.append_nil], hu, rfl⟩
  | r :: l, L, x, b0, b, h, hfl => by
    have h1 := PartOk.place (kind := kind) (b := b) [(r, r)] (litN_full kind l _ ((b.place kind [(r, r)]).2.follow x.last (b.place kind [(r, r)]).1.first) hfl)
    refine (lit_part kind l _ _ _ _ (h.join h1) hfl).iff fun u => ?_
    constructor
    · rintro ⟨v, w, rfl, h2, rfl⟩
      exact ⟨v ++ [r], l, by rw [List.append_assoc]; rfl, ⟨v, [r], rfl, h2, r, rfl, (r, r), List.mem_singleton.2 rfl, Int.le_refl _, Int.le_refl _⟩, rfl⟩
    · rintro ⟨v, w, rfl, ⟨v1, v2, rfl, h2, r', rfl, p, hp, h3, h4⟩, rfl⟩
      rw [List.mem_singleton.1 hp] at h3 h4
      obtain rfl : r' = r := by dsimp only at h3 h4; omega
      exact ⟨v1, r' :: w, by rw [List.append_assoc]; rfl, h2, rfl⟩
theorem plus_iff {lk : ByteArray → Nd} {x : Nd} {u : List Int} : TxP lk x u ↔ Plus (Tx lk x) u := by
  constructor
  · intro h
    exact go h
  · intro h
    induction h with
    | one h => exact .one h
    | more h _ ih => exact .more h ih
where
  go : ∀ {x : Nd} {u : List Int}, TxP lk x u → Plus (Tx lk x) u
    | _, _, .one h => .one h
    | _, _, .more h hr => .more h (go hr)
/-- the first Sub's texts -/
def SubT (lk : ByteArray → Nd) (l : List Nd) (u : List Int) : Prop := ∃ x r, l = x :: r ∧ Tx lk x u
theorem sub_part (hf : NodesOk lk kind f) (l : List Nd) (b : NB) (hfl : (subN f l b).2.full = false) : PartOk kind (SubT lk l) (subN f l b).1 b (subN f l b).2 := by
  cases l with
  | nil =>
    refine (PartOk.none false).iff fun u => ?_
    constructor
    · rintro ⟨x, r, e, _⟩; cases e
    · rintro ⟨e, _⟩; cases e
  | cons s r =>
    refine (hf s b hfl).iff fun u => ?_
    constructor
    · rintro ⟨x, r', e, h⟩; cases e; exact h
    · exact fun h => ⟨s, r, rfl, h⟩
theorem plus_sub {l : List Nd} {u : List Int} : Plus (SubT lk l) u ↔ ∃ x r, l = x :: r ∧ TxP lk x u := by
  constructor
  · intro h
    induction h with
    | one h => obtain ⟨x, r, e, h⟩ := h; exact ⟨x, r, e, .one h⟩
    | more h _ ih =>
      obtain ⟨x, r, e, h⟩ := h
      obtain ⟨x', r', e', h'⟩ := ih
      rw [e] at e'
      cases e'
      exact ⟨x, r, e, .more h h'⟩
  · rintro ⟨x, r, e, h⟩
    rw [plus_iff] at h
    induction h with
    | one h => exact .one ⟨x, r, e, h⟩
    | more h _ ih => exact .more ⟨x, r, e, h⟩ ih
theorem node_part (lk : ByteArray → Nd) (kind : Int) : ∀ k, NodesOk lk kind (nodeN lk kind k)
  | 0, n, b, h => by unfold nodeN at h; cases h
  | k + 1, .mk kd nm tx set subs, b, h => by
    have hff := nodeN_full lk kind k
    have hf := node_part lk kind k
    unfold nodeN at h ⊢
    split at h
    · cases h
    rename_i hc
    rw [if_neg hc]
    obtain ⟨b', hb'⟩ : ∃ b', (⟨b.out, b.steps - 1, b.full⟩ : NB) = b' := ⟨_, rfl⟩
    have he : b.out = b'.out := by rw [← hb']
    rw [hb'] at h ⊢
    clear hc hb'
    split at h
    · rename_i hk
      subst hk
      rw [if_pos rfl]
      refine ((alts_part hff hf subs _ _ _ _ (PartOk.none false) h).out he).iff fun u => ?_
      constructor
      · intro hu
        cases hu with
        | alt hx h => exact .inr ⟨_, hx, h⟩
        | other hk => omega
      · rintro (⟨e, _⟩ | ⟨s, h1, h2⟩)
        · cases e
        · exact .alt h1 h2
    rename_i n0
    rw [if_neg n0]
    split at h
    · rename_i hk
      subst hk
      rw [if_pos rfl]
      refine ((seq_part hff hf subs _ _ _ _ (PartOk.none true) h).out he).iff fun u => ?_
      constructor
      · intro hu
        cases hu with
        | seq h => exact ⟨[], u, rfl, ⟨rfl, rfl⟩, h⟩
        | other hk => omega
      · rintro ⟨v, w, rfl, ⟨_, rfl⟩, h⟩
        exact .seq h
    rename_i n1
    rw [if_neg n1]
    split at h
    · rename_i hk
      subst hk
      rw [if_pos rfl]
      refine ((lit_part kind (runesOf tx) _ _ _ _ (PartOk.none true) h).out he).iff fun u => ?_
      constructor
      · intro hu
        cases hu with
        | lit => exact ⟨[], _, rfl, ⟨rfl, rfl⟩, rfl⟩
        | other hk => omega
      · rintro ⟨v, w, rfl, ⟨_, rfl⟩, rfl⟩
        exact .lit
    rename_i n8
    rw [if_neg n8]
    split at h
    · rename_i hk
      subst hk
      rw [if_pos rfl]
      refine ((PartOk.place set h).out he).iff fun u => ?_
      constructor
      · intro hu
        cases hu with
        | set h => exact ⟨_, rfl, h⟩
        | other hk => omega
      · rintro ⟨r, rfl, h⟩
        exact .set h
    rename_i n9
    rw [if_neg n9]
    split at h
    · rename_i hk
      subst hk
      rw [if_pos rfl]
      refine ((hf _ _ h).out he).iff fun u => ?_
      constructor
      · intro hu
        cases hu with
        | tok h => exact h
        | other hk => omega
      · exact fun h => .tok h
    rename_i n6
    rw [if_neg n6]
    split at h
    · rename_i hk
      subst hk
      rw [if_pos rfl]
      refine ((sub_part hf subs _ h).opt.out he).iff fun u => ?_
      constructor
      · intro hu
        cases hu with
        | opt0 => exact .inl rfl
        | opt h => exact .inr ⟨_, _, rfl, h⟩
        | other hk => omega
      · rintro (rfl | ⟨x, r, rfl, h9⟩)
        · exact .opt0
        · exact .opt h9
    rename_i n2
    rw [if_neg n2]
    split at h
    · rename_i hk
      subst hk
      rw [if_pos rfl]
      refine ((sub_part hf subs _ h).again.opt.out he).iff fun u => ?_
      rw [plus_sub]
      constructor
      · intro hu
        cases hu with
        | star0 => exact .inl rfl
        | star h => exact .inr ⟨_, _, rfl, h⟩
        | other hk => omega
      · rintro (rfl | ⟨x, r, rfl, h9⟩)
        · exact .star0
        · exact .star h9
    rename_i n3
    rw [if_neg n3]
    split at h
    · rename_i hk
      subst hk
      rw [if_pos rfl]
      refine ((sub_part hf subs _ h).again.out he).iff fun u => ?_
      rw [plus_sub]
      constructor
      · intro hu
        cases hu with
        | plus h => exact ⟨_, _, rfl, h⟩
        | other hk => omega
      · rintro ⟨x, r, rfl, h9⟩
        exact .plus h9
    rename_i n4
    rw [if_neg n4]
    refine ((PartOk.none true).out he).iff fun u => ?_
    constructor
    · intro hu
      cases hu with
      | other _ => exact ⟨rfl, rfl⟩
      | alt _ _ => exact absurd rfl n0
      | seq _ => exact absurd rfl n1
      | lit => exact absurd rfl n8
      | set _ => exact absurd rfl n9
      | tok _ => exact absurd rfl n6
      | opt0 => exact absurd rfl n2
      | opt _ => exact absurd rfl n2
      | star0 => exact absurd rfl n3
      | star _ => exact absurd rfl n3
      | plus _ => exact absurd rfl n4
    · rintro ⟨_, rfl⟩
      exact .other (by omega)
end
end Go.Proofs.YtkinlcichclnkaaDoor

/- One closed fact of the program. -/
namespace Go.Proofs.YtkinlcichclnkaaDoor
theorem follows : Tryd.prog.follows .mixedOrders = true := by kernel_rfl
end Go.Proofs.YtkinlcichclnkaaDoor

/- What is asked of a grammar's rules, and the rule that a node names. -/
namespace Go.Proofs.YtkinlcichclnkaaDoor
open Go.RowKit

/-- asking, in memory: block ab; what is known, in block eb -/
structure AskAt (W : World) (ab eb : Nat) (g : Gr) (es : List Bool) : Prop where
  ga : ∃ v0 v1 v2 v3, W.cell? ⟨ab, 0, none⟩ = some v0 ∧ W.cell? ⟨ab, 1, none⟩ = some v1 ∧ W.cell? ⟨ab, 2, none⟩ = some v2 ∧ W.cell? ⟨ab, 3, none⟩ = some v3 ∧ GrAt W W.heap.size (some v0) (some v1) (some v2) (some v3) g
  ea : W.cell? ⟨ab, 4, none⟩ = some (.slice (some ⟨eb, 0, none⟩) g.rules.length g.rules.length)
  el : es.length = g.rules.length
  ec : ∀ i (h : i < es.length), W.cell? ⟨eb, i, none⟩ = some (.bool es[i])
  al : ab < W.heap.size
  bl : eb < W.heap.size
  nl : g.rules.length ≤ reachN

theorem AskAt.keep {W W' : World} {ab eb : Nat} {g : Gr} {es : List Bool} (h : AskAt W ab eb g es) (hb : Below W.heap.size W W') : AskAt W' ab eb g es := by
  obtain ⟨⟨v0, v1, v2, v3, h0, h1, h2, h3, h4⟩, h5, h6, h7, h8, h9, h10⟩ := h
  have e : ∀ o, W'.cell? ⟨ab, o, none⟩ = W.cell? ⟨ab, o, none⟩ := fun o => hb.cell (p := ⟨ab, o, none⟩) h8
  have e' : ∀ o, W'.cell? ⟨eb, o, none⟩ = W.cell? ⟨eb, o, none⟩ := fun o => hb.cell (p := ⟨eb, o, none⟩) h9
  refine ⟨⟨v0, v1, v2, v3, by rw [e]; exact h0, by rw [e]; exact h1, by rw [e]; exact h2, by rw [e]; exact h3, (h4.keep hb).mono hb.size⟩, by rw [e]; exact h5, h6, fun i hi => by rw [e']; exact h7 i hi, by have := hb.size; omega, by have := hb.size; omega, h10⟩

/-- the sort of a rule, by its place -/
def Gr.sortAt (g : Gr) (i : Int) : Int := match g.rules[i.toNat]? with | some r => r.sort | none => 0

/-- the rule that a node names; below 0: none -/
def Gr.named (g : Gr) (token : Bool) (n : Nd) : Int :=
  let i := g.find n.name
  if i < 0 then -1 else if !((g.sortAt i == 0) == (n.kind == 5)) then -1 else if (n.kind == 6) && !token then -1 else i


theorem sortAt_nat (g : Gr) (j : Nat) (hj : j < g.rules.length) : g.sortAt (j : Int) = g.rules[j].sort := by
  simp [Gr.sortAt, hj]

set_option maxHeartbeats 1000000 in
set_option maxRecDepth 20000 in
theorem named_ok (g : Gr) (es : List Bool) (token : Bool) (n : Nd) (W : World) (ab eb : Nat) (v0 v1 v2 v3 v4 : Value) (hA : AskAt W ab eb g es) (hN : NodeAt W W.heap.size (some v0) (some v1) (some v2) (some v3) (some v4) n) :
    Calls Tryd.prog 69 #[.pointer (some ⟨ab, 0, none⟩), .bool token, .agg #[v0, v1, v2, v3, v4]] W fun e W' => e = .returned (.int .i64 (g.named token n)) ∧ Below W.heap.size W W' := by
  obtain ⟨k, nm, tx, set, subs⟩ := n
  rw [NodeAt] at hN
  obtain ⟨hk, h1, h2, h3, h4, h5, h6, h7⟩ := hN
  obtain rfl := Option.some.inj h3
  obtain rfl := Option.some.inj h4
  clear h3 h4 h5 h6 h7
  unfold reachN at h1 h2
  have hgr := grew_alloc W (.cells #[.int .u8 k, .string nm, v2, v3, v4] 34)
  obtain ⟨⟨g0, g1, g2, g3, c0, c1, c2, c3, hG⟩, h5, h6, h7, h8, h9, h10⟩ := hA.keep hgr
  have hS := Lib.hid (fun W' => find_ok g nm W' g0 g1 g2 g3)
  have b1 : (W.alloc (.cells #[.int .u8 k, .string nm, v2, v3, v4] 34)).cell? ⟨W.heap.size, 1, none⟩ = some (.string nm) := by simp [go_sem]
  have b0 : (W.alloc (.cells #[.int .u8 k, .string nm, v2, v3, v4] 34)).cell? ⟨W.heap.size, 0, none⟩ = some (.int .u8 k) := by simp [go_sem]
  have hsz : W.heap.size < (W.alloc (.cells #[.int .u8 k, .string nm, v2, v3, v4] 34)).heap.size := by simp
  clear h5 h6 h7 h9
  rcases ixOf_cases g.rules (fun r => sameB r.name nm) with ⟨hi, _⟩ | ⟨j, hj, hi, _, _⟩
  · have hfin : Hid (g.named token (.mk k nm tx set subs) = -1) := by
      unfold Hid Gr.named Gr.find
      simp [Nd.name, hi]
    change g.find nm = -1 at hi
    rw [hi] at hS
    clear hi
    go_enter Tryd.func69, Tryd.ntmps69
    go_wp2_with fail
    generalize W.alloc (.cells #[.int .u8 k, .string nm, v2, v3, v4] 34) = w1 at *
    refine wp_region_hav_lit follows (by kernel_rfl) ?_
    repeat (first
      | (refine HavG.skip (fun _ => rfl) ?_; simp only [Act.put, List.setIfInBounds_toArray, List.set_cons_zero, List.set_cons_succ])
      | (refine HavG.val (fun _ => rfl) ?_ (fun x w hw _ => ?_) ?_; rotate_left; (focus (have hc := hw.cells; clear hw; go_simp; first | done | rfl)); simp only [Act.put, List.setIfInBounds_toArray, List.set_cons_zero, List.set_cons_succ]))
    refine HavG.tail (by kernel_rfl) (by kernel_rfl) (fun x w hw _ => ?_)
    have hc := hw.cells
    have HW := Lib.hid hw
    clear hw
    go_wp2_with (go_at_call 26; refine (hS.out _ ((hG.keep HW.out).mono HW.out.size)).mono ?_; rintro e w' ⟨rfl, hb2⟩)
    have hw' : Grew w1 w' := HW.out.trans hb2
    clear hc hb2 HW
    refine wp_region_hav_lit follows (by kernel_rfl) ?_
    repeat (first
      | (refine HavG.skip (fun _ => rfl) ?_; simp only [Act.put, List.setIfInBounds_toArray, List.set_cons_zero, List.set_cons_succ])
      | (refine HavG.val (fun _ => rfl) ?_ (fun x w hw _ => ?_) ?_; rotate_left; (focus (have hc := (hw'.trans hw).cells; clear hw; go_simp; first | done | rfl)); simp only [Act.put, List.setIfInBounds_toArray, List.set_cons_zero, List.set_cons_succ]))
    refine HavG.tail (by kernel_rfl) (by kernel_rfl) (fun x w hw _ => ?_)
    go_wp2
    go_ret
    exact ⟨ret_int hfin.out.symm, hgr.trans (hw'.trans hw)⟩
  · change g.find nm = (j : Int) at hi
    have hfin : Hid (g.named token (.mk k nm tx set subs) = if !((g.rules[j].sort == 0) == (k == 5)) then (-1 : Int) else if (k == 6) && !token then -1 else (j : Int)) := by
      unfold Hid Gr.named
      have hn : ¬ ((j : Int) < 0) := by omega
      simp only [Nd.name, Nd.kind, hi, hn, if_false, sortAt_nat g j hj]
    rw [hi] at hS
    clear hi
    have hG' := hG
    obtain ⟨q1, q2, q3, q4, q5, q6, ra, rc, q7, q8, q9⟩ := hG'
    obtain rfl := Option.some.inj q1
    obtain rfl := Option.some.inj q3
    obtain rfl := Option.some.inj q4
    obtain rfl := Option.some.inj q7
    obtain ⟨rb, ro, rfl, hrb, hrule⟩ := q9.get hj
    simp only [Nat.zero_add] at hrule
    obtain ⟨-, -, e1, hs, -⟩ := hrule
    generalize g.rules[j].sort = srt at *
    unfold reachN at q8
    clear q1 q2 q3 q4 q5 q6 q7 q9 h10
    go_enter Tryd.func69, Tryd.ntmps69
    go_wp2_with fail
    generalize W.alloc (.cells #[.int .u8 k, .string nm, v2, v3, v4] 34) = w1 at *
    refine wp_region_hav_lit follows (by kernel_rfl) ?_
    repeat (first
      | (refine HavG.skip (fun _ => rfl) ?_; simp only [Act.put, List.setIfInBounds_toArray, List.set_cons_zero, List.set_cons_succ])
      | (refine HavG.val (fun _ => rfl) ?_ (fun x w hw _ => ?_) ?_; rotate_left; (focus (have hc := hw.cells; clear hw; go_simp; first | done | rfl)); simp only [Act.put, List.setIfInBounds_toArray, List.set_cons_zero, List.set_cons_succ]))
    refine HavG.tail (by kernel_rfl) (by kernel_rfl) (fun x w hw _ => ?_)
    have hc := hw.cells
    have HW := Lib.hid hw
    clear hw
    go_wp2_with (go_at_call 26; refine (hS.out _ ((hG.keep HW.out).mono HW.out.size)).mono ?_; rintro e w' ⟨rfl, hb2⟩)
    have hw' : Grew w1 w' := HW.out.trans hb2
    clear hc hb2 HW
    refine wp_region_hav_lit follows (by kernel_rfl) ?_
    repeat (first
      | (refine HavG.skip (fun _ => rfl) ?_; simp only [Act.put, List.setIfInBounds_toArray, List.set_cons_zero, List.set_cons_succ])
      | (refine HavG.val (fun _ => rfl) ?_ (fun x w hw _ => ?_) ?_; rotate_left; (focus (have hc := (hw'.trans hw).cells; clear hw; go_simp; first | done | rfl)); simp only [Act.put, List.setIfInBounds_toArray, List.set_cons_zero, List.set_cons_succ]))
    refine HavG.tail (by kernel_rfl) (by kernel_rfl) (fun x w hw _ => ?_)
    have hc := (hw'.trans hw).cells
    have HW := Lib.hid (hgr.trans (hw'.trans hw))
    clear hw hw' hgr
    go_wp2
    all_goals
      go_ret
      refine ⟨ret_int ?_, HW.out⟩
      rw [hfin.out]
      have hjn : ¬ ((j : Int) < 0) := by omega
      clear hS hfin HW hc b0 b1 c0 c1 c2 c3 hG hA
      simp_all
end Go.Proofs.YtkinlcichclnkaaDoor
