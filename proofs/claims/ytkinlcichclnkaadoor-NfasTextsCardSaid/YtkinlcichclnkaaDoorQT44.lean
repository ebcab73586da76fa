/- From one rune to the next: what the rows of bools hold, and how a place is read. -/
import Derived.Deep.DeepCutAuto
import Derived.Deep.CutBlock
import Derived.Test.YtkinlcichclnkaaDoorQT43
namespace Go.Proofs.YtkinlcichclnkaaDoor
open Go.RowKit

section
variable (out : List NPl) (F : Nat) (k : Int) (l : List Int) (n : Nat)
/-- led to from the places before p -/
def Nx1 (p z : Nat) : Prop := ∃ p' pl, p' < p ∧ Way out F k l n p' ∧ out[p']? = some pl ∧ pl.fol.testBit z = true
/-- beside these, those that follow p, up to f -/
def NxF (p fol f z : Nat) : Prop := Nx1 out F k l n p z ∨ ∃ t, t < f ∧ (placesL fol)[t]? = some (z : Int)
/-- beside all these, the first ones, up to f -/
def Nx2 (f z : Nat) : Prop := (n = 0 ∧ (∃ t, t < f ∧ (placesL F)[t]? = some (z : Int)) ∧ ∃ pl, out[z]? = some pl ∧ pl.kind = k) ∨ Nx1 out F k l n out.length z
def NxH (z : Nat) : Prop := ∃ pl, out[z]? = some pl ∧ holdsR pl.set (l.getD n 0)
/-- and those that hold the rune, up to p -/
def Nx3 (p z : Nat) : Prop := Nx2 out F k l n (placesL F).length z ∧ (z < p → NxH out l n z)
end
section
variable {out : List NPl} {F : Nat} {k : Int} {l : List Int} {n : Nat} {M : Nat} {X : List Bool}
theorem nx1_zero (hM : X = List.replicate M false) : Bs M X (Nx1 out F k l n 0) := by
  subst hM
  exact (Bs.false M).imp fun z _ => ⟨fun h => h.elim, fun ⟨_, _, h, _⟩ => absurd h (by omega)⟩
theorem nx1_skip {p : Nat} (hp : ¬ Way out F k l n p) (h : Bs M X (Nx1 out F k l n p)) : Bs M X (Nx1 out F k l n (p + 1)) := h.imp fun z _ => by
  constructor
  · rintro ⟨p', pl, h1, h2⟩
    exact ⟨p', pl, by omega, h2⟩
  · rintro ⟨p', pl, h1, h2, h3⟩
    refine ⟨p', pl, ?_, h2, h3⟩
    rcases Nat.lt_or_ge p' p with h4 | h4
    · exact h4
    · obtain rfl : p' = p := by omega
      exact absurd h2 hp
theorem nxf_zero {p fol : Nat} (h : Bs M X (Nx1 out F k l n p)) : Bs M X (NxF out F k l n p fol 0) := h.imp fun z _ => ⟨Or.inl, fun h => h.elim id fun ⟨t, h, _⟩ => absurd h (by omega)⟩
theorem nxf_next {p fol f x : Nat} (hx : x < M) (hf : (placesL fol)[f]? = some (x : Int)) (h : Bs M X (NxF out F k l n p fol f)) : Bs M (X.set x true) (NxF out F k l n p fol (f + 1)) := (h.put hx true).imp fun z _ => by
  by_cases e : z = x
  · subst e
    rw [if_pos rfl]
    exact ⟨fun _ => .inr ⟨f, by omega, hf⟩, fun _ => rfl⟩
  · rw [if_neg e]
    constructor
    · rintro (h | ⟨t, h1, h2⟩)
      · exact .inl h
      · exact .inr ⟨t, by omega, h2⟩
    · rintro (h | ⟨t, h1, h2⟩)
      · exact .inl h
      · rcases Nat.lt_or_ge t f with h4 | h4
        · exact .inr ⟨t, h4, h2⟩
        · obtain rfl : t = f := by omega
          rw [hf] at h2
          have := Option.some.inj h2
          omega
theorem nxf_end {p f : Nat} {pl : NPl} (hw : Way out F k l n p) (hp : out[p]? = some pl) (hM : M ≤ 4096) (hf : (placesL pl.fol).length = f) (h : Bs M X (NxF out F k l n p pl.fol f)) : Bs M X (Nx1 out F k l n (p + 1)) := h.imp fun z hz => by
  subst hf
  constructor
  · rintro (⟨p', ql, h1, h2⟩ | ⟨t, h1, h2⟩)
    · exact ⟨p', ql, by omega, h2⟩
    · obtain ⟨_, h3⟩ := List.getElem?_eq_some_iff.1 h2
      exact ⟨p, pl, by omega, hw, hp, (pl_mem.1 (h3 ▸ List.getElem_mem h1)).2⟩
  · rintro ⟨p', ql, h1, h2, h3, h4⟩
    rcases Nat.lt_or_ge p' p with h5 | h5
    · exact .inl ⟨p', ql, h5, h2, h3, h4⟩
    · obtain rfl : p' = p := by omega
      rw [hp] at h3
      obtain rfl := Option.some.inj h3
      obtain ⟨t, ht, e⟩ := List.getElem_of_mem (pl_mem.2 ⟨show z < 4096 by omega, h4⟩)
      exact .inr ⟨t, ht, by rw [List.getElem?_eq_getElem ht, e]⟩
theorem nx2_zero (hM : out.length = M) (h : Bs M X (Nx1 out F k l n M)) : Bs M X (Nx2 out F k l n 0) := h.imp fun z _ => by
  subst hM
  exact ⟨Or.inr, fun h => h.elim (fun ⟨_, ⟨_, h, _⟩, _⟩ => absurd h (by omega)) id⟩
theorem nx2_next {f x : Nat} {pl : NPl} (h0 : n = 0) (hx : x < M) (hp : out[x]? = some pl) (hf : (placesL F)[f]? = some (x : Int)) (h : Bs M X (Nx2 out F k l n f)) : Bs M (X.set x (pl.kind == k)) (Nx2 out F k l n (f + 1)) := (h.put hx _).imp fun z _ => by
  have hno : ∀ y, ¬ Nx1 out F k l n out.length y := fun y ⟨_, _, _, h, _⟩ => by subst h0; exact h
  by_cases e : z = x
  · subst e
    rw [if_pos rfl, beq_iff_eq]
    constructor
    · intro e
      exact .inl ⟨h0, ⟨f, by omega, hf⟩, pl, hp, e⟩
    · rintro (⟨_, _, ql, h1, h2⟩ | h)
      · rw [hp] at h1
        obtain rfl := Option.some.inj h1
        exact h2
      · exact absurd h (hno z)
  · rw [if_neg e]
    constructor
    · rintro (⟨_, ⟨t, h1, h2⟩, h3⟩ | h)
      · exact .inl ⟨h0, ⟨t, by omega, h2⟩, h3⟩
      · exact .inr h
    · rintro (⟨_, ⟨t, h1, h2⟩, h3⟩ | h)
      · rcases Nat.lt_or_ge t f with h4 | h4
        · exact .inl ⟨h0, ⟨t, h4, h2⟩, h3⟩
        · obtain rfl : t = f := by omega
          rw [hf] at h2
          have := Option.some.inj h2
          omega
      · exact .inr h
theorem nx2_all {f : Nat} (h0 : n ≠ 0) (h : Bs M X (Nx2 out F k l n f)) : Bs M X (Nx2 out F k l n (placesL F).length) := h.imp fun _ _ => ⟨fun h => h.elim (fun ⟨h, _⟩ => absurd h h0) .inr, fun h => h.elim (fun ⟨h, _⟩ => absurd h h0) .inr⟩
theorem nx3_zero (h : Bs M X (Nx2 out F k l n (placesL F).length)) : Bs M X (Nx3 out F k l n 0) := h.imp fun z _ => ⟨fun h => ⟨h, fun h => absurd h (by omega)⟩, fun h => h.1⟩
theorem nx3_next {p : Nat} {pl : NPl} {x y : Bool} (hp : p < M) (hpl : out[p]? = some pl) (hx : X.getD p false = x) (hy : y = (x && holdsB pl.set (l.getD n 0))) (h : Bs M X (Nx3 out F k l n p)) : Bs M (X.set p y) (Nx3 out F k l n (p + 1)) := by
  have h2 := h.2 p
  rw [hx] at h2
  refine (h.put hp y).imp fun z _ => ?_
  by_cases e : z = p
  · subst e
    rw [if_pos rfl, hy, Bool.and_eq_true, h2, holdsB_iff]
    constructor
    · rintro ⟨⟨_, h3, _⟩, h4⟩
      exact ⟨h3, fun _ => ⟨pl, hpl, h4⟩⟩
    · rintro ⟨h3, h4⟩
      obtain ⟨ql, h5, h6⟩ := h4 (by omega)
      rw [hpl] at h5
      obtain rfl := Option.some.inj h5
      exact ⟨⟨hp, h3, fun h => absurd h (by omega)⟩, h6⟩
  · rw [if_neg e]
    exact ⟨fun ⟨h3, h4⟩ => ⟨h3, fun h => h4 (by omega)⟩, fun ⟨h3, h4⟩ => ⟨h3, fun h => h4 (by omega)⟩⟩
/-- is a last place among those up to p? -/
def LastTo (out : List NPl) (F S : Nat) (k : Int) (l : List Int) (n p : Nat) (b : Bool) : Prop := b = true ↔ ∃ z, z < p ∧ Nx2 out F k l n (placesL F).length z ∧ NxH out l n z ∧ S.testBit z = true
theorem last_zero {S : Nat} : LastTo out F S k l n 0 false := ⟨fun h => absurd h (by decide), fun ⟨_, h, _⟩ => absurd h (by omega)⟩
theorem last_next {S p : Nat} {pl : NPl} {x y b c : Bool} (hp : p < M) (hpl : out[p]? = some pl) (hx : X.getD p false = x) (hy : y = (x && holdsB pl.set (l.getD n 0))) (h : Bs M X (Nx3 out F k l n p)) (hl : LastTo out F S k l n p b) (hc : c = (b || y && S.testBit p)) : LastTo out F S k l n (p + 1) c := by
  have h2 := h.2 p
  rw [hx] at h2
  have hyy : y = true ↔ Nx2 out F k l n (placesL F).length p ∧ NxH out l n p := by
    rw [hy, Bool.and_eq_true, h2, holdsB_iff]
    constructor
    · rintro ⟨⟨_, h3, _⟩, h4⟩
      exact ⟨h3, pl, hpl, h4⟩
    · rintro ⟨h3, ql, h5, h6⟩
      rw [hpl] at h5
      obtain rfl := Option.some.inj h5
      exact ⟨⟨hp, h3, fun h => absurd h (by omega)⟩, h6⟩
  unfold LastTo at hl ⊢
  rw [hc, Bool.or_eq_true, Bool.and_eq_true, hl, hyy]
  constructor
  · rintro (⟨z, h3, h4⟩ | ⟨⟨h3, h4⟩, h5⟩)
    · exact ⟨z, by omega, h4⟩
    · exact ⟨p, by omega, h3, h4, h5⟩
  · rintro ⟨z, h3, h4, h5, h6⟩
    rcases Nat.lt_or_ge z p with h7 | h7
    · exact .inl ⟨z, h7, h4, h5, h6⟩
    · obtain rfl : z = p := by omega
      exact .inr ⟨⟨h4, h5⟩, h6⟩
theorem way_nx (hn : n < l.length) (hF : ∀ z, F.testBit z = true → z < out.length) (ho : out.length ≤ 4096) {z : Nat} : Way out F k l (n + 1) z ↔ Nx2 out F k l n (placesL F).length z ∧ NxH out l n z := by
  rw [Way.step hn, and_comm]
  refine and_congr ⟨?_, ?_⟩ Iff.rfl
  · rintro (⟨h1, h2, h3⟩ | ⟨p, pl, h1, h2, h3⟩)
    · have := hF z h2
      obtain ⟨t, ht, e⟩ := List.getElem_of_mem (pl_mem.2 ⟨show z < 4096 by omega, h2⟩)
      exact .inl ⟨h1, ⟨t, ht, by rw [List.getElem?_eq_getElem ht, e]⟩, h3⟩
    · exact .inr ⟨p, pl, h1.lt, h1, h2, h3⟩
  · rintro (⟨h1, ⟨t, h2, h3⟩, h4⟩ | ⟨p, pl, _, h1, h2, h3⟩)
    · obtain ⟨_, h5⟩ := List.getElem?_eq_some_iff.1 h3
      exact .inl ⟨h1, (pl_mem.1 (h5 ▸ List.getElem_mem h2)).2, h4⟩
    · exact .inr ⟨p, pl, h1, h2, h3⟩
theorem nx3_end (hn : n < l.length) (hF : ∀ z, F.testBit z = true → z < out.length) (ho : out.length ≤ 4096) (h : Bs M X (Nx3 out F k l n M)) : Bs M X (Way out F k l (n + 1)) := h.imp fun z hz => by
  rw [way_nx hn hF ho]
  exact ⟨fun h => ⟨h.1, h.2 hz⟩, fun h => ⟨h.1, fun _ => h.2⟩⟩
theorem last_end {S : Nat} {b : Bool} (hn : n < l.length) (hF : ∀ z, F.testBit z = true → z < out.length) (ho : out.length ≤ 4096) (hM : out.length = M) (h : LastTo out F S k l n M b) : b = true ↔ ∃ z, Way out F k l (n + 1) z ∧ S.testBit z = true := by
  unfold LastTo at h
  rw [h]
  constructor
  · rintro ⟨z, _, h1, h2, h3⟩
    exact ⟨z, (way_nx hn hF ho).2 ⟨h1, h2⟩, h3⟩
  · rintro ⟨z, h1, h2⟩
    have := h1.lt
    obtain ⟨h3, h4⟩ := (way_nx hn hF ho).1 h1
    exact ⟨z, by omega, h3, h4, h2⟩
end
/-- a place of a row -/
theorem pl8_at {w : World} {v : Value} {sv fl : Nat → Value} {ls : Nat → Bool} {out : List NPl} {i : Nat} (h : looseRow w 0 48 4 v out.length (plVs sv fl ls out out.length)) (hi : i < out.length) : ∃ g cap, v = .slice (some ⟨g, 0, none⟩) out.length cap ∧ g < w.heap.size ∧ w.cell? ⟨g, i * 4, none⟩ = some (sv i) ∧ w.cell? ⟨g, i * 4 + 1, none⟩ = some (.int .i64 out[i].kind) ∧ w.cell? ⟨g, i * 4 + 2, none⟩ = some (.bool (ls i)) ∧ w.cell? ⟨g, i * 4 + 3, none⟩ = some (fl i) := by
  rcases h.2 with ⟨_, h0⟩ | ⟨g, cap, cur, h1, h2, h3, h4⟩
  · omega
  · have hc := looseRow_cells h (g := g) (by rw [h1]; rfl)
    refine ⟨g, cap, h1, (Array.getElem?_eq_some_iff.1 h3).1, hc (i * 4) _ (plVs_get sv fl ls out hi (k := 0) (by decide)), ?_, hc _ _ (plVs_get sv fl ls out hi (k := 2) (by decide)), hc _ _ (plVs_get sv fl ls out hi (k := 3) (by decide))⟩
    refine hc _ _ ((plVs_get sv fl ls out hi (k := 1) (by decide)).trans ?_)
    unfold plF
    rw [List.getElem?_eq_getElem hi]
    rfl
/-- a number of a row of places -/
theorem fol_at {w : World} {a : Option Addr} {c s i : Nat} (h : looseRow w 0 3 1 (.slice a (placesL s).length c) (placesL s).length (intVs (placesL s))) (hi : i < (placesL s).length) : ∃ (g x : Nat), a = some ⟨g, 0, none⟩ ∧ g < w.heap.size ∧ w.cell? ⟨g, i, none⟩ = some (.int .i64 (x : Int)) ∧ (placesL s)[i]? = some (x : Int) ∧ s.testBit x = true := by
  obtain ⟨x, h1, h2, h3⟩ := pl_nat hi
  rcases h.2 with ⟨_, h0⟩ | ⟨g, cap, cur, e1, e2, e3, e4⟩
  · omega
  · simp only [Value.slice.injEq] at e1
    obtain ⟨rfl, -, rfl⟩ := e1
    refine ⟨g, x, rfl, (Array.getElem?_eq_some_iff.1 e3).1, ?_, by rw [List.getElem?_eq_getElem hi, h1], h3⟩
    refine looseRow_cells h (g := g) rfl i _ ?_
    unfold intVs
    rw [List.getElem?_map, List.getElem?_eq_getElem hi, h1]
    rfl
theorem rg_cells {w : World} {g lim : Nat} (hg : g < lim) : ∀ {s : List (Int × Int)} {i : Nat}, (∀ j (h : j < s.length), w.cell? ⟨g, (i + j) * 2, none⟩ = some (.int .i32 s[j].1) ∧ w.cell? ⟨g, (i + j) * 2 + 1, none⟩ = some (.int .i32 s[j].2)) → RangesAt w lim (some ⟨g, 0, none⟩) i s
  | [], _, _ => trivial
  | x :: r, i, h => by
    have h0 := h 0 (by simp)
    simp only [Nat.add_zero, List.getElem_cons_zero] at h0
    refine ⟨⟨g, 0, rfl, hg, by rw [Nat.zero_add]; exact h0.1, by rw [Nat.zero_add]; exact h0.2⟩, rg_cells hg fun j hj => ?_⟩
    have h1 := h (j + 1) (by simp; omega)
    simp only [List.getElem_cons_succ] at h1
    rw [show i + 1 + j = i + (j + 1) by omega]
    exact h1
/-- a row of ranges -/
theorem rg_row {w : World} {v : Value} {set : List (Int × Int)} (h : looseRow w 0 58 2 v set.length (rgVs set)) : ∃ a c, v = .slice a set.length c ∧ RangesAt w w.heap.size a 0 set := by
  rcases h.2 with ⟨h1, h0⟩ | ⟨g, cap, cur, e1, e2, e3, e4⟩
  · obtain rfl := List.eq_nil_of_length_eq_zero h0
    exact ⟨none, 0, h1, trivial⟩
  · refine ⟨_, _, e1, rg_cells (Array.getElem?_eq_some_iff.1 e3).1 fun j hj => ?_⟩
    have hc := looseRow_cells h (g := g) (by rw [e1]; rfl)
    rw [Nat.zero_add]
    constructor
    · refine hc (j * 2) _ ((fmap_get rgF 2 rgF_len set j 0 (by decide)).trans ?_)
      rw [List.getElem?_eq_getElem hj]
      rfl
    · refine hc (j * 2 + 1) _ ((fmap_get rgF 2 rgF_len set j 1 (by decide)).trans ?_)
      rw [List.getElem?_eq_getElem hj]
      rfl
end Go.Proofs.YtkinlcichclnkaaDoor

/- Parts of a function's code, by number; some facts ahead of NfasTexts' walk. -/
namespace Go.Proofs.YtkinlcichclnkaaDoor
open Go.RowKit

def codeOf (F : Func) : Code := F.body.getD .skip
/-- the block of that number -/
def blkOf (n : Nat) : Code → Option Code
  | .block m c => if m = n then some (.block m c) else blkOf n c
  | .seq a b => match blkOf n a with | some x => some x | none => blkOf n b
  | .cond _ a b => match blkOf n a with | some x => some x | none => blkOf n b
  | .loop c => blkOf n c
  | .scope c => blkOf n c
  | .rangeFunc _ _ _ c => blkOf n c
  | _ => none
/-- the region of that number -/
def regOf (n : Nat) : Code → Option Code
  | .region m o d => if m = n then some (.region m o d) else none
  | .block _ c => regOf n c
  | .seq a b => match regOf n a with | some x => some x | none => regOf n b
  | .cond _ a b => match regOf n a with | some x => some x | none => regOf n b
  | .loop c => regOf n c
  | .scope c => regOf n c
  | .rangeFunc _ _ _ c => regOf n c
  | _ => none
theorem rulesN_few (lk : ByteArray → Nd) : ∀ (ns : List Nd) (i f s : Nat) (b : NB), b.Ok → (rulesN lk i ns f s b).2.Ok
  | [], _, _, _, _, h => h
  | n :: r, i, _, _, b, h => rulesN_few lk r (i + 1) _ _ _ (nodeN_to lk (i : Int) 65537 n b h).1.ok
theorem Bs.zero {M : Nat} {l : List Bool} {Q : Nat → Prop} (hl : l.length = M) (hz : ∀ z, z < M → l.getD z Bool.false = Bool.false) (hq : ∀ z, ¬ Q z) : Bs M l Q := by
  refine ⟨hl, fun z => ⟨fun h => ?_, fun h => absurd h.2 (hq z)⟩⟩
  rcases Nat.lt_or_ge z M with h2 | h2
  · rw [hz z h2] at h
    exact absurd h (by decide)
  · rw [List.getD_eq_getElem?_getD, List.getElem?_eq_none (by rw [hl]; exact h2)] at h
    exact absurd h (by decide)
theorem tok_at {g : Gr} {i k : Nat} (hi : i < g.rules.length) (ht : tokR g.rules[i] = true) (hk : k = ((g.rules.take i).filter tokR).length) : k < g.toks.length ∧ ∀ h : k < g.toks.length, g.toks[k] = g.rules[i] := by
  have e : g.toks = (g.rules.take i).filter tokR ++ g.rules[i] :: (g.rules.drop (i + 1)).filter tokR := by
    unfold Gr.toks
    conv => lhs; rw [← List.take_append_drop i g.rules]
    rw [List.filter_append, List.drop_eq_getElem_cons hi, List.filter_cons_of_pos ht]
  refine ⟨by rw [e, List.length_append, List.length_cons]; omega, fun h => ?_⟩
  simp only [e]
  rw [List.getElem_append_right (by omega)]
  simp [hk]
theorem Gr.of_len8 (g : Gr) : (g.of [1, 3]).length = g.toks.length := by
  have := congrArg List.length (Gr.of_toks g g.rules.length (Nat.le_refl _))
  rw [List.length_map, List.length_map, List.take_length] at this
  exact this
theorem made_few (g : Gr) : g.made.2.out.length ≤ 4096 := (rulesN_few g.lk _ 0 0 0 _ ⟨Nat.zero_le _, fun p hp => absurd hp (by simp)⟩).few
/-- a pointer to a bool -/
def PtrB (b : Bool) (v : Value) (w : World) : Prop := ∃ g o, v = .pointer (some ⟨g, o, none⟩) ∧ g < w.heap.size ∧ w.cell? ⟨g, o, none⟩ = some (.bool b)
theorem PtrB.keep {b : Bool} {v : Value} {w w' : World} (hg : Grew w w') (h : PtrB b v w) : PtrB b v w' := by
  obtain ⟨g, o, h1, h2, h3⟩ := h
  exact ⟨g, o, h1, Nat.lt_of_lt_of_le h2 hg.size, (hg.cells _ _ h2).trans h3⟩
theorem ptrb_at {w : World} {v : Value} {l : List Bool} {L : Nat} {b : Bool} (h : BRow w v l) (hl : l.length = L + 1) (hb : l.getD L false = b) : ∃ g c, v = .slice (some ⟨g, 0, none⟩) (L + 1) c ∧ g < w.heap.size ∧ w.cell? ⟨g, L, none⟩ = some (.bool b) := by
  have hlt : L < l.length := by omega
  obtain ⟨g, c, e, h1, h2⟩ := brow_at h hlt
  refine ⟨g, c, by rw [e, hl], h1, ?_⟩
  rw [h2, ← hb, List.getD_eq_getElem?_getD, List.getElem?_eq_getElem hlt]
  rfl
end Go.Proofs.YtkinlcichclnkaaDoor

/- NfasTexts: what follows the places that hold. Printed by gennftx.py. -/
namespace Go.Proofs.YtkinlcichclnkaaDoor
open Go.RowKit

set_option maxHeartbeats 8000000 in
set_option maxRecDepth 40000 in
theorem blk8_ok {g : Gr} {l : List Int} {P B8 : Nat} {w10 : World} {pa fa : Option Addr} {pc fc : Nat} {kinds : Int} {sv fl : Nat → Value} {M FN k : Nat} {kk q' qn : Nat} {AT2 Z0 : List Bool} {w : World} (HAU : Hid (AutoAt w10 (.slice pa g.made.2.out.length pc) (.slice fa (placesL g.made.1.1).length fc) kinds sv fl g)) (HA10 : Hid (Owns w10 B8 [.slice pa M pc, .slice fa FN fc, .int .i64 kinds] 42)) (HM : Hid (g.made.2.out.length = M)) (HFUL : Hid (g.made.2.full = false)) (HP10 : Hid (P ≤ w10.heap.size)) (hM300 : M ≤ 300) (HQN : Hid (P ≤ qn)) (HNE : Hid (q' ≠ qn)) (BS4 : Hid (Bs M AT2 (Way g.made.2.out g.made.1.1 (k : Int) l kk))) (KN : Hid (Kb P w10 w)) (BN : Hid (BW w q' AT2)) (BX : Hid (BW w qn Z0)) (BZ : Hid (Bs M Z0 (Nx1 g.made.2.out g.made.1.1 (k : Int) l kk 0)))
    {z0 z1 z2 z3 z4 z5 z7 z9 z10 z11 z12 z13 z16 z17 z18 z19 z20 z21 z22 z23 z24 z25 z26 z27 z28 z29 z30 z31 z32 z33 z34 z35 z36 z37 z38 z39 z40 z41 z42 z43 z44 z45 z46 z47 z48 z49 z50 z51 z52 z53 z54 z55 z56 z57 z58 z59 z60 z61 z62 z63 z64 z65 z66 z67 z68 z69 z70 z71 z72 z73 z74 z75 z76 z77 z78 z79 z80 z81 z82 z83 z84 z85 z86 z87 z88 z89 z90 z91 z92 z93 z94 z95 z96 z97 z98 z99 z100 z101 z102 z103 z104 z105 z106 z107 z108 z109 z110 z111 z112 z113 z114 z115 z116 z117 z118 z119 z120 z121 z122 z123 z124 z125 z126 z127 z128 z129 z130 z131 z132 z133 z134 z135 z136 z137 z138 z139 z140 z141 z142 z143 z144 z145 z146 z147 z148 z149 z150 z151 z152 z153 z154 z155 z156 z157 z158 z159 z160 z161 z162 z163 z164 z165 z166 z167 z168 z169 z170 z171 z172 z173 z174 z175 z176 z177 z178 z179 z180 z181 z182 z183 z184 z185 z186 z187 z188 z189 z190 z191 z192 z193 z194 z195 z196 z197 z198 z199 z200 z201 z202 z203 z204 z205 z206 z207 z208 z209 z210 z211 z212 z213 z214 z215 z216 z217 z218 z219 z220 z221 z222 z223 z224 z225 z226 z227 z228 z229 z230 z231 z232 z233 z234 z235 z236 z237 z238 z239 z240 z241 z242 z243 z244 z245 z246 z247 z248 z249 z250 z251 z252 z253 z254 z255 z256 z257 z258 z259 z260 z261 z262 z263 z264 z265 z266 z267 z268 z269 z270 z271 z272 z273 z274 z275 z276 z277 z278 z279 z280 z281 z282 z283 z284 z285 z286 z287 z288 z289 z290 z291 z292 z293 z294 : Value} {K : Act → World → Prop} {Q9 : Exit → Act → World → Prop} {s : Code} (hs : blkOf 8 (codeOf Tryd.f4) = some s)
    (HK : Hid (∀ (x4 x15 x16 x17 x110 x111 x112 x113 x114 x115 x116 x117 x118 x119 x120 x121 x122 x123 x124 x125 x126 x127 x128 x129 x130 x131 x132 x133 x134 x135 x136 x137 x138 x139 x140 x141 x142 x143 x144 x145 x146 x147 x148 x149 x150 x151 x152 x153 x154 x155 x156 x157 x158 x159 x160 x161 x162 x163 x164 x165 x166 x167 x168 x169 x170 : Value) (w' : World) (NX : List Bool), Hid (Kb P w10 w') → Hid (BW w' q' AT2) → Hid (BW w' qn NX) → Hid (Bs M NX (Nx1 g.made.2.out g.made.1.1 (k : Int) l kk M)) → K { tmps := #[z0, z1, z2, z3, x4, z5, (.pointer (some ⟨B8, 0, none⟩)), z7, (.slice (some ⟨q', 0, none⟩) M M), z9, z10, z11, z12, z13, (.slice (some ⟨qn, 0, none⟩) M M), x15, x16, x17, z18, z19, z20, z21, z22, z23, z24, z25, z26, z27, z28, z29, z30, z31, z32, z33, z34, z35, z36, z37, z38, z39, z40, z41, z42, z43, z44, z45, z46, z47, z48, z49, z50, z51, z52, z53, z54, z55, z56, z57, z58, z59, z60, z61, z62, z63, z64, z65, z66, z67, z68, z69, z70, z71, z72, z73, z74, z75, z76, z77, z78, z79, z80, z81, z82, z83, z84, z85, z86, z87, z88, z89, z90, z91, z92, z93, z94, z95, z96, z97, z98, z99, z100, z101, z102, z103, z104, z105, z106, z107, z108, z109, x110, x111, x112, x113, x114, x115, x116, x117, x118, x119, x120, x121, x122, x123, x124, x125, x126, x127, x128, x129, x130, x131, x132, x133, x134, x135, x136, x137, x138, x139, x140, x141, x142, x143, x144, x145, x146, x147, x148, x149, x150, x151, x152, x153, x154, x155, x156, x157, x158, x159, x160, x161, x162, x163, x164, x165, x166, x167, x168, x169, x170, z171, z172, z173, z174, z175, z176, z177, z178, z179, z180, z181, z182, z183, z184, z185, z186, z187, z188, z189, z190, z191, z192, z193, z194, z195, z196, z197, z198, z199, z200, z201, z202, z203, z204, z205, z206, z207, z208, z209, z210, z211, z212, z213, z214, z215, z216, z217, z218, z219, z220, z221, z222, z223, z224, z225, z226, z227, z228, z229, z230, z231, z232, z233, z234, z235, z236, z237, z238, z239, z240, z241, z242, z243, z244, z245, z246, z247, z248, z249, z250, z251, z252, z253, z254, z255, z256, z257, z258, z259, z260, z261, z262, z263, z264, z265, z266, z267, z268, z269, z270, z271, z272, z273, z274, z275, z276, z277, z278, z279, z280, z281, z282, z283, z284, z285, z286, z287, z288, z289, z290, z291, z292, z293, z294], defers := [] } w')) :
    s.wp Tryd.prog (Exit.then K Q9) { tmps := #[z0, z1, z2, z3, z4, z5, (.pointer (some ⟨B8, 0, none⟩)), z7, (.slice (some ⟨q', 0, none⟩) M M), z9, z10, z11, z12, z13, (.slice (some ⟨qn, 0, none⟩) M M), (.int .i64 0), z16, z17, z18, z19, z20, z21, z22, z23, z24, z25, z26, z27, z28, z29, z30, z31, z32, z33, z34, z35, z36, z37, z38, z39, z40, z41, z42, z43, z44, z45, z46, z47, z48, z49, z50, z51, z52, z53, z54, z55, z56, z57, z58, z59, z60, z61, z62, z63, z64, z65, z66, z67, z68, z69, z70, z71, z72, z73, z74, z75, z76, z77, z78, z79, z80, z81, z82, z83, z84, z85, z86, z87, z88, z89, z90, z91, z92, z93, z94, z95, z96, z97, z98, z99, z100, z101, z102, z103, z104, z105, z106, z107, z108, z109, z110, z111, z112, z113, z114, z115, z116, z117, z118, z119, z120, z121, z122, z123, z124, z125, z126, z127, z128, z129, z130, z131, z132, z133, z134, z135, z136, z137, z138, z139, z140, z141, z142, z143, z144, z145, z146, z147, z148, z149, z150, z151, z152, z153, z154, z155, z156, z157, z158, z159, z160, z161, z162, z163, z164, z165, z166, z167, z168, z169, z170, z171, z172, z173, z174, z175, z176, z177, z178, z179, z180, z181, z182, z183, z184, z185, z186, z187, z188, z189, z190, z191, z192, z193, z194, z195, z196, z197, z198, z199, z200, z201, z202, z203, z204, z205, z206, z207, z208, z209, z210, z211, z212, z213, z214, z215, z216, z217, z218, z219, z220, z221, z222, z223, z224, z225, z226, z227, z228, z229, z230, z231, z232, z233, z234, z235, z236, z237, z238, z239, z240, z241, z242, z243, z244, z245, z246, z247, z248, z249, z250, z251, z252, z253, z254, z255, z256, z257, z258, z259, z260, z261, z262, z263, z264, z265, z266, z267, z268, z269, z270, z271, z272, z273, z274, z275, z276, z277, z278, z279, z280, z281, z282, z283, z284, z285, z286, z287, z288, z289, z290, z291, z292, z293, z294], defers := [] } w := by
  have e : blkOf 8 (codeOf Tryd.f4) = some _ := rfl
  obtain rfl := Option.some.inj (e.symm.trans hs)
  clear e hs
  go_wp2_with fail
  go_loopw [15] (fun c wr' => ∃ (p : Nat) (NX : List Bool), c = .int .i64 p ∧ p ≤ M ∧ Hid (Kb P w10 wr') ∧ Hid (BW wr' q' AT2) ∧ Hid (BW wr' qn NX) ∧ Hid (Bs M NX (Nx1 g.made.2.out g.made.1.1 (k : Int) l kk p))) (fun c _ => M - (intOf c).toNat)
  case atStart => exact ⟨0, _, rfl, Nat.zero_le _, KN.out, BN.out, BX.out, BZ.out⟩
  case round =>
    obtain ⟨p, NX, rfl, hp, KP, BP, BQ, QP⟩ := hrel
    by_cases hpm : p < M
    · have hpq : p < g.made.2.out.length := by rw [HM.out]; exact hpm
      have HPQ := Lib.hid hpq
      have hau := HAU.out.kb KP.out
      obtain ⟨pg, pc, e1, l1, k10, k11, k12, k13⟩ := pl8_at hau.row hpq
      simp only [Value.slice.injEq] at e1
      obtain ⟨rfl, -, rfl⟩ := e1
      have hfol := hau.fol p hpq
      obtain ⟨pl, hpl⟩ : ∃ pl, g.made.2.out[p]'hpq = pl := ⟨_, rfl⟩
      have HPL := Lib.hid (show g.made.2.out[p]? = some pl by rw [List.getElem?_eq_getElem hpq, hpl])
      rw [hpl] at hfol
      obtain ⟨f1, u1, hf1⟩ := loose_form hfol
      have HF1 := Lib.hid hf1
      rw [hf1] at k13
      obtain ⟨FL, hFL⟩ : ∃ n, (placesL pl.fol).length = n := ⟨_, rfl⟩
      have HFL := Lib.hid hFL
      rw [hFL] at k13
      have hFLm : (FL : Int) ≤ 9223372036854775807 := by
        have := loose_le hfol
        rw [hFL] at this
        unfold maxLen at this
        omega
      have oA := KP.out.owns HA10.out (by decide)
      have a0 := oA.cell_at (i := 0) rfl
      have al := oA.lt
      have t0 := BP.out.cell (i := p) (by rw [BS4.out.1]; exact hpm)
      have t2 := Owns.lt BP.out
      have hbs := BS4.out.2 p
      obtain ⟨x, hx⟩ : ∃ x, AT2.getD p false = x := ⟨_, rfl⟩
      rw [hx] at t0 hbs
      have HBS := Lib.hid hbs
      clear hpq hau hfol hpl hf1 hFL oA k10 k11 k12 hx hbs
      cases x
      · have QN := Lib.hid (nx1_skip (fun h => absurd (HBS.out.2 ⟨hpm, h⟩) (by decide)) QP.out)
        go_wp2_with fail
        exact ⟨⟨p + 1, NX, by go_num, by omega, KP.out, BP.out, BQ.out, QN.out⟩, by simp [intOf]; omega⟩
      · have HW := Lib.hid (HBS.out.1 rfl).2
        go_wp2_with fail
        clear l1 k13 a0 al t0 t2
        go_loopw [17] (fun c wr' => ∃ (f : Nat) (NY : List Bool), c = .int .i64 f ∧ f ≤ FL ∧ Hid (Kb P w10 wr') ∧ Hid (BW wr' q' AT2) ∧ Hid (BW wr' qn NY) ∧ Hid (Bs M NY (NxF g.made.2.out g.made.1.1 (k : Int) l kk p pl.fol f))) (fun c _ => FL - (intOf c).toNat)
        case atStart => exact ⟨0, NX, rfl, Nat.zero_le _, KP.out, BP.out, BQ.out, nxf_zero QP.out⟩
        case round =>
          obtain ⟨f, NY, rfl, hf, KF, BF, BY, QF⟩ := hrel
          by_cases hfl : f < FL
          · have hau := HAU.out.kb KF.out
            obtain ⟨pg', pc', e1, l1, -, k11, -, -⟩ := pl8_at hau.row HPQ.out
            simp only [Value.slice.injEq, Option.some.injEq, Addr.mk.injEq, and_true] at e1
            obtain ⟨rfl, -, rfl⟩ := e1
            have hfol := hau.fol p HPQ.out
            have hpl : g.made.2.out[p]'HPQ.out = pl := by
              have h := HPL.out
              rw [List.getElem?_eq_getElem HPQ.out] at h
              exact Option.some.inj h
            rw [hpl] at k11 hfol
            rw [HF1.out] at hfol
            obtain ⟨fg, x, rfl, l2, d0, hxe, hxb⟩ := fol_at hfol (by rw [HFL.out]; exact hfl)
            obtain ⟨ql, hq1, hq2⟩ := made_fol HFUL.out HPL.out hxb
            obtain ⟨hxq, hq3⟩ := List.getElem?_eq_some_iff.1 hq1
            have hxm : x < M := by rw [← HM.out]; exact hxq
            obtain ⟨pg2, pc2, e3, -, -, k21, -, -⟩ := pl8_at hau.row hxq
            simp only [Value.slice.injEq, Option.some.injEq, Addr.mk.injEq, and_true] at e3
            obtain ⟨rfl, -, rfl⟩ := e3
            rw [hq3, hq2] at k21
            obtain ⟨kd, hkd⟩ : ∃ kd, pl.kind = kd := ⟨_, rfl⟩
            rw [hkd] at k11 k21
            have hkn : (kd != kd) = false := by simp
            have hx0 : decide ((x : Int) < 0) = false := decide_eq_false (by omega)
            have hx1 : decide ((M : Int) ≤ (x : Int)) = false := decide_eq_false (by omega)
            have hx2 : decide (M ≤ x) = false := decide_eq_false (by omega)
            have oA := KF.out.owns HA10.out (by decide)
            have a0 := oA.cell_at (i := 0) rfl
            have al := oA.lt
            have HXE := Lib.hid hxe
            clear hau hfol hpl hxb hq1 hq2 hxq hq3 hkd oA hxe
            go_upto_region 35 with fail
            refine wp_region_hav_lit follows (by kernel_rfl) ?_
            repeat (first
              | (refine HavG.skip (fun _ => rfl) ?_; simp only [Act.put, List.setIfInBounds_toArray, List.set_cons_zero, List.set_cons_succ])
              | (refine HavG.val (fun _ => rfl) ?_ (fun x w hw _ => ?_) ?_; rotate_left; (focus (have hc := hw.cells; clear hw; go_simp; first | done | rfl)); simp only [Act.put, List.setIfInBounds_toArray, List.set_cons_zero, List.set_cons_succ]))
            refine HavG.tail (by kernel_rfl) (by kernel_rfl) (fun xs w9 hw9 _ => ?_)
            have hl9 : P ≤ wr.heap.size := Nat.le_trans HP10.out KF.out.low.size
            have K9 := Lib.hid (KF.out.trans (Kb.grew hw9 hl9))
            have B9 := Lib.hid (show BW w9 q' AT2 from Owns.keep BF.out hw9)
            have Y9 := Lib.hid (show BW w9 qn NY from Owns.keep BY.out hw9)
            have d9 := (hw9.cells _ f l2).trans d0
            have l9 := Nat.lt_of_lt_of_le l2 hw9.size
            have hxy : x < NY.length := by rw [QF.out.1]; exact hxm
            have t0 := Y9.out.cell hxy
            have t1 := Owns.free Y9.out x
            have t2 := Owns.lt Y9.out
            have K10 := Lib.hid (K9.out.trans (Kb.set (i := x) (v := .bool true) Y9.out HQN.out (Nat.le_trans HP10.out K9.out.low.size)))
            have B10 := Lib.hid (show BW (w9.setCell ⟨qn, x, none⟩ (.bool true)) q' AT2 from (set_but (i := x) (v := .bool true) Y9.out).owns B9.out HNE.out)
            have Y10 := Lib.hid (Y9.out.set (i := x) true)
            have Q10 := Lib.hid (nxf_next hxm HXE.out QF.out)
            clear hl9 hw9 hxy l1 l2 d0 k11 k21 a0 al hkn hx0 hx1 hx2
            go_wp2_with fail
            exact ⟨⟨f + 1, _, by go_num, by omega, K10.out, B10.out, Y10.out, Q10.out⟩, by simp [intOf]; omega⟩
          · obtain rfl : FL = f := by omega
            have QN := Lib.hid (nxf_end HW.out HPL.out (by omega) HFL.out QF.out)
            go_wp2_with fail
            exact ⟨⟨p + 1, NY, by go_num, by omega, KF.out, BF.out, BY.out, QN.out⟩, by simp [intOf]; omega⟩
    · obtain rfl : M = p := by omega
      go_wp2_with fail
      exact HK.out _ _ _ _ _ _ _ _ _ _ _ _ _ _ _ _ _ _ _ _ _ _ _ _ _ _ _ _ _ _ _ _ _ _ _ _ _ _ _ _ _ _ _ _ _ _ _ _ _ _ _ _ _ _ _ _ _ _ _ _ _ _ _ _ _ _ NX KP BP BQ QP
end Go.Proofs.YtkinlcichclnkaaDoor
