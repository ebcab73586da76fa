/- The mirror of nfas: what a node is made to. Plain. -/
import Derived.Test.YtkinlcichclnkaaDoorQT5
namespace Go.Proofs.YtkinlcichclnkaaDoor

/-- a place: its set, of which token, what may come behind (bits) -/
structure NPl where
  set : List (Int × Int)
  kind : Int
  fol : Nat
/-- what is built: places; nodes that may be gone through still; is it too much? -/
structure NB where
  out : List NPl
  steps : Int
  full : Bool
/-- a part: first places, last ones (bits); may it be empty? -/
structure NPart where
  first : Nat
  last : Nat
  empty : Bool
def NB.place (kind : Int) (set : List (Int × Int)) (b : NB) : NPart × NB :=
  if (b.full || decide (4096 ≤ b.out.length)) = true then (⟨0, 0, false⟩, { b with full := true })
  else (⟨2 ^ b.out.length, 2 ^ b.out.length, false⟩, { b with out := b.out ++ [⟨set, kind, 0⟩] })
def NPl.more (p : NPl) (c : Nat) : NPl := { p with fol := p.fol ||| c }
/-- the places of a, from i on, may be followed by c -/
def folL (a c : Nat) : Nat → List NPl → List NPl
  | _, [] => []
  | i, p :: r => (if a.testBit i then p.more c else p) :: folL a c (i + 1) r
def NB.follow (a c : Nat) (b : NB) : NB := { b with out := folL a c 0 b.out }
def joinP (x y : NPart) : NPart := ⟨if x.empty then x.first ||| y.first else x.first, if y.empty then x.last ||| y.last else y.last, x.empty && y.empty⟩
def joinN (x y : NPart) (b : NB) : NPart × NB := (joinP x y, b.follow x.last y.first)
def eitherN (x y : NPart) : NPart := ⟨x.first ||| y.first, x.last ||| y.last, x.empty || y.empty⟩
def runesAt (s : ByteArray) : Nat → Nat → List Int
  | 0, _ => []
  | f + 1, p => if p < s.size then ((Utf8.decode s p).1 : Int) :: runesAt s f (p + (Utf8.decode s p).2) else []
def runesOf (s : ByteArray) : List Int := runesAt s s.size 0
section
variable (f : Nd → NB → NPart × NB)
def altsN : List Nd → NPart → NB → NPart × NB
  | [], x, b => (x, b)
  | s :: r, x, b => altsN r (eitherN x (f s b).1) (f s b).2
def seqN : List Nd → NPart → NB → NPart × NB
  | [], x, b => (x, b)
  | s :: r, x, b => seqN r (joinP x (f s b).1) ((f s b).2.follow x.last (f s b).1.first)
def subN : List Nd → NB → NPart × NB
  | [], b => (⟨0, 0, false⟩, b)
  | s :: _, b => f s b
end
def litN (kind : Int) : List Int → NPart → NB → NPart × NB
  | [], x, b => (x, b)
  | r :: l, x, b => litN kind l (joinP x (b.place kind [(r, r)]).1) ((b.place kind [(r, r)]).2.follow x.last (b.place kind [(r, r)]).1.first)
def againN (q : NPart × NB) : NPart × NB := (q.1, q.2.follow q.1.last q.1.first)
/-- a node, made to a part: k is more than the steps that are left -/
def nodeN (lk : ByteArray → Nd) (kind : Int) : Nat → Nd → NB → NPart × NB
  | 0, _, b => (⟨0, 0, true⟩, ⟨b.out, b.steps - 1, true⟩)
  | k + 1, .mk kd nm tx set subs, b =>
    if (decide (b.steps - 1 < 0) || b.full) = true then (⟨0, 0, true⟩, ⟨b.out, b.steps - 1, true⟩)
    else if kd = 0 then altsN (nodeN lk kind k) subs ⟨0, 0, false⟩ ⟨b.out, b.steps - 1, b.full⟩
    else if kd = 1 then seqN (nodeN lk kind k) subs ⟨0, 0, true⟩ ⟨b.out, b.steps - 1, b.full⟩
    else if kd = 8 then litN kind (runesOf tx) ⟨0, 0, true⟩ ⟨b.out, b.steps - 1, b.full⟩
    else if kd = 9 then NB.place kind set ⟨b.out, b.steps - 1, b.full⟩
    else if kd = 6 then nodeN lk kind k (lk nm) ⟨b.out, b.steps - 1, b.full⟩
    else if kd = 2 then (⟨(subN (nodeN lk kind k) subs ⟨b.out, b.steps - 1, b.full⟩).1.first, (subN (nodeN lk kind k) subs ⟨b.out, b.steps - 1, b.full⟩).1.last, true⟩, (subN (nodeN lk kind k) subs ⟨b.out, b.steps - 1, b.full⟩).2)
    else if kd = 3 then (⟨(againN (subN (nodeN lk kind k) subs ⟨b.out, b.steps - 1, b.full⟩)).1.first, (againN (subN (nodeN lk kind k) subs ⟨b.out, b.steps - 1, b.full⟩)).1.last, true⟩, (againN (subN (nodeN lk kind k) subs ⟨b.out, b.steps - 1, b.full⟩)).2)
    else if kd = 4 then againN (subN (nodeN lk kind k) subs ⟨b.out, b.steps - 1, b.full⟩)
    else (⟨0, 0, true⟩, ⟨b.out, b.steps - 1, b.full⟩)
/-- the rules, one behind the other, from number i on -/
def rulesN (lk : ByteArray → Nd) : Nat → List Nd → Nat → Nat → NB → (Nat × Nat) × NB
  | _, [], f, l, b => ((f, l), b)
  | i, n :: r, f, l, b => rulesN lk (i + 1) r (f ||| (nodeN lk i 65537 n b).1.first) (l ||| (nodeN lk i 65537 n b).1.last) (nodeN lk i 65537 n b).2
def Gr.lk (g : Gr) (nm : ByteArray) : Nd := match g.rules.find? (fun r => sameB r.name nm) with
  | some r => r.body
  | none => .mk 0 ⟨#[]⟩ ⟨#[]⟩ [] []
def tokR (r : Rl) : Bool := r.sort == 1 || r.sort == 3
def Gr.toks (g : Gr) : List Rl := g.rules.filter tokR
def Gr.made (g : Gr) : (Nat × Nat) × NB := rulesN g.lk 0 (g.toks.map Rl.body) 0 0 ⟨[], 65536, false⟩

/-! ### bounds -/
theorem folL_len (a c : Nat) : ∀ (i : Nat) (l : List NPl), (folL a c i l).length = l.length
  | _, [] => rfl
  | i, p :: r => by rw [folL, List.length_cons, List.length_cons, folL_len a c (i + 1) r]
theorem folL_get (a c : Nat) : ∀ (l : List NPl) (i j : Nat) (h : j < l.length), (folL a c i l)[j]'(by rw [folL_len]; exact h) = if a.testBit (i + j) then l[j].more c else l[j]
  | p :: r, i, 0, h => rfl
  | p :: r, i, j + 1, h => by
    have := folL_get a c r (i + 1) j (by simpa using h)
    rw [show i + 1 + j = i + (j + 1) by omega] at this
    simpa [folL] using this
/-- places that are there -/
def NPart.In (x : NPart) (n : Nat) : Prop := x.first < 2 ^ n ∧ x.last < 2 ^ n
/-- what is built stays within bounds -/
structure NB.Ok (b : NB) : Prop where
  few : b.out.length ≤ 4096
  fol : ∀ p ∈ b.out, p.fol < 2 ^ b.out.length
theorem NPart.In.mono {x : NPart} {n m : Nat} (h : x.In n) (hm : n ≤ m) : x.In m :=
  ⟨Nat.lt_of_lt_of_le h.1 (Nat.pow_le_pow_right (by omega) hm), Nat.lt_of_lt_of_le h.2 (Nat.pow_le_pow_right (by omega) hm)⟩
theorem NPart.In.zero {e : Bool} {n : Nat} : NPart.In ⟨0, 0, e⟩ n := ⟨Nat.two_pow_pos n, Nat.two_pow_pos n⟩
/-- a step of what is built: more places, no more steps; what was full stays so -/
structure NB.To (b c : NB) : Prop where
  ok : c.Ok
  more : b.out.length ≤ c.out.length
  steps : c.steps ≤ b.steps
  full : b.full = true → c.full = true
theorem NB.To.trans {a b c : NB} (h : a.To b) (k : b.To c) : a.To c := ⟨k.ok, Nat.le_trans h.more k.more, Int.le_trans k.steps h.steps, fun e => k.full (h.full e)⟩
theorem NB.To.refl {b : NB} (h : b.Ok) : b.To b := ⟨h, Nat.le_refl _, Int.le_refl _, id⟩
theorem NB.follow_to {b : NB} (h : b.Ok) {a c : Nat} (hc : c < 2 ^ b.out.length) : b.To (b.follow a c) := by
  refine ⟨⟨?_, fun p hp => ?_⟩, ?_, Int.le_refl _, id⟩
  · unfold NB.follow; dsimp only; rw [folL_len]; exact h.few
  · unfold NB.follow at hp ⊢
    dsimp only at hp ⊢
    rw [folL_len]
    obtain ⟨j, hj, rfl⟩ := List.getElem_of_mem hp
    rw [folL_len] at hj
    rw [folL_get]
    have h1 := h.fol _ (List.getElem_mem hj)
    split
    · exact Nat.or_lt_two_pow h1 hc
    · exact h1
  · unfold NB.follow; dsimp only; rw [folL_len]; exact Nat.le_refl _
theorem joinP_in {x y : NPart} {n : Nat} (hx : x.In n) (hy : y.In n) : (joinP x y).In n := by
  unfold joinP
  refine ⟨?_, ?_⟩
  · dsimp only; split
    · exact Nat.or_lt_two_pow hx.1 hy.1
    · exact hx.1
  · dsimp only; split
    · exact Nat.or_lt_two_pow hx.2 hy.2
    · exact hy.2
theorem eitherN_in {x y : NPart} {n : Nat} (hx : x.In n) (hy : y.In n) : (eitherN x y).In n := ⟨Nat.or_lt_two_pow hx.1 hy.1, Nat.or_lt_two_pow hx.2 hy.2⟩
theorem NB.place_to {b : NB} (h : b.Ok) (kind : Int) (set : List (Int × Int)) : b.To (b.place kind set).2 ∧ (b.place kind set).1.In (b.place kind set).2.out.length := by
  unfold NB.place
  split
  · exact ⟨⟨⟨h.few, h.fol⟩, Nat.le_refl _, Int.le_refl _, fun _ => rfl⟩, NPart.In.zero⟩
  · rename_i hf
    rw [Bool.or_eq_true, decide_eq_true_eq, not_or] at hf
    have hp : 2 ^ b.out.length < 2 ^ (b.out.length + 1) := Nat.pow_lt_pow_right (by omega) (by omega)
    refine ⟨⟨⟨?_, fun p hp' => ?_⟩, ?_, Int.le_refl _, id⟩, ?_⟩
    · simp; omega
    · simp only [List.length_append, List.length_cons, List.length_nil]
      rcases List.mem_append.1 hp' with h1 | h1
      · exact Nat.lt_trans (h.fol _ h1) hp
      · rw [List.mem_singleton.1 h1]; exact Nat.two_pow_pos _
    · simp
    · simp only [List.length_append, List.length_cons, List.length_nil]
      exact ⟨hp, hp⟩
/-- a node's part lies within what is built -/
def StepOk (q : NPart × NB) (b : NB) : Prop := b.To q.2 ∧ q.1.In q.2.out.length
theorem altsN_to {f : Nd → NB → NPart × NB} (hf : ∀ n b, b.Ok → StepOk (f n b) b) : ∀ (l : List Nd) (x : NPart) (b : NB), b.Ok → x.In b.out.length → StepOk (altsN f l x b) b
  | [], x, b, hb, hx => ⟨NB.To.refl hb, hx⟩
  | s :: r, x, b, hb, hx => by
    have h1 := hf s b hb
    have h2 := altsN_to hf r _ _ h1.1.ok (eitherN_in (hx.mono h1.1.more) h1.2)
    exact ⟨h1.1.trans h2.1, h2.2⟩
theorem follow_len (b : NB) (a c : Nat) : (b.follow a c).out.length = b.out.length := by unfold NB.follow; exact folL_len _ _ _ _
theorem seqN_to {f : Nd → NB → NPart × NB} (hf : ∀ n b, b.Ok → StepOk (f n b) b) : ∀ (l : List Nd) (x : NPart) (b : NB), b.Ok → x.In b.out.length → StepOk (seqN f l x b) b
  | [], x, b, hb, hx => ⟨NB.To.refl hb, hx⟩
  | s :: r, x, b, hb, hx => by
    have h1 := hf s b hb
    have h3 := NB.follow_to h1.1.ok (a := x.last) h1.2.1
    have h2 := seqN_to hf r (joinP x (f s b).1) _ h3.ok (by rw [follow_len]; exact joinP_in (hx.mono h1.1.more) h1.2)
    exact ⟨h1.1.trans (h3.trans h2.1), h2.2⟩
theorem litN_to (kind : Int) : ∀ (l : List Int) (x : NPart) (b : NB), b.Ok → x.In b.out.length → StepOk (litN kind l x b) b
  | [], x, b, hb, hx => ⟨NB.To.refl hb, hx⟩
  | r :: l, x, b, hb, hx => by
    have h1 := NB.place_to hb kind [(r, r)]
    have h3 := NB.follow_to h1.1.ok (a := x.last) h1.2.1
    have h2 := litN_to kind l (joinP x (b.place kind [(r, r)]).1) _ h3.ok (by rw [follow_len]; exact joinP_in (hx.mono h1.1.more) h1.2)
    exact ⟨h1.1.trans (h3.trans h2.1), h2.2⟩
theorem subN_to {f : Nd → NB → NPart × NB} (hf : ∀ n b, b.Ok → StepOk (f n b) b) (l : List Nd) (b : NB) (hb : b.Ok) : StepOk (subN f l b) b := by
  cases l with
  | nil => exact ⟨NB.To.refl hb, NPart.In.zero⟩
  | cons s r => exact hf s b hb
theorem againN_to {q : NPart × NB} {b : NB} (h : StepOk q b) : StepOk (againN q) b := by
  have h3 := NB.follow_to h.1.ok (a := q.1.last) h.2.1
  exact ⟨h.1.trans h3, by unfold againN; dsimp only; rw [follow_len]; exact h.2⟩
theorem NPart.In.open {q : NPart} {n : Nat} {e : Bool} (h : q.In n) : NPart.In ⟨q.first, q.last, e⟩ n := h
theorem nodeN_to (lk : ByteArray → Nd) (kind : Int) : ∀ (k : Nat) (n : Nd) (b : NB), b.Ok → StepOk (nodeN lk kind k n b) b
  | 0, _, b, hb => ⟨⟨⟨hb.few, hb.fol⟩, Nat.le_refl _, by unfold nodeN; dsimp only; omega, fun _ => rfl⟩, NPart.In.zero⟩
  | k + 1, .mk kd nm tx set subs, b, hb => by
    have hc : NB.Ok ⟨b.out, b.steps - 1, b.full⟩ := ⟨hb.few, hb.fol⟩
    have ht : b.To ⟨b.out, b.steps - 1, b.full⟩ := ⟨hc, Nat.le_refl _, by dsimp only; omega, id⟩
    have up : ∀ q, StepOk q ⟨b.out, b.steps - 1, b.full⟩ → StepOk q b := fun q h => ⟨ht.trans h.1, h.2⟩
    have hf := nodeN_to lk kind k
    have hs := subN_to hf subs _ hc
    unfold nodeN
    split
    · exact ⟨⟨⟨hb.few, hb.fol⟩, Nat.le_refl _, by dsimp only; omega, fun _ => rfl⟩, NPart.In.zero⟩
    split
    · exact up _ (altsN_to hf _ _ _ hc NPart.In.zero)
    split
    · exact up _ (seqN_to hf _ _ _ hc NPart.In.zero)
    split
    · exact up _ (litN_to kind _ _ _ hc NPart.In.zero)
    split
    · exact up _ (NB.place_to hc kind set)
    split
    · exact up _ (hf _ _ hc)
    split
    · exact up _ ⟨hs.1, hs.2⟩
    split
    · exact up _ ⟨(againN_to hs).1, (againN_to hs).2⟩
    split
    · exact up _ (againN_to hs)
    · exact ⟨ht, NPart.In.zero⟩
end Go.Proofs.YtkinlcichclnkaaDoor

/- Bits, plain: words of 64; the set bits of a number, rising. -/
namespace Go.Proofs.YtkinlcichclnkaaDoor

/-- word i -/
def wd (s i : Nat) : Nat := s / 2 ^ (64 * i) % 2 ^ 64
theorem wd_lt (s i : Nat) : wd s i < 2 ^ 64 := Nat.mod_lt _ (Nat.two_pow_pos _)
theorem wd_bit (s i j : Nat) : (wd s i).testBit j = (decide (j < 64) && s.testBit (64 * i + j)) := by
  unfold wd
  rw [Nat.testBit_mod_two_pow, Nat.testBit_div_two_pow, Nat.add_comm j]
theorem wd_or (a b i : Nat) : wd (a ||| b) i = wd a i ||| wd b i := by
  apply Nat.eq_of_testBit_eq
  intro j
  rw [Nat.testBit_or, wd_bit, wd_bit, wd_bit, Nat.testBit_or]
  cases decide (j < 64) <;> simp
theorem wd_zero (i : Nat) : wd 0 i = 0 := by unfold wd; rw [Nat.zero_div, Nat.zero_mod]
/-- a bit stands in one word -/
theorem wd_pow (n i : Nat) : wd (2 ^ n) i = if i = n / 64 then 2 ^ (n % 64) else 0 := by
  apply Nat.eq_of_testBit_eq
  intro j
  rw [wd_bit, Nat.testBit_two_pow]
  split
  · rename_i h
    rw [Nat.testBit_two_pow]
    by_cases hj : n % 64 = j
    · rw [decide_eq_true (by omega), decide_eq_true (by omega), decide_eq_true hj]; rfl
    · rw [decide_eq_false hj]
      by_cases h2 : n = 64 * i + j
      · rw [decide_eq_false (by omega)]; rfl
      · rw [decide_eq_false h2, Bool.and_false]
  · rename_i h
    rw [Nat.zero_testBit]
    by_cases h2 : n = 64 * i + j
    · rw [decide_eq_false (by omega)]; rfl
    · rw [decide_eq_false h2, Bool.and_false]
/-- word by word: the first j words of q are there -/
theorem wd_step (p q j i : Nat) : wd (p ||| q % 2 ^ (64 * (j + 1))) i = if i = j then wd (p ||| q % 2 ^ (64 * j)) i ||| wd q i else wd (p ||| q % 2 ^ (64 * j)) i := by
  apply Nat.eq_of_testBit_eq
  intro k
  by_cases hk : k < 64
  · split
    · rename_i h
      subst h
      rw [Nat.testBit_or, wd_bit, wd_bit, wd_bit, Nat.testBit_or, Nat.testBit_or, Nat.testBit_mod_two_pow, Nat.testBit_mod_two_pow, decide_eq_true hk, decide_eq_true (show 64 * i + k < 64 * (i + 1) by omega), decide_eq_false (show ¬ 64 * i + k < 64 * i by omega)]
      simp
    · rename_i h
      rw [wd_bit, wd_bit, Nat.testBit_or, Nat.testBit_or, Nat.testBit_mod_two_pow, Nat.testBit_mod_two_pow]
      have e : decide (64 * i + k < 64 * (j + 1)) = decide (64 * i + k < 64 * j) := decide_eq_decide.2 (by omega)
      rw [e]
  · have h : ∀ s i, (wd s i).testBit k = false := fun s i => by rw [wd_bit, decide_eq_false hk]; rfl
    split
    · rw [Nat.testBit_or, h, h, h]; rfl
    · rw [h, h]

/-! ### set bits, rising -/
def bitsN (n w : Nat) : List Nat := (List.range n).filter w.testBit
theorem bits_mem {n w j : Nat} : j ∈ bitsN n w ↔ j < n ∧ w.testBit j = true := by unfold bitsN; rw [List.mem_filter, List.mem_range]
theorem bits_zero (n : Nat) : bitsN n 0 = [] := by
  unfold bitsN
  rw [List.filter_eq_nil_iff]
  intro j _
  rw [Nat.zero_testBit]
  simp
theorem bits_rise (n w : Nat) : (bitsN n w).Pairwise (· < ·) := List.Pairwise.filter _ List.pairwise_lt_range
theorem rise_same : ∀ {u v : List Nat}, u.Pairwise (· < ·) → v.Pairwise (· < ·) → (∀ x, x ∈ u ↔ x ∈ v) → u = v
  | [], [], _, _, _ => rfl
  | [], y :: v, _, _, h => absurd ((h y).2 (List.mem_cons_self ..)) (by simp)
  | x :: u, [], _, _, h => absurd ((h x).1 (List.mem_cons_self ..)) (by simp)
  | x :: u, y :: v, hu, hv, h => by
    obtain ⟨u1, u2⟩ := List.pairwise_cons.1 hu
    obtain ⟨v1, v2⟩ := List.pairwise_cons.1 hv
    have e : x = y := by
      rcases List.mem_cons.1 ((h x).1 (List.mem_cons_self ..)) with e | hx
      · exact e
      · rcases List.mem_cons.1 ((h y).2 (List.mem_cons_self ..)) with e | hy
        · exact e.symm
        · have := v1 x hx
          have := u1 y hy
          omega
    subst e
    rw [rise_same u2 v2 fun z => ?_]
    have hz := h z
    rw [List.mem_cons, List.mem_cons] at hz
    constructor
    · intro hm
      rcases hz.1 (.inr hm) with rfl | h
      · have := u1 z hm; omega
      · exact h
    · intro hm
      rcases hz.2 (.inr hm) with rfl | h
      · have := v1 z hm; omega
      · exact h
/-- the lowest bit that is set -/
structure Low (w t : Nat) : Prop where
  set : w.testBit t = true
  below : ∀ j, j < t → w.testBit j = false
theorem low_there {w : Nat} (h : w ≠ 0) : ∃ t, Low w t := by
  have hx : ∃ t, w.testBit t = true := Nat.exists_testBit_of_ne_zero h
  obtain ⟨t, ht⟩ := hx
  induction t using Nat.strongRecOn with
  | _ t ih =>
    by_cases hc : ∃ j, j < t ∧ w.testBit j = true
    · obtain ⟨j, h1, h2⟩ := hc
      exact ih j h1 h2
    · refine ⟨t, ht, fun j hj => ?_⟩
      cases hb : w.testBit j
      · rfl
      · exact absurd ⟨j, hj, hb⟩ hc
theorem low_form {w t : Nat} (h : Low w t) : ∃ k, w = 2 ^ t * (2 * k + 1) := by
  have hm : w % 2 ^ t = 0 := by
    apply Nat.eq_of_testBit_eq
    intro j
    rw [Nat.testBit_mod_two_pow, Nat.zero_testBit]
    by_cases hj : j < t
    · rw [h.below j hj, Bool.and_false]
    · rw [decide_eq_false hj]; rfl
  have ho : (w / 2 ^ t) % 2 = 1 := by
    have := h.set
    rw [Nat.testBit_eq_decide_div_mod_eq, decide_eq_true_eq] at this
    exact this
  refine ⟨w / 2 ^ t / 2, ?_⟩
  have e : 2 * (w / 2 ^ t / 2) + 1 = w / 2 ^ t := by omega
  rw [e]
  have := Nat.div_add_mod w (2 ^ t)
  omega
/-- one is taken away: the lowest bit goes -/
theorem low_next {w t : Nat} (h : Low w t) (j : Nat) : (w &&& (w - 1)).testBit j = (w.testBit j && decide (j ≠ t)) := by
  obtain ⟨k, hk⟩ := low_form h
  have hp := Nat.two_pow_pos t
  have h1 : w - 1 = 2 ^ t * (2 * k) + (2 ^ t - 1) := by
    rw [hk, Nat.mul_add, Nat.mul_one]
    omega
  have h2 : w = 2 ^ t * (2 * k + 1) + 0 := by rw [hk]; omega
  rw [Nat.testBit_and]
  by_cases hj : j < t
  · rw [h.below j hj]; rfl
  · have e1 : (w - 1).testBit j = (2 * k).testBit (j - t) := by
      rw [h1, Nat.testBit_two_pow_mul_add _ (by omega), if_neg hj]
    have e2 : w.testBit j = (2 * k + 1).testBit (j - t) := by
      conv => lhs; rw [h2]
      rw [Nat.testBit_two_pow_mul_add _ hp, if_neg hj]
    rw [e1, e2]
    rcases Nat.eq_zero_or_pos (j - t) with hz | hz
    · have : j = t := by omega
      subst this
      simp
    · obtain ⟨i, hi⟩ : ∃ i, j - t = i + 1 := ⟨j - t - 1, by omega⟩
      rw [hi, Nat.testBit_succ, Nat.testBit_succ, decide_eq_true (show j ≠ t by omega), Bool.and_true, show 2 * k / 2 = k by omega, show (2 * k + 1) / 2 = k by omega, Bool.and_self]
theorem bits_next {n w t : Nat} (h : Low w t) (ht : t < n) : bitsN n w = t :: bitsN n (w &&& (w - 1)) := by
  refine rise_same (bits_rise n w) (List.pairwise_cons.2 ⟨fun x hx => ?_, bits_rise n _⟩) fun x => ?_
  · obtain ⟨h1, h2⟩ := bits_mem.1 hx
    rw [low_next h, Bool.and_eq_true, decide_eq_true_eq] at h2
    rcases Nat.lt_trichotomy x t with hl | hl | hl
    · rw [h.below x hl] at h2; exact absurd h2.1 (by simp)
    · exact absurd hl h2.2
    · exact hl
  · rw [bits_mem, List.mem_cons, bits_mem, low_next h, Bool.and_eq_true, decide_eq_true_eq]
    constructor
    · rintro ⟨h1, h2⟩
      by_cases e : x = t
      · exact .inl e
      · exact .inr ⟨h1, h2, e⟩
    · rintro (rfl | ⟨h1, h2, _⟩)
      · exact ⟨ht, h.set⟩
      · exact ⟨h1, h2⟩
/-- word by word -/
theorem bits_words (s : Nat) : ∀ m, bitsN (64 * m) s = ((List.range m).map fun i => (bitsN 64 (wd s i)).map (64 * i + ·)).flatten
  | 0 => rfl
  | m + 1 => by
    rw [List.range_succ, List.map_append, List.flatten_append, ← bits_words s m]
    refine rise_same (bits_rise _ _) (List.pairwise_append.2 ⟨bits_rise _ _, ?_, fun x hx y hy => ?_⟩) fun x => ?_
    · simp only [List.map_cons, List.map_nil, List.flatten_cons, List.flatten_nil, List.append_nil]
      exact (bits_rise 64 _).map _ fun a b h => by omega
    · have h1 := (bits_mem.1 hx).1
      simp only [List.map_cons, List.map_nil, List.flatten_cons, List.flatten_nil, List.append_nil, List.mem_map] at hy
      obtain ⟨z, _, rfl⟩ := hy
      omega
    · simp only [List.map_cons, List.map_nil, List.flatten_cons, List.flatten_nil, List.append_nil, List.mem_append, List.mem_map, bits_mem, wd_bit]
      constructor
      · rintro ⟨h1, h2⟩
        by_cases hx : x < 64 * m
        · exact .inl ⟨hx, h2⟩
        · refine .inr ⟨x - 64 * m, ⟨by omega, ?_⟩, by omega⟩
          rw [decide_eq_true (show x - 64 * m < 64 by omega), show 64 * m + (x - 64 * m) = x by omega, h2]
          rfl
      · rintro (⟨h1, h2⟩ | ⟨z, ⟨h1, h2⟩, rfl⟩)
        · exact ⟨by omega, h2⟩
        · rw [Bool.and_eq_true] at h2
          exact ⟨by omega, h2.2⟩
end Go.Proofs.YtkinlcichclnkaaDoor
