/- How far the count of steps goes down; what is asked of nodes. Plain. -/
import Derived.Test.YtkinlcichclnkaaDoorQT6
import Derived.Test.YtkinlcichclnkaaDoorQT12
import Derived.Test.YtkinlcichclnkaaDoorQT8
import Derived.Test.YtkinlcichclnkaaDoorQT3
import Derived.Test.YtkinlcichclnkaaDoorQT2
import Derived.Test.YtkinlcichclnkaaDoorQT4
namespace Go.Proofs.YtkinlcichclnkaaDoor

/-- what is asked of a node: small, and what it names is there -/
structure NdFit (g : Gr) (n : Nd) : Prop where
  set : ∀ m ∈ n.all, m.set.length ≤ 3000
  subs : ∀ m ∈ n.all, m.subs.length ≤ 3000
  text : ∀ m ∈ n.all, m.text.size ≤ 3000
  tok : ∀ m ∈ n.all, m.kind = 6 → 0 ≤ g.find m.name
theorem allL_mem {m : Nd} : ∀ {l : List Nd}, m ∈ Nd.allL l ↔ ∃ n ∈ l, m ∈ n.all
  | [] => by rw [Nd.allL]; simp
  | x :: r => by
    rw [Nd.allL, List.mem_append, allL_mem (l := r)]
    simp
theorem NdFit.sub {g : Gr} {k : Int} {nm tx : ByteArray} {set : List (Int × Int)} {subs : List Nd} (h : NdFit g (.mk k nm tx set subs)) {s : Nd} (hs : s ∈ subs) : NdFit g s := by
  have hm : ∀ m ∈ s.all, m ∈ (Nd.mk k nm tx set subs).all := fun m hm => by
    rw [Nd.all]
    exact List.mem_cons_of_mem _ (allL_mem.2 ⟨s, hs, hm⟩)
  exact ⟨fun m h1 => h.set m (hm m h1), fun m h1 => h.subs m (hm m h1), fun m h1 => h.text m (hm m h1), fun m h1 => h.tok m (hm m h1)⟩
/-- of all rules -/
structure GrFit (g : Gr) : Prop where
  len : g.rules.length ≤ 1000
  rule : ∀ i (h : i < g.rules.length), NdFit g g.rules[i].body
theorem NdFit.none (g : Gr) : NdFit g (.mk 0 ⟨#[]⟩ ⟨#[]⟩ [] []) := by
  have h : ∀ m ∈ (Nd.mk 0 ⟨#[]⟩ ⟨#[]⟩ [] []).all, m = .mk 0 ⟨#[]⟩ ⟨#[]⟩ [] [] := fun m hm => by
    rw [Nd.all, Nd.allL] at hm
    simpa using hm
  exact ⟨fun m hm => by rw [h m hm]; decide, fun m hm => by rw [h m hm]; decide, fun m hm => by rw [h m hm]; decide, fun m hm e => by rw [h m hm] at e; cases e⟩
theorem ixOf_find {α : Type} (l : List α) (q : α → Bool) : (∀ j (h : j < l.length), ixOf l q = (j : Int) → l.find? q = some l[j]) := by
  intro j h e
  rcases ixOf_cases l q with ⟨h1, _⟩ | ⟨i, hi, h1, h2, h3⟩
  · omega
  · obtain rfl : i = j := by omega
    rw [List.find?_eq_some_iff_getElem]
    exact ⟨h2, i, hi, rfl, fun k hk => by rw [h3 k (by omega) hk]; rfl⟩
theorem Gr.lk_at {g : Gr} {nm : ByteArray} {j : Nat} (h : j < g.rules.length) (e : g.find nm = (j : Int)) : g.lk nm = g.rules[j].body := by
  unfold Gr.lk
  rw [ixOf_find g.rules (fun r => sameB r.name nm) j h e]
theorem Gr.find_lt {g : Gr} {nm : ByteArray} (h : 0 ≤ g.find nm) : ∃ j, j < g.rules.length ∧ g.find nm = (j : Int) := by
  unfold Gr.find at h ⊢
  rcases ixOf_cases g.rules (fun r => sameB r.name nm) with ⟨h1, _⟩ | ⟨i, hi, h1, _⟩
  · omega
  · exact ⟨i, hi, h1⟩
theorem GrFit.lk {g : Gr} (h : GrFit g) (nm : ByteArray) : NdFit g (g.lk nm) := by
  unfold Gr.lk
  cases e : g.rules.find? (fun r => sameB r.name nm) with
  | none => exact NdFit.none g
  | some r =>
    obtain ⟨i, hi, rfl⟩ := List.getElem_of_mem (List.mem_of_find?_eq_some e)
    exact h.rule i hi

/-- the count of steps, with what may come yet -/
def NB.hgt (b : NB) : Int := b.steps - 3000 * max b.steps 0
def Low1 (b c : NB) : Prop := b.hgt - 1 ≤ c.hgt
theorem hgt_place (kind : Int) (set : List (Int × Int)) (b : NB) : (b.place kind set).2.hgt = b.hgt := by
  unfold NB.place NB.hgt
  split <;> rfl
theorem hgt_follow (a c : Nat) (b : NB) : (b.follow a c).hgt = b.hgt := rfl
theorem altsN_low {f : Nd → NB → NPart × NB} : ∀ (l : List Nd) (_ : ∀ n ∈ l, ∀ b, Low1 b (f n b).2) (x : NPart) (b : NB), b.hgt - (l.length : Int) ≤ (altsN f l x b).2.hgt
  | [], _, x, b => by unfold altsN; simp
  | s :: r, hf, x, b => by
    have h1 := hf s (List.mem_cons_self ..) b
    have h2 := altsN_low r (fun n hn => hf n (List.mem_cons_of_mem _ hn)) (eitherN x (f s b).1) (f s b).2
    unfold altsN
    unfold Low1 at h1
    simp only [List.length_cons]
    omega
theorem seqN_low {f : Nd → NB → NPart × NB} : ∀ (l : List Nd) (_ : ∀ n ∈ l, ∀ b, Low1 b (f n b).2) (x : NPart) (b : NB), b.hgt - (l.length : Int) ≤ (seqN f l x b).2.hgt
  | [], _, x, b => by unfold seqN; simp
  | s :: r, hf, x, b => by
    have h1 := hf s (List.mem_cons_self ..) b
    have h2 := seqN_low r (fun n hn => hf n (List.mem_cons_of_mem _ hn)) (joinP x (f s b).1) ((f s b).2.follow x.last (f s b).1.first)
    rw [hgt_follow] at h2
    unfold seqN
    unfold Low1 at h1
    simp only [List.length_cons]
    omega
theorem litN_low (kind : Int) : ∀ (l : List Int) (x : NPart) (b : NB), (litN kind l x b).2.hgt = b.hgt
  | [], x, b => rfl
  | r :: l, x, b => by
    unfold litN
    rw [litN_low kind l, hgt_follow, hgt_place]
theorem subN_low {f : Nd → NB → NPart × NB} (l : List Nd) (hf : ∀ n ∈ l, ∀ b, Low1 b (f n b).2) (b : NB) : Low1 b (subN f l b).2 := by
  cases l with
  | nil => unfold subN Low1; dsimp only; omega
  | cons s r => exact hf s (List.mem_cons_self ..) b
theorem hgt_dec (b : NB) : b.hgt - 1 ≤ NB.hgt ⟨b.out, b.steps - 1, b.full⟩ := by
  unfold NB.hgt
  dsimp only
  omega
theorem hgt_open {b : NB} (h : ¬ b.steps - 1 < 0) : NB.hgt ⟨b.out, b.steps - 1, b.full⟩ = b.hgt + 2999 := by
  unfold NB.hgt
  dsimp only
  omega
theorem nodeN_low {g : Gr} (hg : GrFit g) (kind : Int) : ∀ (k : Nat) (n : Nd), NdFit g n → ∀ b, Low1 b (nodeN g.lk kind k n b).2
  | 0, n, hn, b => by unfold nodeN; exact hgt_dec b
  | k + 1, .mk kd nm tx set subs, hn, b => by
    have hl : subs.length ≤ 3000 := hn.subs _ (all_self _)
    have hf : ∀ n ∈ subs, ∀ b, Low1 b (nodeN g.lk kind k n b).2 := fun n h => nodeN_low hg kind k n (hn.sub h)
    unfold nodeN
    split
    · exact hgt_dec b
    · rename_i hc
      rw [Bool.or_eq_true, decide_eq_true_eq, not_or] at hc
      have ho := hgt_open hc.1
      have hs := subN_low subs hf ⟨b.out, b.steps - 1, b.full⟩
      unfold Low1 at hs ⊢
      split
      · have := altsN_low subs hf ⟨0, 0, false⟩ ⟨b.out, b.steps - 1, b.full⟩
        omega
      split
      · have := seqN_low subs hf ⟨0, 0, true⟩ ⟨b.out, b.steps - 1, b.full⟩
        omega
      split
      · rw [litN_low]; omega
      split
      · rw [hgt_place]; omega
      split
      · have := nodeN_low hg kind k (g.lk nm) (hg.lk nm) ⟨b.out, b.steps - 1, b.full⟩
        unfold Low1 at this
        omega
      split
      · dsimp only; omega
      split
      · dsimp only; unfold againN; dsimp only; rw [hgt_follow]; omega
      split
      · unfold againN; dsimp only; rw [hgt_follow]; omega
      · dsimp only; omega
end Go.Proofs.YtkinlcichclnkaaDoor

/- All rules, one behind the other: each goes along just its texts. Plain. -/
namespace Go.Proofs.YtkinlcichclnkaaDoor

theorem rulesN_full (lk : ByteArray → Nd) : ∀ (ns : List Nd) (i f s : Nat) (b : NB), (rulesN lk i ns f s b).2.full = false → b.full = false
  | [], _, _, _, _, h => h
  | n :: r, i, _, _, b, h => nodeN_full lk i 65537 n b (rulesN_full lk r (i + 1) _ _ _ h)
structure RulesOk (lk : ByteArray → Nd) (i : Nat) (ns : List Nd) (f s : Nat) (b : NB) (F S : Nat) (c : NB) : Prop where
  len : b.out.length ≤ c.out.length
  same : ∀ p, p < b.out.length → c.out[p]? = b.out[p]?
  bits : ∀ p, p < b.out.length → F.testBit p = f.testBit p ∧ S.testBit p = s.testBit p
  fin : F < 2 ^ c.out.length ∧ S < 2 ^ c.out.length
  kinds : ∀ p pl, b.out.length ≤ p → c.out[p]? = some pl → ∃ m, m < ns.length ∧ pl.kind = ((i + m : Nat) : Int)
  fol : ∀ p pl, b.out.length ≤ p → c.out[p]? = some pl → ∀ q, pl.fol.testBit q = true → ∃ ql, b.out.length ≤ q ∧ c.out[q]? = some ql ∧ ql.kind = pl.kind
  lang : ∀ m (h : m < ns.length) u, u ≠ [] → (Tx lk ns[m] u ↔ ∃ p z pl, b.out.length ≤ p ∧ F.testBit p = true ∧ c.out[p]? = some pl ∧ pl.kind = ((i + m : Nat) : Int) ∧ S.testBit z = true ∧ Run c.out p u z)
theorem bit_lt {x n p : Nat} (h : x < 2 ^ n) (hp : n ≤ p) : x.testBit p = false := Nat.testBit_lt_two_pow (Nat.lt_of_lt_of_le h (Nat.pow_le_pow_right (by decide) hp))
theorem rules_ok (lk : ByteArray → Nd) : ∀ (ns : List Nd) (i f s : Nat) (b : NB), b.Ok → f < 2 ^ b.out.length → s < 2 ^ b.out.length → (rulesN lk i ns f s b).2.full = false →
    RulesOk lk i ns f s b (rulesN lk i ns f s b).1.1 (rulesN lk i ns f s b).1.2 (rulesN lk i ns f s b).2
  | [], i, f, s, b, hb, hf, hs, _ => by
    refine ⟨Nat.le_refl _, fun _ _ => rfl, fun _ _ => ⟨rfl, rfl⟩, ⟨hf, hs⟩, fun p pl hp h => ?_, fun p pl hp h => ?_, fun m h => absurd h (by simp)⟩
    · have := (List.getElem?_eq_some_iff.1 h).1
      exact absurd this (by unfold rulesN; dsimp only; omega)
    · have := (List.getElem?_eq_some_iff.1 h).1
      exact absurd this (by unfold rulesN; dsimp only; omega)
  | n :: r, i, f, s, b, hb, hf, hs, hfull => by
    rw [rulesN] at hfull ⊢
    have hst := nodeN_to lk (i : Int) 65537 n b hb
    have hdf := rulesN_full lk r (i + 1) _ _ _ hfull
    have P := node_part lk (i : Int) 65537 n b hdf
    generalize hx : nodeN lk (i : Int) 65537 n b = q at *
    obtain ⟨x, d⟩ := q
    dsimp only at hst hdf P hfull ⊢
    obtain ⟨hto, hin⟩ := hst
    have hpow : 2 ^ b.out.length ≤ 2 ^ d.out.length := Nat.pow_le_pow_right (by decide) P.len
    have hf' : f ||| x.first < 2 ^ d.out.length := Nat.or_lt_two_pow (Nat.lt_of_lt_of_le hf hpow) hin.1
    have hs' : s ||| x.last < 2 ^ d.out.length := Nat.or_lt_two_pow (Nat.lt_of_lt_of_le hs hpow) hin.2
    have I := rules_ok lk r (i + 1) (f ||| x.first) (s ||| x.last) d hto.ok hf' hs' hfull
    generalize rulesN lk (i + 1) r (f ||| x.first) (s ||| x.last) d = w at *
    obtain ⟨⟨F, S⟩, c⟩ := w
    dsimp only at I hfull ⊢
    have own : ∀ p pl, b.out.length ≤ p → p < d.out.length → c.out[p]? = some pl → d.out[p]? = some pl ∧ pl.kind = (i : Int) := fun p pl h1 h2 h3 => by
      rw [I.same p h2] at h3
      exact ⟨h3, (P.fol p pl h1 h3).2⟩
    have up : Subs8 d.out c.out fun p => b.out.length ≤ p ∧ p < d.out.length := fun k pl hk hp => ⟨pl, by rw [I.same k hk.2]; exact hp, rfl, fun q hq => ⟨hq, (P.fol k pl hk.1 hp).1 q hq⟩⟩
    have down : Subs8 c.out d.out fun p => b.out.length ≤ p ∧ p < d.out.length := fun k pl hk hp => by
      rw [I.same k hk.2] at hp
      exact ⟨pl, hp, rfl, fun q hq => ⟨hq, (P.fol k pl hk.1 hp).1 q hq⟩⟩
    refine ⟨Nat.le_trans P.len I.len, fun p hp => ?_, fun p hp => ?_, I.fin, fun p pl hp h => ?_, fun p pl hp h q hq => ?_, fun m hm u hu => ?_⟩
    · rw [I.same p (Nat.lt_of_lt_of_le hp P.len), P.same p hp]
    · have h1 := I.bits p (Nat.lt_of_lt_of_le hp P.len)
      rw [h1.1, h1.2, Nat.testBit_or, Nat.testBit_or]
      have h2 : x.first.testBit p = false := by
        cases h : x.first.testBit p with
        | false => rfl
        | true => have := (P.first p h).1; omega
      have h3 : x.last.testBit p = false := by
        cases h : x.last.testBit p with
        | false => rfl
        | true => have := (P.last p h).1; omega
      rw [h2, h3, Bool.or_false, Bool.or_false]
      exact ⟨rfl, rfl⟩
    · by_cases h2 : p < d.out.length
      · exact ⟨0, by simp, (own p pl hp h2 h).2⟩
      · obtain ⟨m, h3, h4⟩ := I.kinds p pl (by omega) h
        exact ⟨m + 1, by simpa using h3, by rw [h4]; congr 1; omega⟩
    · by_cases h2 : p < d.out.length
      · obtain ⟨h3, h4⟩ := own p pl hp h2 h
        obtain ⟨h5, h6⟩ := (P.fol p pl hp h3).1 q hq
        have h7 : c.out[q]? = some d.out[q] := by rw [I.same q h6, List.getElem?_eq_getElem h6]
        exact ⟨_, h5, h7, by rw [(own q _ h5 h6 h7).2, h4]⟩
      · obtain ⟨ql, h3, h4, h5⟩ := I.fol p pl (by omega) h q hq
        exact ⟨ql, Nat.le_trans P.len h3, h4, h5⟩
    · cases m with
      | zero =>
        rw [List.getElem_cons_zero, P.lang u hu]
        constructor
        · rintro ⟨p, z, h1, h2, h3⟩
          obtain ⟨h4, h5⟩ := P.first p h1
          obtain ⟨h6, h7⟩ := P.last z h2
          have h8 := (h3.mono up ⟨h4, h5⟩).1
          have h9 : c.out[p]? = some d.out[p] := by rw [I.same p h5, List.getElem?_eq_getElem h5]
          refine ⟨p, z, _, h4, ?_, h9, (own p _ h4 h5 h9).2, ?_, h8⟩
          · rw [(I.bits p h5).1, Nat.testBit_or, h1, Bool.or_true]
          · rw [(I.bits z h7).2, Nat.testBit_or, h2, Bool.or_true]
        · rintro ⟨p, z, pl, h1, h2, h3, h4, h5, h6⟩
          have hpd : p < d.out.length := by
            rcases Nat.lt_or_ge p d.out.length with h | h
            · exact h
            · obtain ⟨m, -, h8⟩ := I.kinds p pl h h3
              rw [h4] at h8
              omega
          obtain ⟨h7, h8⟩ := h6.mono down ⟨h1, hpd⟩
          refine ⟨p, z, ?_, ?_, h7⟩
          · rw [(I.bits p hpd).1, Nat.testBit_or, bit_lt hf h1, Bool.false_or] at h2
            exact h2
          · rw [(I.bits z h8.2).2, Nat.testBit_or, bit_lt hs h8.1, Bool.false_or] at h5
            exact h5
      | succ m =>
        have hm' : m < r.length := by simpa using hm
        rw [List.getElem_cons_succ, I.lang m hm' u hu]
        have e : ((i + 1 + m : Nat) : Int) = ((i + (m + 1) : Nat) : Int) := by congr 1; omega
        constructor
        · rintro ⟨p, z, pl, h1, h2⟩
          rw [e] at h2
          exact ⟨p, z, pl, Nat.le_trans P.len h1, h2⟩
        · rintro ⟨p, z, pl, h1, h2, h3, h4, h5⟩
          have hpd : d.out.length ≤ p := by
            rcases Nat.lt_or_ge p d.out.length with h | h
            · have := (own p pl h1 h h3).2
              rw [h4] at this
              omega
            · exact h
          rw [← e] at h4
          exact ⟨p, z, pl, hpd, h2, h3, h4, h5⟩
end Go.Proofs.YtkinlcichclnkaaDoor

/- Sets of places, as arrays of 64 words. -/
namespace Go.Proofs.YtkinlcichclnkaaDoor
open Go.RowKit

theorem wrap_u64 {n : Int} (h0 : 0 ≤ n) (h1 : n < 18446744073709551616) : IntKind.u64.wrap n = n := by
  have hm : n % 18446744073709551616 = n := by omega
  unfold IntKind.wrap
  simp [IntKind.bits, IntKind.signed, hm]
theorem bits_or {a b : Nat} (ha : a < 2 ^ 64) (hb : b < 2 ^ 64) : bits .or .u64 (a : Int) (b : Int) = ((a ||| b : Nat) : Int) := by
  have hor : a ||| b < 18446744073709551616 := Nat.or_lt_two_pow ha hb
  have e : (BitVec.ofInt 64 (a : Int) ||| BitVec.ofInt 64 (b : Int)).toNat = a ||| b := by
    rw [BitVec.toNat_or, BitVec.ofInt_natCast, BitVec.ofInt_natCast, BitVec.toNat_ofNat, BitVec.toNat_ofNat, Nat.mod_eq_of_lt ha, Nat.mod_eq_of_lt hb]
  have h : bits .or .u64 (a : Int) (b : Int) = IntKind.u64.wrap (((BitVec.ofInt 64 (a : Int) ||| BitVec.ofInt 64 (b : Int)).toNat : Nat) : Int) := rfl
  rw [h, e, wrap_u64 (by omega) (by omega)]
def wdL (s : Nat) : List Value := (List.range 64).map fun i => .int .u64 ((wd s i : Nat) : Int)
theorem wdL_len (s : Nat) : (wdL s).length = 64 := by unfold wdL; rw [List.length_map, List.length_range]
theorem wdL_get (s : Nat) {i : Nat} (hi : i < 64) : (wdL s)[i]? = some (.int .u64 ((wd s i : Nat) : Int)) := by
  unfold wdL
  rw [List.getElem?_map, List.getElem?_range hi]
  rfl
theorem wdL_one (s : Nat) : ∀ u ∈ wdL s, u.oneCell' = true := by
  intro u hu
  unfold wdL at hu
  obtain ⟨i, _, rfl⟩ := List.mem_map.1 hu
  rfl
theorem wdL_all (s : Nat) : (wdL s).toArray.all (·.oneCell') = true := Array.all_eq_true_iff_forall_mem.2 fun u hu => wdL_one s u (by simpa using hu)
theorem wdL_ext {l : List Value} {s : Nat} (hl : l.length = 64) (h : ∀ i, i < 64 → l[i]? = some (.int .u64 ((wd s i : Nat) : Int))) : l = wdL s := by
  apply List.ext_getElem?
  intro j
  by_cases hj : j < 64
  · rw [h j hj, wdL_get _ hj]
  · rw [List.getElem?_eq_none (by omega), List.getElem?_eq_none (by rw [wdL_len]; omega)]
/-- one word more -/
theorem wdL_step (p q j : Nat) : (wdL (p ||| q % 2 ^ (64 * j))).set j (.int .u64 ((wd (p ||| q % 2 ^ (64 * j)) j ||| wd q j : Nat) : Int)) = wdL (p ||| q % 2 ^ (64 * (j + 1))) := by
  refine wdL_ext (by rw [List.length_set, wdL_len]) fun i hi => ?_
  rw [List.getElem?_set, wd_step]
  by_cases e : j = i
  · subst e
    rw [if_pos rfl, if_pos (by rw [wdL_len]; exact hi), if_pos rfl]
  · rw [if_neg e, if_neg (fun h => e h.symm), wdL_get _ hi]
/-- one bit -/
theorem wdL_bit (n : Nat) : (wdL 0).set (n / 64) (.int .u64 ((2 ^ (n % 64) : Nat) : Int)) = wdL (2 ^ n) := by
  refine wdL_ext (by rw [List.length_set, wdL_len]) fun i hi => ?_
  rw [List.getElem?_set, wd_pow]
  by_cases e : n / 64 = i
  · rw [if_pos e, if_pos (by rw [wdL_len]; omega), if_pos e.symm]
  · rw [if_neg e, if_neg (fun h => e h.symm), wdL_get _ hi, wd_zero]
theorem wdL_zero : wdL 0 = List.replicate 64 (.int .u64 0) := by
  refine (wdL_ext (by rw [List.length_replicate]) fun i hi => ?_).symm
  rw [List.getElem?_replicate, if_pos hi, wd_zero]
  rfl
def wdV (s : Nat) : Value := .agg (wdL s).toArray
theorem some_info : (Tryd.prog.info? 65).map (·.size) = some 64 := by kernel_rfl
theorem some_size (s : Nat) : (Tryd.prog.info? 65).map (·.size) = some (wdL s).toArray.size := by
  rw [some_info, List.size_toArray, wdL_len]
/-- a set is read whole -/
theorem wpList_load_some {ops : Array Oper} {rest : List Oper} {o : Oper} {a : Act} {w : World} {Q : Exit → Act → World → Prop} {q b : Nat} (hO : Owns w b (wdL q) 65) (hgd : o.guard = none) (x : Operand) (ho : o.op = .load 65 x)
    (hx : a.eval x = .pointer (some ⟨b, 0, none⟩)) (h : wpList Tryd.prog ops Q rest (a.put o.dst (wdV q)) w) : wpList Tryd.prog ops Q (o :: rest) a w :=
  wpList_load_row hgd 65 x ho b hx 65 _ (0, 0) _ hO Tryd.underlying65 rfl (some_size q) h
/-- .. and written -/
theorem wpList_store_some {ops : Array Oper} {rest : List Oper} {o : Oper} {a : Act} {w : World} {Q : Exit → Act → World → Prop} {q p b : Nat} (hO : Owns w b (wdL q) 65) (hgd : o.guard = none) (x y : Operand) (ho : o.op = .store 65 x y)
    (hx : a.eval x = .pointer (some ⟨b, 0, none⟩)) (hy : a.eval y = wdV p) (h : ∀ w', Owns w' b (wdL p) 65 → But (fun k => k = b) w w' → wpList Tryd.prog ops Q rest (a.put o.dst undef) w') : wpList Tryd.prog ops Q (o :: rest) a w :=
  wpList_store_row hgd 65 x y ho b (wdL p).toArray hx hy 65 _ hO (some_size p) (by rw [List.size_toArray, List.size_toArray, wdL_len, wdL_len]) (wdL_all p)
    (h _ (setRow_heap w b _ _ 65 _ hO) ⟨rfl, rfl, rfl, by simp, fun k _ hk => setRow_other w b k _ hk⟩)
theorem ret_some {fn : Func} {p : Tmp} (h : fn.results = #[.cell p 65]) (tmps : Array Value) {w : World} {b q : Nat} (hO : Owns w b (wdL q) 65) (hp : tmps.getD p undef = .pointer (some ⟨b, 0, none⟩)) :
    (results fn tmps).run Tryd.prog w = .ok (wdV q) w :=
  results_cell_row h tmps w b 65 _ (0, 0) _ hp hO Tryd.underlying65 rfl (some_size q)
theorem set_but {w : World} {b T i : Nat} {cs : List Value} {v : Value} (h : Owns w b cs T) : But (fun q => q = b) w (w.setCell ⟨b, i, none⟩ v) := by
  rw [setCell_put h]
  exact But.put (F := fun q => q = b) rfl
theorem But.row {F : Nat → Prop} {w w' : World} {base : Nat} {e : TypeId} {size : Nat} {v : Value} {n : Nat} {xs : List Value} (h : But F w w') (hr : looseRow w base e size v n xs) (hn : ∀ k, v.ownBlock = some k → ¬F k) : looseRow w' base e size v n xs := by
  refine ⟨hr.1, hr.2.imp id ?_⟩
  rintro ⟨g, cap, cur, rfl, h2, h3, h4⟩
  exact ⟨g, cap, cur, rfl, h2, by rw [h.block g (Array.getElem?_eq_some_iff.1 h3).1 (hn g rfl)]; exact h3, h4⟩
theorem row_type {w : World} {base : Nat} {e : TypeId} {size : Nat} {v : Value} {n : Nat} {xs : List Value} (hr : looseRow w base e size v n xs) {k : Nat} (hk : v.ownBlock = some k) : base ≤ k ∧ k < w.heap.size ∧ ∃ cur, w.heap[k]? = some (.cells cur e (0, 0)) := by
  rcases hr.2 with ⟨rfl, _⟩ | ⟨g, cap, cur, rfl, h2, h3, _⟩
  · simp [Value.ownBlock] at hk
  · simp only [Value.ownBlock, Option.some.injEq] at hk
    subst hk
    exact ⟨h2, (Array.getElem?_eq_some_iff.1 h3).1, cur, h3⟩
theorem owns_type {w : World} {b T : Nat} {cs : List Value} (h : Owns w b cs T) : ∃ cur, w.heap[b]? = some (.cells cur T (0, 0)) := ⟨_, h⟩
theorem type_ne {w : World} {b c T U : Nat} (h : ∃ cur, w.heap[b]? = some (.cells cur T (0, 0))) (k : ∃ cur, w.heap[c]? = some (.cells cur U (0, 0))) (hT : T ≠ U) : b ≠ c := by
  rintro rfl
  obtain ⟨x, hx⟩ := h
  obtain ⟨y, hy⟩ := k
  rw [hx] at hy
  simp only [Option.some.injEq, Obj.cells.injEq] at hy
  exact hT hy.2.1
theorem Grew.butN {a b c : World} {k : Nat} (h : Grew a b) (hb : But (fun q => q = k) b c) (hk : a.heap.size ≤ k) : Grew a c := Below.trans h (But.below hb h.size fun q e => by subst e; exact hk)
theorem index_some {sq : Array Value} {j : Nat} {c : Int} (hj : j < 64) (h : sq[j]? = some (.int .u64 c)) (w : World) : (Instr.index 65 (.agg sq) (.int .i64 (j : Int))).run Tryd.prog w = .ok (.int .u64 c) w := by
  simp [Instr.index, asIntOf, run_underlying Tryd.underlying65, hj, part, h]
theorem zsome_owns (w : World) : Owns (w.alloc (.cells #[.int .u64 0, .int .u64 0, .int .u64 0, .int .u64 0, .int .u64 0, .int .u64 0, .int .u64 0, .int .u64 0, .int .u64 0, .int .u64 0, .int .u64 0, .int .u64 0, .int .u64 0, .int .u64 0, .int .u64 0, .int .u64 0, .int .u64 0, .int .u64 0, .int .u64 0, .int .u64 0, .int .u64 0, .int .u64 0, .int .u64 0, .int .u64 0, .int .u64 0, .int .u64 0, .int .u64 0, .int .u64 0, .int .u64 0, .int .u64 0, .int .u64 0, .int .u64 0, .int .u64 0, .int .u64 0, .int .u64 0, .int .u64 0, .int .u64 0, .int .u64 0, .int .u64 0, .int .u64 0, .int .u64 0, .int .u64 0, .int .u64 0, .int .u64 0, .int .u64 0, .int .u64 0, .int .u64 0, .int .u64 0, .int .u64 0, .int .u64 0, .int .u64 0, .int .u64 0, .int .u64 0, .int .u64 0, .int .u64 0, .int .u64 0, .int .u64 0, .int .u64 0, .int .u64 0, .int .u64 0, .int .u64 0, .int .u64 0, .int .u64 0, .int .u64 0] 65)) w.heap.size (wdL 0) 65 := by
  rw [wdL_zero]
  exact Owns.alloc w _ _
set_option maxHeartbeats 4000000 in
set_option maxRecDepth 20000 in
theorem nwith_ok (p q : Nat) (hq : q < 2 ^ 4096) (W : World) : Calls Tryd.prog 18 #[wdV p, wdV q] W fun e W' => e = .returned (wdV (p ||| q)) ∧ Grew W W' := by
  obtain ⟨b, hb⟩ : ∃ b, W.heap.size = b := ⟨_, rfl⟩
  obtain ⟨w1, hw1⟩ : ∃ w1, W.alloc (.cells (wdL p).toArray 65) = w1 := ⟨_, rfl⟩
  have g1 : Grew W w1 := hw1 ▸ grew_alloc W _
  have o1 : Owns w1 b (wdL p) 65 := by rw [← hw1, ← hb]; exact Owns.alloc W _ _
  have z1 : w1.heap.size = b + 1 := by rw [← hw1, ← hb]; exact World.size_alloc _ _
  obtain ⟨w2, hw2⟩ : ∃ w2, w1.alloc (.cells (wdL q).toArray 65) = w2 := ⟨_, rfl⟩
  have g2 : Grew w1 w2 := hw2 ▸ grew_alloc w1 _
  have o2 : Owns w2 (b + 1) (wdL q) 65 := by rw [← hw2, ← z1]; exact Owns.alloc w1 _ _
  have z2 : w2.heap.size = b + 1 + 1 := by rw [← hw2, ← z1]; exact World.size_alloc _ _
  obtain ⟨w3, hw3⟩ : ∃ w3, w2.alloc (.cells #[.int .u64 0, .int .u64 0, .int .u64 0, .int .u64 0, .int .u64 0, .int .u64 0, .int .u64 0, .int .u64 0, .int .u64 0, .int .u64 0, .int .u64 0, .int .u64 0, .int .u64 0, .int .u64 0, .int .u64 0, .int .u64 0, .int .u64 0, .int .u64 0, .int .u64 0, .int .u64 0, .int .u64 0, .int .u64 0, .int .u64 0, .int .u64 0, .int .u64 0, .int .u64 0, .int .u64 0, .int .u64 0, .int .u64 0, .int .u64 0, .int .u64 0, .int .u64 0, .int .u64 0, .int .u64 0, .int .u64 0, .int .u64 0, .int .u64 0, .int .u64 0, .int .u64 0, .int .u64 0, .int .u64 0, .int .u64 0, .int .u64 0, .int .u64 0, .int .u64 0, .int .u64 0, .int .u64 0, .int .u64 0, .int .u64 0, .int .u64 0, .int .u64 0, .int .u64 0, .int .u64 0, .int .u64 0, .int .u64 0, .int .u64 0, .int .u64 0, .int .u64 0, .int .u64 0, .int .u64 0, .int .u64 0, .int .u64 0, .int .u64 0, .int .u64 0] 65) = w3 := ⟨_, rfl⟩
  have g3 : Grew w2 w3 := hw3 ▸ grew_alloc w2 _
  have o3 : Owns w3 (b + 1 + 1) (wdL 0) 65 := by rw [← hw3, ← z2]; exact zsome_owns w2
  have O1 := Lib.hid ((o1.keep g2).keep g3)
  have O2 := Lib.hid (o2.keep g3)
  have O3 := Lib.hid o3
  have G3 := Lib.hid ((g1.trans g2).trans g3)
  have HB := Lib.hid hb
  have hb1 : w1.heap.size = b + 1 := z1
  have hb2 : w2.heap.size = b + 1 + 1 := z2
  clear o1 o2 o3 g1 g2 g3
  unfold wdV
  go_enter Tryd.func18, Tryd.ntmps18
  go_wp2_with fail
  clear hw1 hw2 hw3 z1 z2 hb1 hb2
  subst hb
  go_loopw [6] (fun i wr => ∃ (j : Nat), i = .int .i64 j ∧ j ≤ 64 ∧ Hid (Owns wr W.heap.size (wdL (p ||| q % 2 ^ (64 * j))) 65 ∧ Owns wr (W.heap.size + 1) (wdL q) 65 ∧ Owns wr (W.heap.size + 1 + 1) (wdL 0) 65 ∧ Grew W wr)) (fun i _ => 64 - (intOf i).toNat)
  case atStart => exact ⟨0, rfl, by omega, Lib.hid ⟨by rw [Nat.mul_zero, Nat.pow_zero, Nat.mod_one, Nat.or_zero]; exact O1.out, O2.out, O3.out, G3.out⟩⟩
  case round =>
    obtain ⟨j, rfl, hj, hst⟩ := hrel
    by_cases hlt : j < 64
    · have hj2 : (j : Int) < 64 := by omega
      have hst5 := Lib.hid (wdL_step p q j)
      obtain ⟨m, hm⟩ : ∃ m, p ||| q % 2 ^ (64 * j) = m := ⟨_, rfl⟩
      have hor := bits_or (wd_lt m j) (wd_lt q j)
      rw [hm] at hst hst5
      have c1 := hst.out.1.cell_at (i := j) (wdL_get m hlt)
      have c2 := hst.out.2.1.cell_at (i := j) (wdL_get q hlt)
      have l1 := hst.out.1.lt
      have l2 := hst.out.2.1.lt
      obtain ⟨z, hz⟩ : ∃ z : Int, ((wd m j ||| wd q j : Nat) : Int) = z := ⟨_, rfl⟩
      rw [hz] at hor hst5
      obtain ⟨x, hx⟩ : ∃ x : Int, ((wd m j : Nat) : Int) = x := ⟨_, rfl⟩
      obtain ⟨y, hy⟩ : ∃ y : Int, ((wd q j : Nat) : Int) = y := ⟨_, rfl⟩
      rw [hx] at hor c1
      rw [hy] at hor c2
      have HM := Lib.hid hm
      clear hx hy hz hm
      go_upto_region 4 with fail
      refine wp_region_hav_lit follows (by kernel_rfl) ?_
      repeat (first
        | (refine HavG.skip (fun _ => rfl) ?_; simp only [Act.put, List.setIfInBounds_toArray, List.set_cons_zero, List.set_cons_succ])
        | (refine HavG.val (fun _ => rfl) ?_ (fun x w hw _ => ?_) ?_; rotate_left; (focus (have hc := hw.cells; clear hw; go_simp; first | done | rfl)); simp only [Act.put, List.setIfInBounds_toArray, List.set_cons_zero, List.set_cons_succ]))
      refine HavG.tail (by kernel_rfl) (by kernel_rfl) (fun x w hw _ => ?_)
      have o1 := hst.out.1.keep hw
      have f1 := o1.free j
      have c3 := o1.cell_at (i := j) (wdL_get m hlt)
      have l3 := o1.lt
      obtain ⟨w4, hw4⟩ : ∃ w4, w.setCell ⟨W.heap.size, j, none⟩ (.int .u64 z) = w4 := ⟨_, rfl⟩
      have HO := Lib.hid (show Owns w4 W.heap.size (wdL (p ||| q % 2 ^ (64 * (j + 1)))) 65 by
        rw [← hst5.out, ← hw4]
        exact o1.set j _)
      have hb4 : But (fun k => k = W.heap.size) w w4 := hw4 ▸ set_but o1
      have HO2 := Lib.hid (hb4.owns (hst.out.2.1.keep hw) (by omega))
      have HO3 := Lib.hid (hb4.owns (hst.out.2.2.1.keep hw) (by omega))
      have HG := Lib.hid ((hst.out.2.2.2.trans hw).butN hb4 (Nat.le_refl _))
      clear hw hb4 o1 c1 c2 l1 l2
      go_wp2_with fail
      exact ⟨⟨j + 1, by go_num, by omega, Lib.hid ⟨HO.out, HO2.out, HO3.out, HG.out⟩⟩, by simp [intOf]; omega⟩
    · have hj64 : j = 64 := by omega
      subst hj64
      have hst6 := hst.out
      rw [show 64 * 64 = 4096 from rfl, Nat.mod_eq_of_lt hq] at hst6
      have HST := Lib.hid hst6
      clear hst6 hst
      go_upto_region 6 with fail
      apply wp_region_lit
      refine wpList_load_some HST.out.1 rfl _ rfl rfl ?_
      simp only [Act.put, List.setIfInBounds_toArray, List.set_cons_zero, List.set_cons_succ]
      refine wpList_store_some HST.out.2.2.1 rfl _ _ rfl rfl rfl ?_
      intro w5 o5 b5
      simp only [Act.put]
      have O5 := Lib.hid o5
      have G5 := Lib.hid (HST.out.2.2.2.butN b5 (by omega))
      clear o5 b5
      go_wp2_with fail
      exact bodyPost_ret (ret_some rfl _ O5.out rfl) rfl ⟨rfl, G5.out⟩
end Go.Proofs.YtkinlcichclnkaaDoor

/- TrailingZeros64: the lowest bit that is set, by its table. -/
namespace Go.Proofs.YtkinlcichclnkaaDoor
open Go.RowKit

def bruT : List Int := [0, 1, 56, 2, 57, 49, 28, 3, 61, 58, 42, 50, 38, 29, 17, 4, 62, 47, 59, 36, 45, 43, 51, 22, 53, 39, 33, 30, 24, 18, 12, 5, 63, 55, 48, 27, 60, 41, 37, 16, 46, 35, 44, 21, 52, 32, 23, 11, 54, 26, 40, 15, 34, 20, 31, 10, 25, 14, 19, 9, 13, 8, 7, 6]
/-- the table, as it lies -/
def BruAt (W : World) : Prop := 0 < W.heap.size ∧ ∀ i (_ : i < 64), W.cell? ⟨0, i, none⟩ = some (.int .u8 (bruT.getD i 0))
theorem BruAt.grew {W W' : World} (h : BruAt W) (hg : Grew W W') : BruAt W' := ⟨Nat.lt_of_lt_of_le h.1 hg.size, fun i hi => by rw [hg.cells 0 i h.1]; exact h.2 i hi⟩
theorem BruAt.below {W W' : World} {lim : Nat} (h : BruAt W) (hl : 0 < lim) (hg : Below lim W W') : BruAt W' := ⟨Nat.lt_of_lt_of_le h.1 hg.size, fun i hi => by rw [Below.cell (p := ⟨0, i, none⟩) hg hl]; exact h.2 i hi⟩
theorem bru_at : ∀ t : Nat, t < 64 → (2 ^ t * 285870213051353865 % 18446744073709551616) / 288230376151711744 < 64 ∧ bruT.getD ((2 ^ t * 285870213051353865 % 18446744073709551616) / 288230376151711744) 0 = (t : Int) := by decide +kernel
theorem low_and {w t : Nat} (h : Low w t) (hw : w < 2 ^ 64) (h0 : w ≠ 0) : w &&& (2 ^ 64 - w) = 2 ^ t := by
  apply Nat.eq_of_testBit_eq
  intro i
  have h1 : 2 ^ 64 - w = 2 ^ 64 - ((w - 1) + 1) := by omega
  rw [Nat.testBit_and, h1, Nat.testBit_two_pow_sub_succ (by omega), Nat.testBit_two_pow]
  have h2 := low_next h i
  rw [Nat.testBit_and] at h2
  cases hb : w.testBit i
  · rw [Bool.false_and]
    by_cases e : t = i
    · subst e
      rw [h.set] at hb
      cases hb
    · rw [decide_eq_false e]
  · rw [hb, Bool.true_and, Bool.true_and] at h2
    have hi : i < 64 := by
      rcases Nat.lt_or_ge i 64 with hl | hl
      · exact hl
      · rw [Nat.testBit_lt_two_pow (Nat.lt_of_lt_of_le hw (Nat.pow_le_pow_right (by omega) hl))] at hb
        cases hb
    rw [h2, decide_eq_true hi, Bool.true_and, Bool.true_and]
    by_cases e : t = i
    · subst e
      simp
    · rw [decide_eq_false e, decide_eq_true (show i ≠ t from fun h => e h.symm)]
      rfl
theorem low_lt {w t : Nat} (h : Low w t) (hw : w < 2 ^ 64) : t < 64 := by
  rcases Nat.lt_or_ge t 64 with hl | hl
  · exact hl
  · have := h.set
    rw [Nat.testBit_lt_two_pow (Nat.lt_of_lt_of_le hw (Nat.pow_le_pow_right (by omega) hl))] at this
    cases this
theorem bits_andN {a b : Nat} (ha : a < 2 ^ 64) (hb : b < 2 ^ 64) : bits .and .u64 (a : Int) (b : Int) = ((a &&& b : Nat) : Int) := by
  have hand : a &&& b < 18446744073709551616 := Nat.and_lt_two_pow _ hb
  have e : (BitVec.ofInt 64 (a : Int) &&& BitVec.ofInt 64 (b : Int)).toNat = a &&& b := by
    rw [BitVec.toNat_and, BitVec.ofInt_natCast, BitVec.ofInt_natCast, BitVec.toNat_ofNat, BitVec.toNat_ofNat, Nat.mod_eq_of_lt ha, Nat.mod_eq_of_lt hb]
  have h : bits .and .u64 (a : Int) (b : Int) = IntKind.u64.wrap (((BitVec.ofInt 64 (a : Int) &&& BitVec.ofInt 64 (b : Int)).toNat : Nat) : Int) := rfl
  rw [h, e, wrap_u64 (by omega) (by omega)]
theorem wrap_mod64 (n : Int) : IntKind.u64.wrap n = n % 18446744073709551616 := by
  unfold IntKind.wrap
  simp [IntKind.bits, IntKind.signed]
theorem neg_u64 {w : Nat} (hw : w < 2 ^ 64) (h0 : w ≠ 0) : IntKind.u64.wrap (-(w : Int)) = ((2 ^ 64 - w : Nat) : Int) := by
  rw [wrap_mod64]
  omega
theorem mul_u64 (a b : Nat) : IntKind.u64.wrap ((a : Int) * (b : Int)) = ((a * b % 18446744073709551616 : Nat) : Int) := by
  have e : (a : Int) * (b : Int) = ((a * b : Nat) : Int) := by simp
  rw [wrap_mod64, e]
  generalize a * b = p
  omega
theorem tz_facts {w t : Nat} (hl : Low w t) (hw : w < 2 ^ 64) (h0 : w ≠ 0) : ∃ (n1 n2 M : Int) (v : Nat), IntKind.u64.wrap (-(w : Int)) = n1 ∧ bits .and .u64 (w : Int) n1 = n2 ∧ IntKind.u64.wrap (n2 * 285870213051353865) = M ∧ M / 288230376151711744 = (v : Int) ∧ v < 64 ∧ bruT.getD v 0 = (t : Int) := by
  obtain ⟨hv, hb⟩ := bru_at t (low_lt hl hw)
  have h1 := neg_u64 hw h0
  have h2 := bits_andN (b := 2 ^ 64 - w) hw (by omega)
  rw [low_and hl hw h0] at h2
  have h3 := mul_u64 (2 ^ t) 285870213051353865
  have h4 : ((2 ^ t * 285870213051353865 % 18446744073709551616 : Nat) : Int) / 288230376151711744 = ((2 ^ t * 285870213051353865 % 18446744073709551616 / 288230376151711744 : Nat) : Int) := by
    generalize 2 ^ t * 285870213051353865 % 18446744073709551616 = m
    omega
  exact ⟨_, _, _, _, h1, h2, h3, h4, hv, hb⟩
set_option maxRecDepth 20000 in
theorem tz_ok (w t : Nat) (hl : Low w t) (hw : w < 2 ^ 64) (h0 : w ≠ 0) (W : World) (hT : BruAt W) : Calls Tryd.prog 39 #[.int .u64 (w : Int)] W fun e W' => e = .returned (.int .i64 (t : Int)) ∧ W' = W := by
  obtain ⟨n1, n2, M, v, e1, e2, e3, hv2, hv, hb⟩ := tz_facts hl hw h0
  have hc := hT.2 _ hv
  rw [hb] at hc
  have hs := hT.1
  have htl := low_lt hl hw
  have ht64 : wrap64 (t : Int) = (t : Int) := by unfold wrap64; omega
  have e0 : ((w : Int) == 0) = false := beq_eq_false_iff_ne.2 (by omega)
  clear hT hb hl hw h0
  generalize (w : Int) = x at *
  go_enter Tryd.func39, Tryd.ntmps39
  go_wp2_with fail
  go_ret
  exact ⟨rfl, rfl⟩
end Go.Proofs.YtkinlcichclnkaaDoor
