/- One closed fact of the program. -/
import Derived.Lib.Hide
import Derived.Test.YtoflfkffldpglaaGreatDoorQM2
import Derived.Test.YtoflfkffldpglaaGreatDoorQM1
import Derived.Test.YtoflfkffldpglaaGreatDoorQM3
import Derived.Test.YtoflfkffldpglaaGreatDoorQM4
import Derived.Test.YtoflfkffldpglaaGreatDoorQM5
import Derived.Test.YtoflfkffldpglaaGreatDoorQM6
namespace Go.Proofs.YtoflfkffldpglaaGreatDoor
theorem follows : Tryz.prog.follows .mixedOrders = true := by kernel_rfl
end Go.Proofs.YtoflfkffldpglaaGreatDoor

/- A book and a walk over tokens in memory. -/
namespace Go.Proofs.YtoflfkffldpglaaGreatDoor
open Go.RowKit
def nmapL (l : List (ByteArray × Nat)) : List (Value × Value) := l.map fun x => (.string x.1, .int .i64 x.2)
def FstAt (w : World) (lim : Nat) (c0 c1 : Option Value) (f : Fst) : Prop := c0 = some (.int .i64 f.long) ∧ ∃ v, c1 = some v ∧ looseRow w 0 3 1 v f.w.length (intVs f.w) ∧ ∀ g, v.ownBlock = some g → g < lim
structure BV where
  rm : Nat
  tm : Nat
  kv : Value
  ba : Option Addr
  bc : Nat
  fa : Option Addr
  fc : Nat
def FirstsAt (w : World) (lim : Nat) (a : Option Addr) (l : List Fst) : Prop := ∀ k (h : k < l.length), ∃ b off, a = some ⟨b, off, none⟩ ∧ b < lim ∧ FstAt w lim (w.cell? ⟨b, off + k * 2, none⟩) (w.cell? ⟨b, off + k * 2 + 1, none⟩) l[k]
structure BookAt (w : World) (lim bk : Nat) (V : BV) (B : Bk) : Prop where
  low : lim ≤ w.heap.size
  blk : bk < lim
  box : Owns w bk [.map (some V.rm), .map (some V.tm), V.kv, .slice V.ba B.bodies.length V.bc, .slice V.fa B.firsts.length V.fc] 67
  rules : w.heap[V.rm]? = some (mapObj (nmapL B.rules))
  tokens : w.heap[V.tm]? = some (mapObj (nmapL B.tokens))
  rlo : V.rm < lim ∧ V.tm < lim
  kinds : IntsV w lim V.kv B.kinds
  bodies : NodesAt w lim V.ba 0 B.bodies
  firsts : FirstsAt w lim V.fa B.firsts
  few : B.bodies.length ≤ 60 ∧ B.firsts.length = B.bodies.length
theorem row_below {w w' : World} {lim base e size n : Nat} {v : Value} {xs : List Value} (h : looseRow w base e size v n xs) (hl : ∀ g, v.ownBlock = some g → g < lim) (hb : Below lim w w') : looseRow w' base e size v n xs := by
  refine ⟨h.1, h.2.imp id ?_⟩
  rintro ⟨g, cap, cur, rfl, h2, h3, h4⟩
  exact ⟨g, cap, cur, rfl, h2, by rw [hb.block g (hl g rfl)]; exact h3, h4⟩
theorem FstAt.keep {w w' : World} {lim : Nat} {c0 c1 : Option Value} {f : Fst} (h : FstAt w lim c0 c1 f) (hb : Below lim w w') : FstAt w' lim c0 c1 f := by
  obtain ⟨h1, v, h2, h3, h4⟩ := h
  exact ⟨h1, v, h2, row_below h3 h4 hb, h4⟩
theorem below_owns {lim : Nat} {w w' : World} {b T : Nat} {cs : List Value} (hb : Below lim w w') (h : Owns w b cs T) (hl : b < lim) : Owns w' b cs T := by
  unfold Owns at *
  rw [hb.block b hl]
  exact h
theorem BookAt.keep {w w' : World} {lim bk : Nat} {V : BV} {B : Bk} (h : BookAt w lim bk V B) (hb : Below lim w w') : BookAt w' lim bk V B :=
  ⟨Nat.le_trans h.low hb.size, h.blk, below_owns hb h.box h.blk, by rw [hb.block _ h.rlo.1]; exact h.rules, by rw [hb.block _ h.rlo.2]; exact h.tokens, h.rlo, IntsV.keep hb h.kinds, h.bodies.keep hb, fun k hk => by
    obtain ⟨b, off, e, hl, hf⟩ := h.firsts k hk
    refine ⟨b, off, e, hl, ?_⟩
    rw [hb.cell hl, hb.cell hl]
    exact hf.keep hb, h.few⟩
/-! ### what is known of rules at places -/
abbrev Spot := Nat × Nat
def spotV (s : Spot) : Value := .agg #[.int .i64 s.1, .int .i64 s.2]
def spotL (L : List (Spot × Nat)) : List (Value × Value) := L.map fun e => (spotV e.1, plV e.2)
def Right (B : Bk) (wl : List Int) (s : Spot) (m : Nat) : Prop := Bits m fun j => ∃ n, B.bodies[s.1]? = some n ∧ Der B wl n s.2 j
def KnownAt (B : Bk) (wl : List Int) (kb : Nat) (w : World) : Prop := ∃ L : List (Spot × Nat), w.heap[kb]? = some (mapObj (spotL L)) ∧ ∀ e ∈ L, Right B wl e.1 e.2
structure WalkAt (w : World) (lim kw kb bk : Nat) (V : BV) (wv : Value) (B : Bk) (wl : List Int) : Prop where
  book : BookAt w lim bk V B
  box : Owns w kw [.pointer (some ⟨bk, 0, none⟩), wv, .map (some kb)] 103
  toks : IntsV w lim wv wl
  lo : lim ≤ kw ∧ lim ≤ kb
  few : wl.length ≤ 64
def WR (B : Bk) (wl : List Int) (kb : Nat) (w w' : World) : Prop := But (fun q => q = kb) w w' ∧ (KnownAt B wl kb w → KnownAt B wl kb w')
theorem wrRel (B : Bk) (wl : List Int) (kb : Nat) : Rel (WR B wl kb) :=
  ⟨fun _ => ⟨But.refl _ _, id⟩, fun h k => ⟨But.trans h.1 k.1 (fun _ _ e => e), fun hk => k.2 (h.2 hk)⟩, fun w => ⟨(But.refl _ w).drew, id⟩⟩
theorem WR.of_grew {B : Bk} {wl : List Int} {kb : Nat} {w w' : World} (h : Grew w w') : WR B wl kb w w' :=
  ⟨But.of_grew h, fun ⟨L, h1, h2⟩ => ⟨L, by rw [h.block kb (Array.getElem?_eq_some_iff.1 h1).1]; exact h1, h2⟩⟩
theorem WR.trans {B : Bk} {wl : List Int} {kb : Nat} {a b c : World} (h : WR B wl kb a b) (k : WR B wl kb b c) : WR B wl kb a c := (wrRel B wl kb).trans h k
theorem WR.size {B : Bk} {wl : List Int} {kb : Nat} {a b : World} (h : WR B wl kb a b) : a.heap.size ≤ b.heap.size := h.1.size
theorem WR.below {B : Bk} {wl : List Int} {kb lim : Nat} {a b : World} (h : WR B wl kb a b) (hl : lim ≤ a.heap.size) (hk : lim ≤ kb) : Below lim a b := h.1.below hl fun q e => by subst e; exact hk
theorem WalkAt.known_ne {w : World} {lim kw kb bk : Nat} {V : BV} {wv : Value} {B : Bk} {wl : List Int} (h : WalkAt w lim kw kb bk V wv B wl) (hk : KnownAt B wl kb w) : kw ≠ kb := by
  obtain ⟨L, h1, -⟩ := hk
  rintro rfl
  have := h.box
  unfold Owns at this
  rw [h1] at this
  unfold mapObj at this
  simp at this
theorem WalkAt.keep {w w' : World} {lim kw kb bk : Nat} {V : BV} {wv : Value} {B : Bk} {wl : List Int} (h : WalkAt w lim kw kb bk V wv B wl) (hk : KnownAt B wl kb w) (hr : WR B wl kb w w') : WalkAt w' lim kw kb bk V wv B wl := by
  have hb := hr.below h.book.low h.lo.2
  exact ⟨h.book.keep hb, hr.1.owns h.box (h.known_ne hk), IntsV.keep hb h.toks, h.lo, h.few⟩
/-! ### keys -/
noncomputable def isV (v x : Value) : Bool := @decide (x = v) (Classical.propDecidable _)
theorem isV_true {v x : Value} : isV v x = true ↔ x = v := by simp [isV]
theorem spotV_inj {p q : Spot} (h : spotV p = spotV q) : p = q := by
  obtain ⟨a, b⟩ := p
  obtain ⟨c, d⟩ := q
  simp [spotV] at h
  rw [Prod.mk.injEq]
  omega
theorem spot_check (p : Spot) (w : World) (e : Bool) : (Instr.checkKey e 10000 133 (spotV p)).run Tryz.prog w = .ok () w := by
  kernel_rfl
theorem spot_eqIn (n : Nat) (a b c d : Int) (w : World) : (Op.equalIn (n + 2) 133 (.agg #[.int .i64 a, .int .i64 b]) (.agg #[.int .i64 c, .int .i64 d])).run Tryz.prog w = .ok (a == c && b == d) w := by
  rw [run_equalIn_struct w (n + 1) 133 _ _ (by kernel_rfl) (by kernel_rfl)]
  go_simp
  by_cases h1 : a = c <;> by_cases h2 : b = d <;> simp [h1, h2]
theorem spot_eq (p q : Spot) (w : World) : (Op.equal 133 (spotV p) (spotV q)).run Tryz.prog w = .ok (isV (spotV p) (spotV q)) w := by
  have h := spot_eqIn 9998 p.1 p.2 q.1 q.2 w
  have e : (((p.1 : Int) == (q.1 : Int)) && ((p.2 : Int) == (q.2 : Int))) = isV (spotV p) (spotV q) := by
    rw [Bool.eq_iff_iff, isV_true]
    simp only [Bool.and_eq_true, beq_iff_eq]
    constructor
    · rintro ⟨h1, h2⟩; unfold spotV; rw [h1, h2]
    · intro h; rw [spotV_inj h]; exact ⟨rfl, rfl⟩
  rw [e] at h
  exact h
theorem key_spot (w : World) (p : Spot) (L : List (Spot × Nat)) : KeyRun Tryz.prog w 133 (spotV p) (isV (spotV p)) (spotL L) :=
  KeyRun.struct (fs := Tryz.prog.fieldsOf 133) (by kernel_rfl) (spot_check p w) fun x hx => by
    obtain ⟨q, _, rfl⟩ := List.mem_map.1 hx
    exact spot_eq p q.1 w
theorem zero_places (w : World) : (zeroValue 106).run Tryz.prog w = .ok (plV 0) w := by kernel_rfl
theorem run_known {w : World} {kb : Nat} {L : List (Spot × Nat)} (hb : w.heap[kb]? = some (mapObj (spotL L))) (s : Spot) :
    (∃ m, (s, m) ∈ L ∧ (Instr.lookup 101 (.map (some kb)) (spotV s) true).run Tryz.prog w = .ok (.tuple #[plV m, .bool true]) w) ∨
    ((∀ e ∈ L, e.1 ≠ s) ∧ (Instr.lookup 101 (.map (some kb)) (spotV s) true).run Tryz.prog w = .ok (.tuple #[plV 0, .bool false]) w) := by
  have hK := key_spot w s L
  have hg := run_map_of (P := Tryz.prog) hb
  unfold mapObj at hg
  have hf := hK.find
  have hz := zero_places w
  simp only [Instr.lookup, Sem.run_bind, run_underlying Tryz.underlying101, Result.andThen_ok, hg, Sem.run_pure, hK.check, hf]
  by_cases h : ∃ x ∈ spotL L, isV (spotV s) x.1 = true
  · obtain ⟨j, x, h1, h2, h3⟩ := fnd_some (i := 0) h
    obtain ⟨e, he, rfl⟩ := List.mem_map.1 h2
    have hs : e.1 = s := spotV_inj (isV_true.1 h3)
    left
    refine ⟨e.2, ?_, ?_⟩
    · rw [← hs]; exact he
    · rw [h1]; simp
  · have h1 : ∀ x ∈ spotL L, isV (spotV s) x.1 = false := fun x hx => by
      cases hfx : isV (spotV s) x.1
      · rfl
      · exact absurd ⟨x, hx, hfx⟩ h
    right
    refine ⟨fun e he hs => ?_, ?_⟩
    · have := h1 (spotV e.1, plV e.2) (List.mem_map.2 ⟨e, he, rfl⟩)
      rw [hs, isV_true.2 rfl] at this
      cases this
    · rw [fnd_none h1]; simp [hz]
theorem run_learn {w : World} {kb : Nat} {L : List (Spot × Nat)} (hb : w.heap[kb]? = some (mapObj (spotL L))) (s : Spot) (m : Nat) (hn : ∀ e ∈ L, e.1 ≠ s) :
    (Instr.mapUpdate 101 (.map (some kb)) (spotV s) (plV m)).run Tryz.prog w = .ok () (putObj w kb (mapObj (spotL (L ++ [(s, m)])))) := by
  have h := run_update_new (x := plV m) Tryz.underlying101 hb (key_spot w s L) (fun x hx => by
    obtain ⟨e, he, rfl⟩ := List.mem_map.1 hx
    cases hv : isV (spotV s) (spotV e.1)
    · rfl
    · exact absurd (spotV_inj (isV_true.1 hv)) (hn e he))
  rw [h]
  simp [spotL]
theorem WR.learn {B : Bk} {wl : List Int} {w : World} {kb : Nat} {L : List (Spot × Nat)} (hb : w.heap[kb]? = some (mapObj (spotL L))) (hr : ∀ e ∈ L, Right B wl e.1 e.2) (s : Spot) (m : Nat) (hm : Right B wl s m) :
    WR B wl kb w (putObj w kb (mapObj (spotL (L ++ [(s, m)])))) :=
  ⟨But.put rfl, fun _ => ⟨L ++ [(s, m)], putObj_same (Array.getElem?_eq_some_iff.1 hb).1 _, fun e he => by
    rcases List.mem_append.1 he with he | he
    · exact hr e he
    · rw [List.mem_singleton.1 he]; exact hm⟩⟩
theorem fnd_index {f : Value → Bool} : ∀ {L : List (Value × Value)} {i j : Nat} {v : Value}, fnd f L i = some (j, v) → i ≤ j ∧ ∃ h : j - i < L.length, L[j - i].2 = v ∧ f L[j - i].1 = true
  | [], _, _, _, h => by cases h
  | x :: r, i, j, v, h => by
    rw [fnd] at h
    by_cases hf : f x.1 = true
    · rw [if_pos hf] at h
      obtain ⟨rfl, rfl⟩ := Prod.mk.inj (Option.some.inj h)
      exact ⟨Nat.le_refl _, by simp, by simp, by simpa using hf⟩
    · rw [if_neg hf] at h
      obtain ⟨h1, h2, h3, h4⟩ := fnd_index h
      refine ⟨by omega, by simp; omega, ?_⟩
      have e : j - i = (j - (i + 1)) + 1 := by omega
      simp only [e, List.getElem_cons_succ]
      exact ⟨h3, h4⟩
theorem same_spot (n : Nat) (s : Spot) : Instr.sameBits (n + 2) (spotV s) (spotV s) = true := by
  simp [spotV, Instr.sameBits]
theorem run_learn_any {B : Bk} {wl : List Int} {w : World} {kb : Nat} {L : List (Spot × Nat)} (hb : w.heap[kb]? = some (mapObj (spotL L))) (hr : ∀ e ∈ L, Right B wl e.1 e.2) (s : Spot) (m : Nat) (hm : Right B wl s m) :
    ∃ w', (Instr.mapUpdate 101 (.map (some kb)) (spotV s) (plV m)).run Tryz.prog w = .ok () w' ∧ WR B wl kb w w' ∧ But (fun q => q = kb) w w' := by
  by_cases hn : ∀ e ∈ L, e.1 ≠ s
  · exact ⟨_, run_learn hb s m hn, WR.learn hb hr s m hm, But.put rfl⟩
  · have hK := key_spot w s L
    have hex : ∃ x ∈ spotL L, isV (spotV s) x.1 = true := by
      refine Classical.byContradiction fun hc => hn fun e he hs => hc ⟨(spotV e.1, plV e.2), List.mem_map.2 ⟨e, he, rfl⟩, ?_⟩
      rw [isV_true, hs]
    obtain ⟨j, x, h1, -, -⟩ := fnd_some (i := 0) hex
    obtain ⟨-, hj, h2, h3⟩ := fnd_index h1
    simp only [Nat.sub_zero] at hj h2 h3
    have hjL : j < L.length := by simpa [spotL] using hj
    have hkey : (spotL L)[j] = (spotV L[j].1, plV L[j].2) := by simp [spotL]
    have hs : L[j].1 = s := spotV_inj (isV_true.1 (by rw [hkey] at h3; exact h3))
    have hv : L[j].2 = m := by
      have := hr L[j] (List.getElem_mem hjL)
      rw [hs] at this
      exact this.eq hm
    have hent : (entsAt 0 (spotL L)).toArray[j]? = some ⟨spotV s, plV m, j⟩ := by
      rw [List.getElem?_toArray, List.getElem?_eq_getElem (by rw [entsAt_length]; exact hj), entsAt_get _ _ _ hj, hkey, hs, hv, Nat.zero_add]
    have hmod : ((entsAt 0 (spotL L)).toArray.modify j fun e => { e with key := spotV s, val := plV m }) = (entsAt 0 (spotL L)).toArray := by
      apply Array.ext
      · simp
      · intro k h4 h5
        rw [Array.getElem_modify]
        split
        · rename_i e
          subst e
          have := (Array.getElem?_eq_some_iff.1 hent).2
          rw [this]
        · rfl
    have hg := run_map_of (P := Tryz.prog) hb
    have hb' := hb
    unfold mapObj at hg hb'
    have hf := hK.find
    rw [h1] at hf
    refine ⟨w, ?_, (wrRel B wl kb).refl w, But.refl _ _⟩
    simp only [Instr.mapUpdate, Sem.run_bind, run_underlying Tryz.underlying101, Result.andThen_ok, hg, hK.check, hf, Instr.keyThatStays, hent, Option.map_some, Option.getD_some, same_spot 9998 s, if_true, Sem.run_pure]
    rw [hmod]
    simp only [setObj, Sem.run, hb']
    have hset : w.heap.setIfInBounds kb (.map (entsAt 0 (spotL L)).toArray (spotL L).length) = w.heap := by
      apply Array.ext
      · simp
      · intro k h4 h5
        rw [Array.getElem_setIfInBounds]
        split
        · rename_i e
          subst e
          have := (Array.getElem?_eq_some_iff.1 hb').2
          exact this.symm
        · rfl
    rw [hset]
/-! ### names -/
section
variable {P : Program} {w : World}
theorem findNow_string {a : ByteArray} {f : Value → Bool} : ∀ (L : List (Value × Value)) (n i : Nat), (∀ x ∈ L, ∃ b, x.1 = .string b ∧ f (.string b) = (a == b)) → Instr.findNow .string (.string a) (entsAt n L) i = some (fnd f L i)
  | [], _, _, _ => rfl
  | x :: r, n, i, h => by
    obtain ⟨b, hb, hf⟩ := h x (by simp)
    have ih := findNow_string (a := a) r (n + 1) (i + 1) fun y hy => h y (by simp [hy])
    rw [entsAt, Instr.findNow, fnd, hb, hf]
    cases hab : (a == b)
    · simp only [Instr.sameNow, hab, Bool.false_eq_true, if_false]
      exact ih
    · simp only [Instr.sameNow, if_true, hab]
theorem KeyRun.string {kt : TypeId} {a : ByteArray} {f : Value → Bool} {L : List (Value × Value)} (ht : P.underlying kt = some .string) (hL : ∀ x ∈ L, ∃ b, x.1 = .string b ∧ f (.string b) = (a == b)) :
    KeyRun P w kt (.string a) f L := by
  refine ⟨fun e => ?_, ?_⟩
  · rw [show (10000 : Nat) = 9999 + 1 from rfl]
    unfold Instr.checkKey
    simp only [Sem.run_bind, run_underlying ht, Result.andThen]
    rfl
  · unfold Instr.findKey
    rw [Sem.run_bind, run_underlying ht, Result.andThen_ok]
    simp only [findNow_string L 0 0 hL]
    rfl
end
theorem zero_int (w : World) : (zeroValue 3).run Tryz.prog w = .ok (.int .i64 0) w := by kernel_rfl
theorem run_name {w : World} {b : Nat} {l : List (ByteArray × Nat)} (hb : w.heap[b]? = some (mapObj (nmapL l))) (nm : ByteArray) :
    (Instr.lookup 64 (.map (some b)) (.string nm) false).run Tryz.prog w = .ok (.int .i64 ((lookS l nm).getD 0 : Nat)) w := by
  have hK : KeyRun Tryz.prog w 9 (.string nm) (fun v => match v with | .string b => nm == b | _ => false) (nmapL l) := KeyRun.string Tryz.underlying9 fun x hx => by
    obtain ⟨y, -, rfl⟩ := List.mem_map.1 hx
    exact ⟨y.1, rfl, rfl⟩
  have hg := run_map_of (P := Tryz.prog) hb
  unfold mapObj at hg
  have hf := hK.find
  have hz := zero_int w
  simp only [Instr.lookup, Sem.run_bind, run_underlying Tryz.underlying64, Result.andThen_ok, hg, Sem.run_pure, hK.check, hf]
  have key : ∀ (l : List (ByteArray × Nat)) (i : Nat), (match fnd (fun v => match v with | .string b => nm == b | _ => false) (nmapL l) i with | some (_, v) => v | none => .int .i64 0) = Value.int .i64 ((lookS l nm).getD 0 : Nat) := by
    intro l
    induction l with
    | nil => intro i; rfl
    | cons x r ih =>
      intro i
      simp only [nmapL, List.map_cons, fnd, lookS]
      cases hx : (nm == x.1)
      · simp only [Bool.false_eq_true, if_false]
        exact ih (i + 1)
      · simp
  have hkey := key l 0
  cases hfn : fnd (fun v => match v with | .string b => nm == b | _ => false) (nmapL l) 0 with
  | none =>
    rw [hfn] at hkey
    have h0 : Value.int .i64 0 = Value.int .i64 ((lookS l nm).getD 0 : Nat) := hkey
    rw [← h0]
    simp [hz]
  | some p =>
    rw [hfn] at hkey
    have h0 : p.2 = Value.int .i64 ((lookS l nm).getD 0 : Nat) := hkey
    rw [← h0]
    simp
/-! ### the whole of it -/
structure SE where
  lim : Nat
  kw : Nat
  kb : Nat
  bk : Nat
  V : BV
  wv : Value
  B : Bk
  wl : List Int
def SE.At (E : SE) (w : World) : Prop := WalkAt w E.lim E.kw E.kb E.bk E.V E.wv E.B E.wl ∧ KnownAt E.B E.wl E.kb w
def SE.R (E : SE) (w w' : World) : Prop := WR E.B E.wl E.kb w w'
def SE.ptr (E : SE) : Value := .pointer (some ⟨E.kw, 0, none⟩)
theorem SE.rel (E : SE) : Rel E.R := wrRel E.B E.wl E.kb
theorem SE.At.keep {E : SE} {w w' : World} (h : E.At w) (r : E.R w w') : E.At w' := ⟨h.1.keep h.2 r, r.2 h.2⟩
theorem SE.R.trans {E : SE} {a b c : World} (h : E.R a b) (k : E.R b c) : E.R a c := WR.trans h k
theorem SE.R.grew {E : SE} {a b : World} (h : Grew a b) : E.R a b := WR.of_grew h
theorem SE.At.kb_lt {E : SE} {w : World} (h : E.At w) : E.kb < w.heap.size := by
  obtain ⟨L, h1, -⟩ := h.2
  exact (Array.getElem?_eq_some_iff.1 h1).1
theorem SE.R.fresh {E : SE} {a b c : World} {f : Nat} (hA : E.At a) (h : E.R a b) (hb : But (fun q => q = f) b c) (hf : a.heap.size ≤ f) : E.R a c := by
  refine ⟨But.trans h.1 hb (fun i hi e => by omega), fun hk => ?_⟩
  obtain ⟨L, h1, h2⟩ := h.2 hk
  have := hA.kb_lt
  exact ⟨L, by rw [hb.block E.kb (Array.getElem?_eq_some_iff.1 h1).1 (fun e => by omega)]; exact h1, h2⟩
theorem SE.R.owns {E : SE} {a b : World} (h : E.R a b) {g T : Nat} {cs : List Value} (ho : Owns a g cs T) (hn : g ≠ E.kb) : Owns b g cs T := h.1.owns ho hn
def NodeRes (E : SE) (P : Nat → Prop) (W : World) (e : Ending) (W' : World) : Prop := ∃ q z0 z1, e = .returned (.agg #[.int .u64 z0, .int .u64 z1]) ∧ W2 q z0 z1 ∧ Bits q P ∧ E.R W W'
theorem NodeRes.iff {E : SE} {P Q : Nat → Prop} {W W' : World} {e : Ending} (h : NodeRes E P W e W') (hpq : ∀ j, P j ↔ Q j) : NodeRes E Q W e W' := by
  obtain ⟨q, z0, z1, h1, h2, h3, h4⟩ := h
  exact ⟨q, z0, z1, h1, h2, h3.iff hpq, h4⟩
theorem pl_eqIn (a b c d : Int) (w : World) : (Op.equalIn 10000 106 (.agg #[.int .u64 a, .int .u64 b]) (.agg #[.int .u64 c, .int .u64 d])).run Tryz.prog w = .ok (a == c && b == d) w := by
  have u3 := Tryz.underlying104
  have a3 := Tryz.isAgg104
  have z3 := Tryz.sizeOf104
  rw [show (10000 : Nat) = 9999 + 1 from rfl, Op.equalIn]
  simp only [Sem.run_bind, run_underlying Tryz.underlying106, Result.andThen_ok]
  simp only [Std.Legacy.Range.forIn_eq_forIn_range', Std.Legacy.Range.size, Nat.sub_zero, Nat.add_sub_cancel, Nat.div_one, List.range'_succ, List.range'_zero, List.forIn_cons, List.forIn_nil]
  go_simp
  by_cases h1 : a = c <;> by_cases h2 : b = d <;> simp [h1, h2]
theorem set_but {w : World} {b T i : Nat} {cs : List Value} {v : Value} (h : Owns w b cs T) : But (fun q => q = b) w (w.setCell ⟨b, i, none⟩ v) := by
  rw [setCell_put h]
  exact But.put (F := fun q => q = b) rfl
theorem set_two {w : World} {b T : Nat} {x0 x1 : Value} (h : Owns w b [x0, x1] T) (y0 y1 : Value) :
    But (fun q => q = b) w ((w.setCell ⟨b, 0, none⟩ y0).setCell ⟨b, 1, none⟩ y1) ∧ Owns ((w.setCell ⟨b, 0, none⟩ y0).setCell ⟨b, 1, none⟩ y1) b [y0, y1] T := by
  have h1 := h.set 0 y0
  exact ⟨(set_but h).trans (set_but h1) fun _ _ e => e, h1.set 1 y1⟩
end Go.Proofs.YtoflfkffldpglaaGreatDoor

/- each place of some: what comes of it, together. -/
namespace Go.Proofs.YtoflfkffldpglaaGreatDoor
open Go.RowKit
set_option maxHeartbeats 4000000 in
set_option maxRecDepth 20000 in
theorem seach_ok (E : SE) (F : Nat) (caps : Array Value) (hEnt : Enters F) (m : Nat) (m0 m1 : Int) (hz : W2 m m0 m1) (hm : m < 2 ^ 65) (hml : ∀ i, m.testBit i = true → i ≤ E.wl.length) (D : Nat → Nat → Prop) (W : World) (hA : E.At W)
    (hF : ∀ i, m.testBit i = true → ∀ W1, E.At W1 → E.R W W1 → Calls Tryz.prog F (#[.int .i64 (i : Int)] ++ caps) W1 (NodeRes E (D i) W1)) :
    Calls Tryz.prog 101 #[E.ptr, .agg #[.int .u64 m0, .int .u64 m1], .func (.func F) #[] caps] W (NodeRes E (From m D) W) := by
  have hm128 : m < 2 ^ 128 := Nat.lt_of_lt_of_le hm (Nat.pow_le_pow_right (by omega) (by omega))
  obtain ⟨w1, hw1⟩ : ∃ w1, W.alloc (.cells #[.int .u64 m0, .int .u64 m1] 106) = w1 := ⟨_, rfl⟩
  have g1 : Grew W w1 := hw1 ▸ grew_alloc W _
  have o1 : Owns w1 W.heap.size [.int .u64 m0, .int .u64 m1] 106 := hw1 ▸ Owns.alloc W _ _
  have z1 : w1.heap.size = W.heap.size + 1 := by rw [← hw1]; exact World.size_alloc _ _
  obtain ⟨w2, hw2⟩ : ∃ w2, w1.alloc (.cells #[.int .u64 0, .int .u64 0] 106) = w2 := ⟨_, rfl⟩
  have g2 : Grew w1 w2 := hw2 ▸ grew_alloc w1 _
  have o2 : Owns w2 w1.heap.size [.int .u64 0, .int .u64 0] 106 := hw2 ▸ Owns.alloc w1 _ _
  have G2 := Lib.hid (g1.trans g2)
  have O1 := Lib.hid (o1.keep g2)
  obtain ⟨f, hf⟩ : ∃ f, w1.heap.size = f := ⟨_, rfl⟩
  rw [hf] at o2
  have O2 := Lib.hid o2
  have HFS := Lib.hid (show W.heap.size < f by omega)
  have hA2 := hA.keep (SE.R.grew (g1.trans g2))
  have k1 := hA2.1.box.cell_at (i := 1) rfl
  have kl := hA2.1.box.lt
  obtain ⟨wa, wc, hwv, -⟩ := hA2.1.toks
  rw [hwv] at k1
  have hfew := hA2.1.few
  have HA := Lib.hid hA
  have HF := Lib.hid hF
  have HML := Lib.hid hml
  obtain ⟨n, hn⟩ : ∃ n, E.wl.length = n := ⟨_, rfl⟩
  rw [hn] at k1 hfew
  have HN := Lib.hid hn
  have hwr : IntKind.i64.wrap ((n : Int) + 1) = (n : Int) + 1 := wrap_small _ (by omega) (by omega)
  obtain ⟨Q, hQ⟩ : ∃ Q, NodeRes E (From m D) W = Q := ⟨_, rfl⟩
  rw [hQ]
  have HQ := Lib.hid hQ
  have HHAS := Lib.hid (fun (i : Nat) (hi : i < 128) w => shas2 i hm128 hi hz w)
  unfold SE.ptr
  clear g1 g2 o1 o2 hA hA2 hF hml hQ hn z1 hm128 hz
  go_enter Tryz.func101, Tryz.ntmps101
  go_wp2_with fail
  clear hw1 hw2 hf k1 kl
  go_loopw [14] (fun c wr => ∃ (i q : Nat) (z0 z1 : Int), c = .int .i64 i ∧ i ≤ n + 1 ∧ Hid (E.R W wr) ∧ Hid (Owns wr W.heap.size [.int .u64 m0, .int .u64 m1] 106) ∧ Hid (Owns wr f [.int .u64 z0, .int .u64 z1] 106) ∧ Hid (W2 q z0 z1) ∧ Hid (Bits q fun j => ∃ k, k < i ∧ m.testBit k = true ∧ D k j)) (fun c _ => n + 1 - (intOf c).toNat)
  case atStart => exact ⟨0, 0, 0, 0, rfl, by omega, SE.R.grew G2.out, O1.out, O2.out, W2.zero, Bits.zero.iff fun j => ⟨fun h => h.elim, fun ⟨k, h, _⟩ => absurd h (by omega)⟩⟩
  case round =>
    obtain ⟨i, q, z0, z1, rfl, hi, HR, HO1, HO2, HZ, HB⟩ := hrel
    by_cases hlt : i < n + 1
    · have d1 : decide ((i : Int) < (n : Int) + 1) = true := decide_eq_true (by omega)
      have a0 := HO1.out.cell_at (i := 0) rfl
      have a1 := HO1.out.cell_at (i := 1) rfl
      have al := HO1.out.lt
      obtain ⟨b, hb⟩ : ∃ b, m.testBit i = b := ⟨_, rfl⟩
      have HH := Lib.hid (HHAS.out i (by omega))
      rw [hb] at HH
      have HBT := Lib.hid hb
      clear hb
      go_wp2_with fail
      refine (HH.out _).mono ?_
      rintro e w3 ⟨rfl, hg⟩
      have HR3 := Lib.hid (HR.out.trans (SE.R.grew hg))
      have HO13 := Lib.hid (HO1.out.keep hg)
      have HO23 := Lib.hid (HO2.out.keep hg)
      clear hg a0 a1 al
      cases b
      · go_wp2_with fail
        refine ⟨⟨i + 1, q, z0, z1, by go_num, by omega, HR3.out, HO13.out, HO23.out, HZ.out, HB.out.iff fun j => ⟨fun ⟨k, h1, h2⟩ => ⟨k, by omega, h2⟩, fun ⟨k, h1, h2, h3⟩ => ?_⟩⟩, by simp [intOf]; omega⟩
        have : k ≠ i := fun e => by subst e; rw [HBT.out] at h2; cases h2
        exact ⟨k, by omega, h2, h3⟩
      · have hA3 := HA.out.keep HR3.out
        have hkl := HA.out.kb_lt
        have hfk : f ≠ E.kb := by have := HFS.out; omega
        have HFC : Hid (∀ w, E.R w3 w → w.cell? ⟨f, 0, none⟩ = some (.int .u64 z0) ∧ w.cell? ⟨f, 1, none⟩ = some (.int .u64 z1) ∧ f < w.heap.size) := Lib.hid fun w hw => by
          have h := hw.owns HO23.out hfk
          exact ⟨h.cell_at (i := 0) rfl, h.cell_at (i := 1) rfl, h.lt⟩
        have HCF := Lib.hid (fun w (hw : E.R w3 w) => HF.out i HBT.out w (hA3.keep hw) (HR3.out.trans hw))
        have HQ128 := Lib.hid HB.out.lt128
        have hFx := hEnt
        unfold Enters at hFx
        have HA3 := Lib.hid hA3
        have HFK := Lib.hid hfk
        clear hA3 hkl hfk d1
        go_upto_region 5 with fail
        refine wp_region_hav_litX E.rel follows (by kernel_rfl) ?_
        iterate 3 (first
          | (refine HavX.skip (fun _ => rfl) ?_; simp only [Act.put, List.setIfInBounds_toArray, List.set_cons_zero, List.set_cons_succ])
          | (refine HavX.val E.rel (fun _ => rfl) ?_ (fun x w hw _ => ?_) ?_; rotate_left; (focus (obtain ⟨y0, y1, yl⟩ := HFC.out w hw; clear hw; go_simp; first | done | rfl)); simp only [Act.put, List.setIfInBounds_toArray, List.set_cons_zero, List.set_cons_succ]))
        refine HavX.any (fun _ => rfl) (fun _ v _ => ∃ q' y0 y1, v = .agg #[.int .u64 y0, .int .u64 y1] ∧ W2 q' y0 y1 ∧ Bits q' (D i)) (fun _ _ _ _ _ h => h) (fun _ _ _ _ _ h => h) (fun x w hw hd => ?_) ?_
        · clear hd
          have HW := Lib.hid hw
          clear hw
          go_simp
          refine (HCF.out w HW.out).mono ?_
          rintro e w' ⟨q', y0, y1, rfl, hy', hb', hr'⟩
          exact ⟨hr', q', y0, y1, rfl, hy', hb'⟩
        simp only [Act.put, List.setIfInBounds_toArray, List.set_cons_zero, List.set_cons_succ]
        refine HavX.any (fun _ => rfl) (fun _ v _ => ∃ q' y0 y1, v = .agg #[.int .u64 y0, .int .u64 y1] ∧ W2 q' y0 y1 ∧ Bits q' (fun j => (∃ k, k < i ∧ m.testBit k = true ∧ D k j) ∨ D i j)) (fun _ _ _ _ _ h => h) (fun _ _ _ _ _ h => h) (fun x w hw hd => ?_) ?_
        · obtain ⟨q', y0, y1, hq', hy', hb'⟩ := hd _ (List.mem_append_right _ (List.mem_singleton.2 rfl)) (by kernel_rfl)
          dsimp only at hq'
          have HB' := Lib.hid hb'
          have HY' := Lib.hid hy'
          clear hd hb' hw hy'
          simp only [hq']
          go_simp
          refine (swith2 HQ128.out HB'.out.lt128 HZ.out HY'.out w).mono ?_
          rintro e w' ⟨⟨x0, x1, rfl, hx⟩, hg⟩
          exact ⟨SE.R.grew hg, q ||| q', x0, x1, rfl, hx, HB.out.or HB'.out⟩
        simp only [Act.put, List.setIfInBounds_toArray, List.set_cons_zero, List.set_cons_succ]
        refine HavX.tail (by kernel_rfl) (by kernel_rfl) (fun x w hw hd => ?_)
        obtain ⟨q', y0, y1, hq', hy', hb'⟩ := hd _ (List.mem_append_right _ (List.mem_singleton.2 rfl))
        dsimp only at hq'
        have HB' := Lib.hid hb'
        have HR5 := Lib.hid (HR3.out.trans hw)
        have hof := hw.owns HO23.out HFK.out
        have x0 := hof.cell_at (i := 0) rfl
        have x1 := hof.cell_at (i := 1) rfl
        have xl := hof.lt
        have f0 := hof.free 0
        have f1 := hof.free 1
        have hwk : W.heap.size ≠ E.kb := by have := HA.out.kb_lt; omega
        obtain ⟨hbt, hot⟩ := set_two hof (.int .u64 y0) (.int .u64 y1)
        have HBT2 := Lib.hid hbt
        have HOT := Lib.hid hot
        have HO15 := Lib.hid (hbt.owns (hw.owns HO13.out hwk) (fun e => by have := HFS.out; omega))
        have HR6 := Lib.hid (SE.R.fresh HA.out HR5.out hbt (by have := HFS.out; omega))
        have HY' := Lib.hid hy'
        clear hd hb' hw hof hbt hot hy'
        simp only [hq']
        go_wp2_with fail
        refine ⟨⟨i + 1, q', y0, y1, by go_num, by omega, HR6.out, HO15.out, HOT.out, HY'.out, HB'.out.iff fun j => ⟨fun h => ?_, fun ⟨k, h1, h2, h3⟩ => ?_⟩⟩, by simp [intOf]; omega⟩
        · rcases h with ⟨k, h1, h2⟩ | h
          · exact ⟨k, by omega, h2⟩
          · exact ⟨i, by omega, HBT.out, h⟩
        · by_cases e : k = i
          · subst e; exact .inr h3
          · exact .inl ⟨k, by omega, h2, h3⟩
    · obtain rfl : i = n + 1 := by omega
      have p0 := HO2.out.cell_at (i := 0) rfl
      have p1 := HO2.out.cell_at (i := 1) rfl
      have pl := HO2.out.lt
      have f0 := HO2.out.free 0
      have f1 := HO2.out.free 1
      obtain ⟨hbt, hot⟩ := set_two HO2.out (.int .u64 z0) (.int .u64 z1)
      have HOT := Lib.hid hot
      have HR6 := Lib.hid (SE.R.fresh HA.out HR.out hbt (by have := HFS.out; omega))
      clear hbt hot
      go_wp2_with fail
      refine bodyPost_ret (results_cell_row (d := Tryz.prog.underlying 106 |>.getD default) rfl _ _ f 106 _ (0, 0) rfl HOT.out rfl rfl rfl) rfl ?_
      rw [← HQ.out]
      refine ⟨q, z0, z1, rfl, HZ.out, HB.out.iff fun j => ⟨fun ⟨k, _, h2, h3⟩ => ⟨k, h2, h3⟩, fun ⟨k, h2, h3⟩ => ⟨k, ?_, h2, h3⟩⟩, HR6.out⟩
      have := HML.out k h2
      have := HN.out
      omega
end Go.Proofs.YtoflfkffldpglaaGreatDoor
