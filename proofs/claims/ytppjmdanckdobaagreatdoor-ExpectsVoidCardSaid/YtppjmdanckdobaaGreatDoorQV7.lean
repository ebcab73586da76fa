/- One closed fact of the program. -/
import Derived.Lib.Hide
import Derived.Deep.LoopGhost
import Derived.Laws.StructEq
import Derived.Test.YtppjmdanckdobaaGreatDoorQV2
import Derived.Test.YtppjmdanckdobaaGreatDoorQV1
import Derived.Test.YtppjmdanckdobaaGreatDoorQV3
import Derived.Test.YtppjmdanckdobaaGreatDoorQV4
import Derived.Test.YtppjmdanckdobaaGreatDoorQV5
import Derived.Test.YtppjmdanckdobaaGreatDoorQV6
namespace Go.Proofs.YtppjmdanckdobaaGreatDoor
theorem follows : Tryz.prog.follows .mixedOrders = true := by kernel_rfl
end Go.Proofs.YtppjmdanckdobaaGreatDoor

/- A book and a walk over tokens in memory. -/
namespace Go.Proofs.YtppjmdanckdobaaGreatDoor
open Go.RowKit
def nmapL (l : List (ByteArray × Nat)) : List (Value × Value) := l.map fun x => (.string x.1, .int .i64 x.2)
def FstAt (w : World) (lim : Nat) (c0 c1 : Option Value) (f : Fst) : Prop := c0 = some (.int .i64 f.long) ∧ ∃ v, c1 = some v ∧ looseRow w 0 3 1 v f.w.length (intVs f.w) ∧ ∀ g, v.ownBlock = some g → g < lim
structure BV where
  rm : Nat
  tm : Nat
  kv : Value
  ba : Option Addr
  bc : Nat
  fa : Option Addr
  fc : Nat
def FirstsAt (w : World) (lim : Nat) (a : Option Addr) (l : List Fst) : Prop := ∀ k (h : k < l.length), ∃ b off, a = some ⟨b, off, none⟩ ∧ b < lim ∧ FstAt w lim (w.cell? ⟨b, off + k * 2, none⟩) (w.cell? ⟨b, off + k * 2 + 1, none⟩) l[k]
structure BookAt (w : World) (lim bk : Nat) (V : BV) (B : Bk) : Prop where
  low : lim ≤ w.heap.size
  blk : bk < lim
  box : Owns w bk [.map (some V.rm), .map (some V.tm), V.kv, .slice V.ba B.bodies.length V.bc, .slice V.fa B.firsts.length V.fc] 89
  rules : w.heap[V.rm]? = some (mapObj (nmapL B.rules))
  tokens : w.heap[V.tm]? = some (mapObj (nmapL B.tokens))
  rlo : V.rm < lim ∧ V.tm < lim
  kinds : IntsV w lim V.kv B.kinds
  bodies : NodesAt w lim V.ba 0 B.bodies
  firsts : FirstsAt w lim V.fa B.firsts
  few : B.bodies.length ≤ 60 ∧ B.firsts.length = B.bodies.length
theorem row_below {w w' : World} {lim base e size n : Nat} {v : Value} {xs : List Value} (h : looseRow w base e size v n xs) (hl : ∀ g, v.ownBlock = some g → g < lim) (hb : Below lim w w') : looseRow w' base e size v n xs := by
  refine ⟨h.1, h.2.imp id ?_⟩
  rintro ⟨g, cap, cur, rfl, h2, h3, h4⟩
  exact ⟨g, cap, cur, rfl, h2, by rw [hb.block g (hl g rfl)]; exact h3, h4⟩
theorem FstAt.keep {w w' : World} {lim : Nat} {c0 c1 : Option Value} {f : Fst} (h : FstAt w lim c0 c1 f) (hb : Below lim w w') : FstAt w' lim c0 c1 f := by
  obtain ⟨h1, v, h2, h3, h4⟩ := h
  exact ⟨h1, v, h2, row_below h3 h4 hb, h4⟩
theorem below_owns {lim : Nat} {w w' : World} {b T : Nat} {cs : List Value} (hb : Below lim w w') (h : Owns w b cs T) (hl : b < lim) : Owns w' b cs T := by
  unfold Owns at *
  rw [hb.block b hl]
  exact h
theorem BookAt.keep {w w' : World} {lim bk : Nat} {V : BV} {B : Bk} (h : BookAt w lim bk V B) (hb : Below lim w w') : BookAt w' lim bk V B :=
  ⟨Nat.le_trans h.low hb.size, h.blk, below_owns hb h.box h.blk, by rw [hb.block _ h.rlo.1]; exact h.rules, by rw [hb.block _ h.rlo.2]; exact h.tokens, h.rlo, IntsV.keep hb h.kinds, h.bodies.keep hb, fun k hk => by
    obtain ⟨b, off, e, hl, hf⟩ := h.firsts k hk
    refine ⟨b, off, e, hl, ?_⟩
    rw [hb.cell hl, hb.cell hl]
    exact hf.keep hb, h.few⟩
abbrev Spot := Nat × Nat
def spotV (s : Spot) : Value := .agg #[.int .i64 s.1, .int .i64 s.2]
def spotL (L : List (Spot × Nat)) : List (Value × Value) := L.map fun e => (spotV e.1, plV e.2)
def Right (B : Bk) (wl : List Int) (s : Spot) (m : Nat) : Prop := Bits m fun j => ∃ n, B.bodies[s.1]? = some n ∧ Der B wl n s.2 j
def KnownAt (B : Bk) (wl : List Int) (kb : Nat) (w : World) : Prop := ∃ L : List (Spot × Nat), w.heap[kb]? = some (mapObj (spotL L)) ∧ ∀ e ∈ L, Right B wl e.1 e.2
structure WalkAt (w : World) (lim kw kb bk : Nat) (V : BV) (wv : Value) (B : Bk) (wl : List Int) : Prop where
  book : BookAt w lim bk V B
  box : Owns w kw [.pointer (some ⟨bk, 0, none⟩), wv, .map (some kb)] 122
  toks : IntsV w lim wv wl
  lo : lim ≤ kw ∧ lim ≤ kb
  few : wl.length ≤ 64
def WR (B : Bk) (wl : List Int) (kb : Nat) (w w' : World) : Prop := But (fun q => q = kb) w w' ∧ (KnownAt B wl kb w → KnownAt B wl kb w')
noncomputable def isV (v x : Value) : Bool := @decide (x = v) (Classical.propDecidable _)
theorem isV_true {v x : Value} : isV v x = true ↔ x = v := by simp [isV]
theorem spotV_inj {p q : Spot} (h : spotV p = spotV q) : p = q := by
  obtain ⟨a, b⟩ := p
  obtain ⟨c, d⟩ := q
  simp [spotV] at h
  rw [Prod.mk.injEq]
  omega
theorem fnd_index {f : Value → Bool} : ∀ {L : List (Value × Value)} {i j : Nat} {v : Value}, fnd f L i = some (j, v) → i ≤ j ∧ ∃ h : j - i < L.length, L[j - i].2 = v ∧ f L[j - i].1 = true
  | [], _, _, _, h => by cases h
  | x :: r, i, j, v, h => by
    rw [fnd] at h
    by_cases hf : f x.1 = true
    · rw [if_pos hf] at h
      obtain ⟨rfl, rfl⟩ := Prod.mk.inj (Option.some.inj h)
      exact ⟨Nat.le_refl _, by simp, by simp, by simpa using hf⟩
    · rw [if_neg hf] at h
      obtain ⟨h1, h2, h3, h4⟩ := fnd_index h
      refine ⟨by omega, by simp; omega, ?_⟩
      have e : j - i = (j - (i + 1)) + 1 := by omega
      simp only [e, List.getElem_cons_succ]
      exact ⟨h3, h4⟩
section
variable {P : Program} {w : World}
theorem findNow_string {a : ByteArray} {f : Value → Bool} : ∀ (L : List (Value × Value)) (n i : Nat), (∀ x ∈ L, ∃ b, x.1 = .string b ∧ f (.string b) = (a == b)) → Instr.findNow .string (.string a) (entsAt n L) i = some (fnd f L i)
  | [], _, _, _ => rfl
  | x :: r, n, i, h => by
    obtain ⟨b, hb, hf⟩ := h x (by simp)
    have ih := findNow_string (a := a) r (n + 1) (i + 1) fun y hy => h y (by simp [hy])
    rw [entsAt, Instr.findNow, fnd, hb, hf]
    cases hab : (a == b)
    · simp only [Instr.sameNow, hab, Bool.false_eq_true, if_false]
      exact ih
    · simp only [Instr.sameNow, if_true, hab]
theorem KeyRun.string {kt : TypeId} {a : ByteArray} {f : Value → Bool} {L : List (Value × Value)} (ht : P.underlying kt = some .string) (hL : ∀ x ∈ L, ∃ b, x.1 = .string b ∧ f (.string b) = (a == b)) :
    KeyRun P w kt (.string a) f L := by
  refine ⟨fun e => ?_, ?_⟩
  · rw [show (10000 : Nat) = 9999 + 1 from rfl]
    unfold Instr.checkKey
    simp only [Sem.run_bind, run_underlying ht, Result.andThen]
    rfl
  · unfold Instr.findKey
    rw [Sem.run_bind, run_underlying ht, Result.andThen_ok]
    simp only [findNow_string L 0 0 hL]
    rfl
end
theorem zero_int (w : World) : (zeroValue 3).run Tryz.prog w = .ok (.int .i64 0) w := by kernel_rfl
theorem run_name {w : World} {b : Nat} {l : List (ByteArray × Nat)} (hb : w.heap[b]? = some (mapObj (nmapL l))) (nm : ByteArray) :
    (Instr.lookup 26 (.map (some b)) (.string nm) false).run Tryz.prog w = .ok (.int .i64 ((lookS l nm).getD 0 : Nat)) w := by
  have hK : KeyRun Tryz.prog w 9 (.string nm) (fun v => match v with | .string b => nm == b | _ => false) (nmapL l) := KeyRun.string Tryz.underlying9 fun x hx => by
    obtain ⟨y, -, rfl⟩ := List.mem_map.1 hx
    exact ⟨y.1, rfl, rfl⟩
  have hg := run_map_of (P := Tryz.prog) hb
  unfold mapObj at hg
  have hf := hK.find
  have hz := zero_int w
  simp only [Instr.lookup, Sem.run_bind, run_underlying Tryz.underlying26, Result.andThen_ok, hg, Sem.run_pure, hK.check, hf]
  have key : ∀ (l : List (ByteArray × Nat)) (i : Nat), (match fnd (fun v => match v with | .string b => nm == b | _ => false) (nmapL l) i with | some (_, v) => v | none => .int .i64 0) = Value.int .i64 ((lookS l nm).getD 0 : Nat) := by
    intro l
    induction l with
    | nil => intro i; rfl
    | cons x r ih =>
      intro i
      simp only [nmapL, List.map_cons, fnd, lookS]
      cases hx : (nm == x.1)
      · simp only [Bool.false_eq_true, if_false]
        exact ih (i + 1)
      · simp
  have hkey := key l 0
  cases hfn : fnd (fun v => match v with | .string b => nm == b | _ => false) (nmapL l) 0 with
  | none =>
    rw [hfn] at hkey
    have h0 : Value.int .i64 0 = Value.int .i64 ((lookS l nm).getD 0 : Nat) := hkey
    rw [← h0]
    simp [hz]
  | some p =>
    rw [hfn] at hkey
    have h0 : p.2 = Value.int .i64 ((lookS l nm).getD 0 : Nat) := hkey
    rw [← h0]
    simp
structure SE where
  lim : Nat
  kw : Nat
  kb : Nat
  bk : Nat
  V : BV
  wv : Value
  B : Bk
  wl : List Int
def SE.At (E : SE) (w : World) : Prop := WalkAt w E.lim E.kw E.kb E.bk E.V E.wv E.B E.wl ∧ KnownAt E.B E.wl E.kb w
def SE.R (E : SE) (w w' : World) : Prop := WR E.B E.wl E.kb w w'
def SE.ptr (E : SE) : Value := .pointer (some ⟨E.kw, 0, none⟩)
theorem set_but {w : World} {b T i : Nat} {cs : List Value} {v : Value} (h : Owns w b cs T) : But (fun q => q = b) w (w.setCell ⟨b, i, none⟩ v) := by
  rw [setCell_put h]
  exact But.put (F := fun q => q = b) rfl
theorem set_two {w : World} {b T : Nat} {x0 x1 : Value} (h : Owns w b [x0, x1] T) (y0 y1 : Value) :
    But (fun q => q = b) w ((w.setCell ⟨b, 0, none⟩ y0).setCell ⟨b, 1, none⟩ y1) ∧ Owns ((w.setCell ⟨b, 0, none⟩ y0).setCell ⟨b, 1, none⟩ y1) b [y0, y1] T := by
  have h1 := h.set 0 y0
  exact ⟨(set_but h).trans (set_but h1) fun _ _ e => e, h1.set 1 y1⟩
end Go.Proofs.YtppjmdanckdobaaGreatDoor

/- each place of some: what comes of it, together. -/
namespace Go.Proofs.YtppjmdanckdobaaGreatDoor
open Go.RowKit
end Go.Proofs.YtppjmdanckdobaaGreatDoor

/- from a place on: where a rule may end; the two closures of node. -/
namespace Go.Proofs.YtppjmdanckdobaaGreatDoor
open Go.RowKit
end Go.Proofs.YtppjmdanckdobaaGreatDoor

/- again: where one or more of a node may end. -/
namespace Go.Proofs.YtppjmdanckdobaaGreatDoor
open Go.RowKit
structure AgI (E : SE) (n : Nd) (m o now : Nat) : Prop where
  out : ∀ j, o.testBit j = true → From m (DerP E.B E.wl n) j
  now : Bits now fun j => From m (Der E.B E.wl n) j ∨ o.testBit j = true ∨ From o (Der E.B E.wl n) j
  all : o = 0 ∨ ∀ j, From m (Der E.B E.wl n) j → o.testBit j = true
  few : o < 2 ^ 65
theorem AgI.start {E : SE} {n : Nd} {m now : Nat} (h : Bits now (From m (Der E.B E.wl n))) : AgI E n m 0 now :=
  ⟨fun j h => by simp at h, h.iff fun j => ⟨.inl, fun h => h.elim id fun h => h.elim (fun h => by simp at h) fun ⟨i, h, _⟩ => by simp at h⟩, .inl rfl, by omega⟩
theorem AgI.le {E : SE} {n : Nd} {m o now : Nat} (h : AgI E n m o now) (hne : now ≠ o) : o < now := by
  have h1 : o ||| now = now := Nat.eq_of_testBit_eq fun j => by
    rw [Nat.testBit_or]
    cases hj : o.testBit j
    · simp
    · rw [(h.now.2 j).2 (.inr (.inl hj))]; rfl
  have h2 : o ≤ o ||| now := Nat.left_le_or
  omega
theorem AgI.key {E : SE} {n : Nd} {m o : Nat} (h : AgI E n m o o) {i j : Nat} : DerP E.B E.wl n i j → m.testBit i = true → o.testBit j = true
  | .one h1, hi => (h.now.2 _).2 (.inl ⟨_, hi, h1⟩)
  | .more h1 h2, hi => (h.now.2 _).2 (.inr (.inr ⟨_, AgI.key h h1 hi, h2⟩))
theorem AgI.done {E : SE} {n : Nd} {m o : Nat} (h : AgI E n m o o) : Bits o (From m (DerP E.B E.wl n)) :=
  ⟨h.few, fun j => ⟨h.out j, fun ⟨_, hi, hd⟩ => h.key hd hi⟩⟩
theorem AgI.outNow {E : SE} {n : Nd} {m o now : Nat} (h : AgI E n m o now) : ∀ j, now.testBit j = true → From m (DerP E.B E.wl n) j := fun j hj => by
  rcases (h.now.2 j).1 hj with ⟨i, h1, h2⟩ | h1 | ⟨i, h1, h2⟩
  · exact ⟨i, h1, .one h2⟩
  · exact h.out j h1
  · obtain ⟨i', h3, h4⟩ := h.out i h1
    exact ⟨i', h3, .more h4 h2⟩
theorem AgI.next {E : SE} {n : Nd} {m o now q : Nat} (h : AgI E n m o now) (hq : Bits q (From now (Der E.B E.wl n))) : AgI E n m now (now ||| q) := by
  refine ⟨fun j hj => ?_, ?_, .inr fun j hj => (h.now.2 j).2 (.inl hj), h.now.1⟩
  · rcases (h.now.2 j).1 hj with ⟨i, h1, h2⟩ | h1 | ⟨i, h1, h2⟩
    · exact ⟨i, h1, .one h2⟩
    · exact h.out j h1
    · obtain ⟨i', h3, h4⟩ := h.out i h1
      exact ⟨i', h3, .more h4 h2⟩
  · refine ((Bits.self h.now.1).or hq).iff fun j => ⟨fun hj => .inr hj, fun hj => hj.elim (fun hj => .inl ((h.now.2 j).2 (.inl hj))) id⟩
end Go.Proofs.YtppjmdanckdobaaGreatDoor

/- node: where a node may end. Printed by gensnode.py. -/
namespace Go.Proofs.YtppjmdanckdobaaGreatDoor
open Go.RowKit
theorem DerL.snoc {B : Bk} {w : List Int} {x : Nd} : ∀ {l : List Nd} {i j k : Nat}, DerL B w l i j → Der B w x j k → DerL B w (l ++ [x]) i k
  | [], _, _, _, .nil, h => .cons h .nil
  | _ :: _, _, _, _, .cons h1 h2, h => .cons h1 (DerL.snoc h2 h)
theorem DerL.unsnoc {B : Bk} {w : List Int} {x : Nd} : ∀ {l : List Nd} {i k : Nat}, DerL B w (l ++ [x]) i k → ∃ j, DerL B w l i j ∧ Der B w x j k
  | [], i, _, .cons h .nil => ⟨i, .nil, h⟩
  | _ :: _, _, _, .cons h1 h2 => by
    obtain ⟨j, h3, h4⟩ := DerL.unsnoc h2
    exact ⟨j, .cons h1 h3, h4⟩
theorem VisL.snoc {B : Bk} {w : List Int} {x : Nd} {t : List Nd} {r a : Nat} : ∀ {l : List Nd} {i j : Nat}, DerL B w l i j → Vis B w x j r a → VisL B w (l ++ x :: t) i r a
  | [], _, _, .nil, h => .here h
  | _ :: _, _, _, .cons h1 h2, h => .next h1 (VisL.snoc h2 h)
theorem take_snoc {l : List Nd} {j : Nat} (h : j < l.length) : l.take (j + 1) = l.take j ++ [l[j]] := by simp
theorem take_drop_at {l : List Nd} {j : Nat} (h : j < l.length) : l = l.take j ++ l[j] :: l.drop (j + 1) := by
  rw [← List.drop_eq_getElem_cons h, List.take_append_drop]
mutual
def Nd.lp : Nd → Prop
  | .mk k _ _ _ subs => ((k = 2 ∨ k = 3 ∨ k = 4) → subs ≠ []) ∧ Nd.lpL subs
def Nd.lpL : List Nd → Prop
  | [] => True
  | n :: r => n.lp ∧ Nd.lpL r
end
theorem Nd.lpL.mem : ∀ {l : List Nd}, Nd.lpL l → ∀ n ∈ l, n.lp
  | [], _, n, h => by cases h
  | x :: r, h, n, hn => by
    rw [Nd.lpL] at h
    rcases List.mem_cons.1 hn with rfl | hn
    · exact h.1
    · exact Nd.lpL.mem h.2 n hn
def Ranked (B : Bk) (w : List Int) (rank : Nat → Nat) : Prop := ∀ r n a r' a', B.bodies[r]? = some n → a ≤ w.length → Vis B w n a r' a' → r' < B.bodies.length ∧ (a' = a → rank r' < rank r)
end Go.Proofs.YtppjmdanckdobaaGreatDoor

/- derives, has, Long, Has. -/
namespace Go.Proofs.YtppjmdanckdobaaGreatDoor
open Go.RowKit
theorem FstAt.mono {w : World} {lim lim' : Nat} {c0 c1 : Option Value} {f : Fst} (h : FstAt w lim c0 c1 f) (hl : lim ≤ lim') : FstAt w lim' c0 c1 f := by
  obtain ⟨h1, v, h2, h3, h4⟩ := h
  exact ⟨h1, v, h2, h3, fun g hg => Nat.lt_of_lt_of_le (h4 g hg) hl⟩
theorem BookAt.mono {w : World} {lim lim' bk : Nat} {V : BV} {B : Bk} (h : BookAt w lim bk V B) (hl : lim ≤ lim') (hs : lim' ≤ w.heap.size) : BookAt w lim' bk V B :=
  ⟨hs, Nat.lt_of_lt_of_le h.blk hl, h.box, h.rules, h.tokens, ⟨Nat.lt_of_lt_of_le h.rlo.1 hl, Nat.lt_of_lt_of_le h.rlo.2 hl⟩, h.kinds.mono hl, h.bodies.mono hl, fun k hk => by
    obtain ⟨b, off, e, h1, h2⟩ := h.firsts k hk
    exact ⟨b, off, e, Nat.lt_of_lt_of_le h1 hl, h2.mono hl⟩, h.few⟩
structure Bk.Good (B : Bk) : Prop where
  lp : ∀ n ∈ B.bodies, n.lp
  rank : ∀ w : List Int, w.length ≤ 64 → ∃ rank, Ranked B w rank
def Bk.D (B : Bk) (r : Nat) (w : List Int) : Prop := ∃ n, B.bodies[r]? = some n ∧ Der B w n 0 w.length
def hasR (B : Bk) (r : Int) : Bool := decide (0 ≤ r) && decide (r < B.bodies.length)
set_option maxHeartbeats 4000000 in
set_option maxRecDepth 20000 in
theorem sbhas_ok (B : Bk) (r : Int) (V : BV) (bk lim : Nat) (W : World) (hB : BookAt W lim bk V B) :
    Calls Tryz.prog 35 #[.pointer (some ⟨bk, 0, none⟩), .int .i64 r] W fun e W' => e = .returned (.bool (hasR B r)) ∧ W' = W := by
  have c3 := hB.box.cell_at (i := 3) rfl
  have cl := hB.box.lt
  unfold hasR
  obtain ⟨n, hn⟩ : ∃ n, B.bodies.length = n := ⟨_, rfl⟩
  rw [hn] at c3 ⊢
  clear hn hB
  go_enter Tryz.func35, Tryz.ntmps35
  by_cases h0 : 0 ≤ r
  · by_cases h1 : r < (n : Int)
    · rw [show (decide (0 ≤ r) && decide (r < (n : Int))) = true by simp [h0, h1]]
      go_wp2_with fail
      go_ret
      exact ⟨rfl, rfl⟩
    · rw [show (decide (0 ≤ r) && decide (r < (n : Int))) = false by simp [h0, h1]]
      go_wp2_with fail
      go_ret
      exact ⟨rfl, rfl⟩
  · rw [show (decide (0 ≤ r) && decide (r < (n : Int))) = false by simp [h0]]
    go_wp2_with fail
    go_ret
    exact ⟨rfl, rfl⟩
set_option maxHeartbeats 4000000 in
set_option maxRecDepth 20000 in
theorem slong_ok (B : Bk) (r : Int) (V : BV) (bk lim : Nat) (W : World) (hB : BookAt W lim bk V B) :
    Calls Tryz.prog 17 #[.pointer (some ⟨bk, 0, none⟩), .int .i64 r] W fun e W' => e = .returned (.int .i64 (if hasR B r then (B.firsts.getD r.toNat ⟨-1, []⟩).long else -1)) ∧ W' = W := by
  have HH := Lib.hid (sbhas_ok B r V bk lim W hB)
  have c4 := hB.box.cell_at (i := 4) rfl
  have cl := hB.box.lt
  have hf := hB.firsts
  have hlow := hB.low
  have hlen := hB.few.2
  cases hh : hasR B r with
  | false =>
    rw [hh] at HH
    clear hf
    go_enter Tryz.func17, Tryz.ntmps17
    go_wp2_with fail
    refine HH.out.mono ?_
    rintro e w ⟨rfl, rfl⟩
    go_wp2_with fail
    go_ret
    exact ⟨rfl, rfl⟩
  | true =>
    rw [hh] at HH
    unfold hasR at hh
    rw [Bool.and_eq_true, decide_eq_true_eq, decide_eq_true_eq] at hh
    obtain ⟨k, rfl⟩ := Int.eq_ofNat_of_zero_le hh.1
    have hk : k < B.firsts.length := by omega
    obtain ⟨b, off, e, hl, h1, -⟩ := hf k hk
    rw [e] at c4
    have hl2 : b < W.heap.size := by omega
    have hi : (k : Int) < (B.firsts.length : Int) := by omega
    rw [if_pos rfl, Int.toNat_natCast, List.getD_eq_getElem?_getD, List.getElem?_eq_getElem hk, Option.getD_some]
    obtain ⟨x, hx⟩ : ∃ x, B.firsts[k].long = x := ⟨_, rfl⟩
    rw [hx] at h1 ⊢
    clear hf hx hB e hlen hh
    clear hk
    generalize B.firsts.length = n at *
    go_enter Tryz.func17, Tryz.ntmps17
    go_wp2_with fail
    refine HH.out.mono ?_
    rintro e w ⟨rfl, rfl⟩
    go_wp2_with fail
    go_ret
    exact ⟨rfl, rfl⟩
end Go.Proofs.YtppjmdanckdobaaGreatDoor
