/- A model of parses in memory: its box, rows of trees; a rule's number among its sort. -/
import Derived.Test.YtoflfkffldpglaaGreatDoorQM35
import Derived.Test.YtoflfkffldpglaaGreatDoorQM5
import Derived.Test.YtoflfkffldpglaaGreatDoorQM28
namespace Go.Proofs.YtoflfkffldpglaaGreatDoor
open Go.RowKit
set_option maxHeartbeats 1000000 in
theorem number21_ok (l : List Int) (x : Int) (W : World) (v0 v1 v2 v3 v : Value) (hl : l.length ≤ reachN) (hR : IntsV W W.heap.size v l) :
    Calls Tryz.prog 26 #[.agg #[v0, v1, v2, v3], .int .i64 x, v] W fun e W' => e = .returned (.int .i64 (ixOf l fun y => y == x)) ∧ Grew W W' := by
  obtain ⟨a, cap, rfl, hR⟩ := hR
  unfold reachN at hl
  go_enter Tryz.func26, Tryz.ntmps26
  go_wp2
  go_loopw [7] (fun i wr => ∃ (j : Nat), i = .int .i64 j ∧ j ≤ l.length ∧ Hid (NoneTo l (fun y => y == x) j) ∧ Hid (Grew W wr)) (fun i _ => l.length - (intOf i).toNat)
  case atStart =>
    exact ⟨0, rfl, by omega, fun i hi h => absurd h (by omega), grew_alloc W _⟩
  case round =>
    obtain ⟨j, rfl, hj, hf, hbw⟩ := hrel
    by_cases hlt : j < l.length
    · obtain ⟨b, off, rfl, hb, hc⟩ := hR j hlt
      have hc' : wr.cell? ⟨b, off + j, none⟩ = some (.int .i64 l[j]) := by rw [hbw.out.cells _ _ hb]; exact hc
      clear hR hc hb
      obtain ⟨t, ht⟩ : ∃ t, (l[j] == x) = t := ⟨_, rfl⟩
      cases t
      · have HQ := Lib.hid ht
        go_wp2_with fail
        exact ⟨⟨j + 1, by go_num, by omega, noneTo_next hf.out hlt HQ.out, hbw.out⟩, by simp [intOf]; omega⟩
      · have HQ := Lib.hid ht
        go_wp2_with fail
        go_ret
        exact ⟨ret_int (ixOf_at (q := fun y => y == x) hlt hf.out HQ.out).symm, hbw.out⟩
    · go_wp2_with fail
      go_ret
      exact ⟨ret_int (ixOf_none fun i hi => hf.out i hi (by omega)).symm, hbw.out⟩
theorem of_ix {g : Gr} {S : List Int} {q : Nat} {x : Int} (h : (g.of S)[q]? = some x) : ixOf (g.of S) (fun y => y == x) = (q : Int) := by
  obtain ⟨hq, he⟩ := List.getElem?_eq_some_iff.1 h
  refine ixOf_at hq (fun i hi hlt => ?_) (by simp [he])
  have := of_rise g S hlt (List.getElem?_eq_getElem hi) h
  simp only [beq_eq_false_iff_ne]
  omega
/-! ### rows of trees -/
def TrV (w : World) (base : Nat) (v : Value) (n : Nat) : Prop := ∃ xs, looseRow w base 78 5 v n xs ∧ ∀ u ∈ xs, u.oneCell' = true
theorem TrV.nil (w : World) (base : Nat) : TrV w base (.slice none 0 0) 0 := ⟨[], ⟨rfl, .inl ⟨rfl, rfl⟩⟩, fun u hu => absurd hu (by simp)⟩
theorem TrV.form {w : World} {base n : Nat} {v : Value} (h : TrV w base v n) : ∃ a c, v = .slice a n c := by
  obtain ⟨xs, hr, -⟩ := h
  exact loose_form hr
theorem TrV.weak {w : World} {base b2 n : Nat} {v : Value} (h : TrV w base v n) (hb : b2 ≤ base) : TrV w b2 v n := by
  obtain ⟨xs, hr, h1⟩ := h
  exact ⟨xs, hr.weak hb, h1⟩
theorem TrV.keep {F : Nat → Prop} {w w' : World} {base n : Nat} {v : Value} (h : TrV w base v n) (hb : But F w w') (hn : ∀ k, F k → k < base ∨ w.heap.size ≤ k) : TrV w' base v n := by
  obtain ⟨xs, hr, h1⟩ := h
  refine ⟨xs, hb.row hr fun k hk hF => ?_, h1⟩
  obtain ⟨h2, h3, -⟩ := row_type hr hk
  have := hn k hF
  omega
theorem TrV.own {w : World} {base n : Nat} {v : Value} (h : TrV w base v n) : ∀ k, v.ownBlock = some k → base ≤ k ∧ k < w.heap.size := by
  obtain ⟨xs, hr, h1⟩ := h
  intro k hk
  obtain ⟨h2, h3, -⟩ := row_type hr hk
  exact ⟨h2, h3⟩
theorem info_tree : (Tryz.prog.info? 78).map (fun i => (i.zero, i.size, i.bytes)) = some (some (.agg #[.int .i64 0, .int .i64 0, .int .i64 0, .bool false, .slice none 0 0]), 5, 56) := by kernel_rfl
theorem trees_append {w : World} {base b2 n m : Nat} {v x : Value} (hv : TrV w base v n) (hx : TrV w b2 x m) (hnm : n + m ≤ 2000000) (hb : base ≤ w.heap.size) (ty : TypeId) :
    ∃ v' w', (Builtin.append_ #[48, 48] ty #[v, x]).run Tryz.prog w = .ok v' w' ∧ TrV w' base v' (n + m) ∧ But (fun k => v.ownBlock = some k) w w' := by
  obtain ⟨xs, hr, h1⟩ := hv
  obtain ⟨ys, hy, h2⟩ := hx
  have hi0 := info_tree
  rw [Option.map_eq_some_iff] at hi0
  obtain ⟨i0, hi, he⟩ := hi0
  obtain ⟨hz0, hz1, hz2⟩ : i0.zero = _ ∧ i0.size = _ ∧ i0.bytes = _ := by simpa using he
  rcases Nat.eq_zero_or_pos m with hm | hm
  · subst hm
    have hys : ys = [] := List.eq_nil_of_length_eq_zero (by have := hy.1; omega)
    obtain ⟨a, c, rfl⟩ := loose_form hy
    refine ⟨v, w, run_append_nothing w 48 ty base 78 i0 5 Tryz.underlying48 hi hz1 v n xs hr a c, ⟨xs, hr, h1⟩, But.refl _ w⟩
  · rcases hy.2 with ⟨-, h0⟩ | ⟨g, cap, cur, rfl, -, hg, -, -, -, -⟩
    · omega
    · have hc := looseRow_cells hy (g := g) rfl
      obtain ⟨g', cap', w', hrun, hrow, hgr, -, -⟩ := run_append_loose w 48 ty base 78 i0 _ 5 56 Tryz.underlying48 hi hz0 hz1 hz2 rfl (by decide) v n xs hr ⟨g, 0, none⟩ m cap ys hy.1
        (fun j u hj => by rw [padd_off, Nat.zero_add]; exact hc j u hj) h2 hm (by unfold maxLen; omega) (by omega) hb _ rfl
      refine ⟨_, w', hrun, ⟨_, hrow, fun u hu => ?_⟩, But.grown hgr fun k e => e⟩
      rcases List.mem_append.1 hu with hu | hu
      · exact h1 u hu
      · exact h2 u hu
theorem TrV.one (w : World) (x0 x1 x2 x3 x4 : Value) (h : ∀ u ∈ [x0, x1, x2, x3, x4], u.oneCell' = true) (base : Nat) (hb : base ≤ w.heap.size) : TrV (w.alloc (.cells #[x0, x1, x2, x3, x4] 78)) base (.slice (some ⟨w.heap.size, 0, none⟩) 1 1) 1 :=
  ⟨[x0, x1, x2, x3, x4], ⟨rfl, .inr ⟨w.heap.size, 1, #[x0, x1, x2, x3, x4], rfl, hb, heap_alloc_new w _, Nat.le_refl _, by unfold maxLen; omega, Nat.le_refl _, rfl⟩⟩, h⟩
def SortR (S : List Int) (v : Value) (w : World) : Prop := ∃ b, v = .slice (some ⟨b, 0, none⟩) S.length S.length ∧ SortsAt w b S
theorem SortR.keep {S : List Int} {v : Value} {w w' : World} (hg : Grew w w') (h : SortR S v w) : SortR S v w' := by
  obtain ⟨b, h1, h2⟩ := h
  exact ⟨b, h1, h2.keep hg⟩
def RowR (l : List Int) (v : Value) (w : World) : Prop := looseRow w 0 3 1 v l.length (intVs l)
theorem RowR.keep {l : List Int} {v : Value} {w w' : World} (hg : Grew w w') (h : RowR l v w) : RowR l v w' := (But.of_grew (F := fun _ => False) hg).row h fun _ _ => id
def TreeR (base n : Nat) (v : Value) (w : World) : Prop := TrV w base v n
theorem TreeR.keep {base n : Nat} {v : Value} {w w' : World} (hg : Grew w w') (h : TreeR base n v w) : TreeR base n v w' := TrV.keep (F := fun _ => False) h (But.of_grew hg) fun _ => False.elim
/-! ### the box -/
structure ME where
  g : Gr
  w : List Int
  ra : Option Addr
  rc : Nat
  wa : Option Addr
  wc : Nat
  lim : Nat
  mb : Nat
def ME.cells (E : ME) (s : Int) : List Value := [.string E.g.name, .int .i64 E.g.bound, .int .i64 E.g.states, .slice E.ra E.g.rules.length E.rc, .slice E.wa E.w.length E.wc, .int .i64 s]
def ME.ptr (E : ME) : Value := .pointer (some ⟨E.mb, 0, none⟩)
structure ME.At (E : ME) (s : Int) (W : World) : Prop where
  low : E.lim ≤ E.mb
  own : Owns W E.mb (E.cells s) 36
  gr : GrAt W E.lim (some (.string E.g.name)) (some (.int .i64 E.g.bound)) (some (.int .i64 E.g.states)) (some (.slice E.ra E.g.rules.length E.rc)) E.g
  ints : IntsAt W E.lim E.wa E.w
def ME.R (E : ME) (W W' : World) : Prop := But (fun q => q = E.mb) W W'
theorem ME.R.trans {E : ME} {a b c : World} (h : E.R a b) (k : E.R b c) : E.R a c := But.trans h k fun _ _ e => e
theorem ME.R.grew {E : ME} {a b : World} (h : Grew a b) : E.R a b := But.of_grew h
theorem ME.At.lt {E : ME} {s : Int} {W : World} (h : E.At s W) : E.mb < W.heap.size := h.own.lt
theorem ME.R.below {E : ME} {s : Int} {a b : World} (h : E.R a b) (hA : E.At s a) : Below E.lim a b := But.below h (by have := hA.low; have := hA.lt; omega) fun q e => by subst e; exact hA.low
theorem ME.At.keep {E : ME} {s s' : Int} {W W' : World} (h : E.At s W) (r : E.R W W') (ho : Owns W' E.mb (E.cells s') 36) : E.At s' W' :=
  ⟨h.low, ho, h.gr.keep (r.below h), IntsAt.keep (r.below h) h.ints⟩
theorem ME.At.grew {E : ME} {s : Int} {W W' : World} (h : E.At s W) (hg : Grew W W') : E.At s W' := h.keep (.grew hg) (h.own.keep hg)
theorem ME.At.set {E : ME} {s : Int} {W : World} (h : E.At s W) (t : Int) : E.At t (W.setCell ⟨E.mb, 5, none⟩ (.int .i64 t)) ∧ E.R W (W.setCell ⟨E.mb, 5, none⟩ (.int .i64 t)) := by
  have hb : E.R W (W.setCell ⟨E.mb, 5, none⟩ (.int .i64 t)) := set_but h.own
  exact ⟨h.keep hb (h.own.set 5 (.int .i64 t)), hb⟩
structure MNum (E : ME) (s : Int) (n : Nd) (i : Nat) (tz s' : Int) (k : Nat) : Prop where
  less : s' < s
  none_ : s ≤ 0 → s' = s - 1 ∧ tz = -1
  low : 0 < s → -40 * s - 1 ≤ s'
  few : (k : Int) ≤ s - s'
  place : tz = -1 ∨ ∃ j : Nat, tz = (j : Int) ∧ j ≤ E.w.length
  says : 0 ≤ s' → MatchS (bookOf E.g) E.w n i tz
def ME.Res (E : ME) (s : Int) (n : Nd) (i : Nat) (W : World) (e : Ending) (W' : World) : Prop :=
  ∃ v tz s' k, e = .returned (.tuple #[v, .int .i64 tz]) ∧ E.At s' W' ∧ E.R W W' ∧ TrV W' W.heap.size v k ∧ MNum E s n i tz s' k
def ME.Go (E : ME) (s : Int) (n : Nd) : Prop := n.Mts E.g → ∀ i : Nat, i ≤ E.w.length → ∀ (W : World) (u0 u1 u2 u3 u4 : Value), E.At s W → NodeAt W E.lim (some u0) (some u1) (some u2) (some u3) (some u4) n →
  Calls Tryz.prog 8 #[E.ptr, .agg #[u0, u1, u2, u3, u4], .int .i64 i] W (E.Res s n i W)
theorem MNum.now {E : ME} {s : Int} {n : Nd} {i k : Nat} {tz : Int} (hs : 0 < s) (hk : k ≤ 1) (h : MatchS (bookOf E.g) E.w n i tz) : MNum E s n i tz (s - 1) k :=
  ⟨by omega, fun h => absurd h (by omega), fun _ => by omega, by omega, h.place, fun _ => h⟩
theorem MNum.up {E : ME} {s t s' : Int} {n m : Nd} {i i' k k' : Nat} {tz tz' : Int} (h : MNum E t m i' tz s' k) (hs : 0 < s) (ht : t ≤ s - 1 ∧ -40 * (s - 1) - 1 ≤ t) (hk : k' ≤ 1) (hm : MatchS (bookOf E.g) E.w m i' tz → MatchS (bookOf E.g) E.w n i tz') (hp : tz' = -1 ∨ ∃ j : Nat, tz' = (j : Int) ∧ j ≤ E.w.length) : MNum E s n i tz' s' k' := by
  have h1 := h.less
  have h2 := h.none_
  have h3 := h.low
  refine ⟨by omega, fun h => absurd h (by omega), fun _ => ?_, by omega, hp, fun h0 => hm (h.says h0)⟩
  rcases Int.lt_or_le 0 t with h4 | h4
  · have := h3 h4
    omega
  · have := (h2 h4).1
    omega
theorem MNum.fin {E : ME} {s t : Int} {n : Nd} {i k : Nat} {tz : Int} (hs : 0 < s) (h1 : t ≤ s - 1) (h2 : -40 * s - 1 ≤ t) (hk : (k : Int) ≤ s - t) (hp : tz = -1 ∨ ∃ j : Nat, tz = (j : Int) ∧ j ≤ E.w.length) (hm : 0 ≤ t → MatchS (bookOf E.g) E.w n i tz) : MNum E s n i tz t k :=
  ⟨by omega, fun h => absurd h (by omega), fun _ => h2, hk, hp, hm⟩
theorem ME.At.but {E : ME} {s : Int} {W W' : World} {F : Nat → Prop} (h : E.At s W) (hb : But F W W') (hF : ∀ k, F k → E.mb < k) : E.At s W' := by
  have hl := h.low
  have hlt := h.lt
  have hB : Below E.lim W W' := hb.below (by omega) fun k hk => by have := hF k hk; omega
  exact ⟨hl, hb.owns h.own fun e => by have := hF _ e; omega, h.gr.keep hB, IntsAt.keep hB h.ints⟩
theorem MNum.lo {E : ME} {s t s' : Int} {n : Nd} {i k : Nat} {tz : Int} (h : MNum E t n i tz s' k) (ht : t ≤ s - 1) : (0 ≤ t → -40 * (s - 1) - 1 ≤ s') ∧ (t < 0 → s' = t - 1 ∧ tz = -1) := by
  refine ⟨fun h0 => ?_, fun h0 => h.none_ (by omega)⟩
  rcases Int.lt_or_le 0 t with h4 | h4
  · have := h.low h4
    omega
  · have := (h.none_ h4).1
    omega
def IntR (v : Value) (_ : World) : Prop := ∃ c : Int, v = .int .i64 c
def TreeA (a : Option Addr) (n c : Nat) (v : Value) (_ : World) : Prop := ∃ x : Int, v = .agg #[.int .i64 x, .int .i64 0, .int .i64 0, .bool false, .slice a n c]
structure ME.Ok (E : ME) : Prop where
  rules : E.g.rules.length ≤ 1000
  w : E.w.length ≤ 1000
  mts : ∀ n ∈ (bookOf E.g).bodies, n.Mts E.g
end Go.Proofs.YtoflfkffldpglaaGreatDoor

/- A match of the model: one kind of nodes. -/
namespace Go.Proofs.YtoflfkffldpglaaGreatDoor
open Go.RowKit
set_option maxHeartbeats 8000000 in
set_option maxRecDepth 40000 in
theorem match_tok (E : ME) (hE : E.Ok) (s : Int) (hs : 0 < s) (hs2 : s ≤ 30000) (nm tx : ByteArray) (set : List (Int × Int)) (subs : List Nd) : E.Go s (.mk 6 nm tx set subs) := by
  intro hm i hi W u0 u1 u2 u3 u4 hA hN
  rw [NodeAt] at hN
  obtain ⟨hk, h1, h2, h3, h4, h5, ⟨sa, sc, h6, h6', h7⟩, na, nc, h8, h8', h9⟩ := hN
  obtain rfl := Option.some.inj h3
  obtain rfl := Option.some.inj h4
  obtain rfl := Option.some.inj h5
  obtain rfl := Option.some.inj h6
  obtain rfl := Option.some.inj h8
  clear h3 h4 h5 h6 h8 h7 hk
  unfold reachN at h1 h2 h6' h8'
  obtain ⟨nb, hnb⟩ : ∃ nb, W.heap.size = nb := ⟨_, rfl⟩
  obtain ⟨w1, hw1⟩ : ∃ w1, W.alloc (.cells #[.int .u8 6, .string nm, .string tx, .slice sa set.length sc, .slice na subs.length nc] 42) = w1 := ⟨_, rfl⟩
  have g1 : Grew W w1 := hw1 ▸ grew_alloc W _
  have o1 : Owns w1 nb [.int .u8 6, .string nm, .string tx, .slice sa set.length sc, .slice na subs.length nc] 42 := by rw [← hw1, ← hnb]; exact Owns.alloc W _ _
  have hA1 := hA.grew g1
  obtain ⟨w2, hw2⟩ : ∃ w2, w1.setCell ⟨E.mb, 5, none⟩ (.int .i64 (s - 1)) = w2 := ⟨_, rfl⟩
  have hA2 : E.At (s - 1) w2 := hw2 ▸ (hA1.set (s - 1)).1
  have r2 : E.R w1 w2 := hw2 ▸ (hA1.set (s - 1)).2
  have hne : nb ≠ E.mb := by have := hA.lt; omega
  have o2 := r2.owns o1 hne
  have RW : E.R W w2 := (ME.R.grew g1).trans r2
  have R2 := Lib.hid RW
  have hsz : nb ≤ w1.heap.size := by rw [← hnb]; exact g1.size
  have hsz2 : nb ≤ w2.heap.size := Nat.le_trans hsz r2.size
  have HSZ := Lib.hid hsz2
  have O2 := Lib.hid o2
  have A2 := Lib.hid hA2
  have HN9 : Hid (NodesAt w2 E.lim na 0 subs) := Lib.hid (h9.keep (RW.below hA))
  have HE := Lib.hid hE
  have HM := Lib.hid hm
  have HI := Lib.hid hi
  have HNE := Lib.hid hne
  obtain ⟨Q, hQ⟩ : ∃ Q : Ending → World → Prop, E.Res s (.mk 6 nm tx set subs) i W = Q := ⟨_, rfl⟩
  have HEND : Hid (∀ v tz s' m w', E.At s' w' → E.R w2 w' → TrV w' nb v m → MNum E s (.mk 6 nm tx set subs) i tz s' m → Q (.returned (.tuple #[v, .int .i64 tz])) w') := Lib.hid fun v tz s' m w' a1 a2 a3 a4 => by rw [← hQ]; exact ⟨v, tz, s', m, rfl, a1, RW.trans a2, hnb ▸ a3, a4⟩
  rw [hQ]
  have m5 := hA1.own.cell_at (i := 5) rfl
  have mf := hA1.own.free 5
  have ml := hA1.own.lt
  have q0 := hA2.own.cell_at (i := 0) rfl
  have q1 := hA2.own.cell_at (i := 1) rfl
  have q2 := hA2.own.cell_at (i := 2) rfl
  have q3 := hA2.own.cell_at (i := 3) rfl
  have q4 := hA2.own.cell_at (i := 4) rfl
  have q5 := hA2.own.cell_at (i := 5) rfl
  have ql := hA2.own.lt
  have n0 := o2.cell_at (i := 0) rfl
  have n1 := o2.cell_at (i := 1) rfl
  have n4 := o2.cell_at (i := 4) rfl
  have nl := o2.lt
  have hneg : decide (s - 1 < 0) = false := decide_eq_false (by omega)
  have hneg2 : ¬ (s - 1 < 0) := by omega
  clear hQ g1 o1 hA1 hA2 r2 o2 RW hA h9 hE hm hsz hsz2
  obtain ⟨kx, qx, -, hkf, hof, htk⟩ := HM.out.self.tok rfl
  dsimp only [Nd.name] at hkf htk
  have HGR : Hid (∀ w', Grew w2 w' → GrAt w' w'.heap.size (some (.string E.g.name)) (some (.int .i64 E.g.bound)) (some (.int .i64 E.g.states)) (some (.slice E.ra E.g.rules.length E.rc)) E.g) := Lib.hid fun w' hw => (A2.out.gr.keep (hw.mono (Nat.le_trans A2.out.low (Nat.le_of_lt A2.out.lt)))).mono (Nat.le_trans (Nat.le_trans A2.out.low (Nat.le_of_lt A2.out.lt)) hw.size)
  have HFD : Hid (∀ w', Grew w2 w' → Calls Tryz.prog 27 #[.agg #[.string E.g.name, .int .i64 E.g.bound, .int .i64 E.g.states, .slice E.ra E.g.rules.length E.rc], .string nm] w' fun e w9 => e = .returned (.int .i64 (kx : Int)) ∧ Grew w' w9) := Lib.hid fun w' hw => by
    have := find_ok E.g nm w' _ _ _ _ (HGR.out w' hw)
    rw [hkf] at this
    exact this
  have HOF : Hid (∀ w', Grew w2 w' → ∀ v, SortR [1, 3] v w' → Calls Tryz.prog 21 #[.agg #[.string E.g.name, .int .i64 E.g.bound, .int .i64 E.g.states, .slice E.ra E.g.rules.length E.rc], v] w' fun e w9 => ∃ u, e = .returned u ∧ RowR (E.g.of [1, 3]) u w9 ∧ Grew w' w9) := Lib.hid fun w' hw v hv => by
    obtain ⟨sb, rfl, hs⟩ := hv
    refine (mof_ok E.g [1, 3] (by simp) w' _ _ _ _ (HGR.out w' hw) (by have := HE.out.rules; omega) sb _ hs).mono ?_
    rintro e w9 ⟨u, rfl, h1, h2⟩
    exact ⟨u, rfl, h1.weak (Nat.zero_le _), h2⟩
  have HNB : Hid (∀ w' v, RowR (E.g.of [1, 3]) v w' → Calls Tryz.prog 26 #[.agg #[.string E.g.name, .int .i64 E.g.bound, .int .i64 E.g.states, .slice E.ra E.g.rules.length E.rc], .int .i64 (kx : Int), v] w' fun e w9 => e = .returned (.int .i64 (qx : Int)) ∧ Grew w' w9) := Lib.hid fun w' v hv => by
    have hl := Gr.ofTo_len E.g [1, 3] E.g.rules.length
    have hn : (E.g.of [1, 3]).length ≤ reachN := by unfold reachN; have := HE.out.rules; unfold Gr.of; omega
    refine (number21_ok (E.g.of [1, 3]) (kx : Int) w' _ _ _ _ v hn (loose_ints hv)).mono ?_
    rintro e w9 ⟨rfl, h2⟩
    exact ⟨by rw [of_ix hof], h2⟩
  have HTK := Lib.hid htk
  clear hkf hof htk
  unfold ME.ptr
  subst hnb
  go_enter Tryz.func8, Tryz.ntmps8
  go_wp2_with fail
  refine wp_region_hav_lit follows (by kernel_rfl) ?_
  iterate 10 (first
    | (refine HavG.skip (fun _ => rfl) ?_; simp only [Act.put, List.setIfInBounds_toArray, List.set_cons_zero, List.set_cons_succ])
    | (refine HavG.val (fun _ => rfl) ?_ (fun x w hw _ => ?_) ?_; rotate_left; (focus (have hc := hw.cells; clear hw; go_simp; first | done | rfl)); simp only [Act.put, List.setIfInBounds_toArray, List.set_cons_zero, List.set_cons_succ]))
  refine HavG.det (fun _ => rfl) (.int .i64 (kx : Int)) (fun x w hw hd => ?_) ?_
  · clear hd
    have HW := Lib.hid hw
    clear hw
    go_simp
    refine (HFD.out _ HW.out).mono ?_
    rintro e w' ⟨rfl, hg⟩
    exact ⟨rfl, hg⟩
  simp only [Act.put, List.setIfInBounds_toArray, List.set_cons_zero, List.set_cons_succ]
  iterate 4 (first
    | (refine HavG.skip (fun _ => rfl) ?_; simp only [Act.put, List.setIfInBounds_toArray, List.set_cons_zero, List.set_cons_succ])
    | (refine HavG.val (fun _ => rfl) ?_ (fun x w hw _ => ?_) ?_; rotate_left; (focus (have hc := hw.cells; clear hw; go_simp; first | done | rfl)); simp only [Act.put, List.setIfInBounds_toArray, List.set_cons_zero, List.set_cons_succ]))
  refine HavG.any (fun _ => rfl) (SortR [1, 3]) (fun _ _ _ hg h => SortR.keep hg h) (fun x w hw _ => ?_) ?_
  · clear hw
    go_simp
    refine ⟨grew_alloc _ _, w.heap.size, rfl, by simp, fun k hk => ?_⟩
    have hk : k = 0 ∨ k = 1 := by simp at hk; omega
    rcases hk with rfl | rfl
    · exact (Owns.alloc w [.int .u8 1 , .int .u8 3] 37).cell_at (i := 0) rfl
    · exact (Owns.alloc w [.int .u8 1 , .int .u8 3] 37).cell_at (i := 1) rfl
  simp only [Act.put, List.setIfInBounds_toArray, List.set_cons_zero, List.set_cons_succ]
  refine HavG.any (fun _ => rfl) (RowR (E.g.of [1, 3])) (fun _ _ _ hg h => RowR.keep hg h) (fun x w hw hd => ?_) ?_
  · have hd2 := hd _ (List.mem_append_right _ (List.mem_singleton.2 rfl)) (by kernel_rfl)
    dsimp only at hd2
    clear hd
    generalize x (0 + 1 + 1 + 1 + 1 + 1 + 1 + 1 + 1 + 1 + 1 + 1 + 1 + 1 + 1 + 1) = y2 at *
    have HC := Lib.hid (HOF.out w hw y2 hd2)
    obtain ⟨sb, rfl, hs⟩ := hd2
    clear hw hs
    go_simp
    refine HC.out.mono ?_
    rintro e w' ⟨v, rfl, hv, hb⟩
    exact ⟨hb, hv⟩
  simp only [Act.put, List.setIfInBounds_toArray, List.set_cons_zero, List.set_cons_succ]
  refine HavG.det (fun _ => rfl) (.int .i64 (qx : Int)) (fun x w hw hd => ?_) ?_
  · have hd2 := hd _ (List.mem_append_right _ (List.mem_singleton.2 rfl)) (by kernel_rfl)
    dsimp only at hd2
    clear hd hw
    generalize x (0 + 1 + 1 + 1 + 1 + 1 + 1 + 1 + 1 + 1 + 1 + 1 + 1 + 1 + 1 + 1 + 1) = y2 at *
    have HC := Lib.hid (HNB.out w y2 hd2)
    obtain ⟨ya, yc, rfl⟩ := loose_form hd2
    clear hd2
    go_simp
    refine HC.out.mono ?_
    rintro e w' ⟨rfl, hg⟩
    exact ⟨rfl, hg⟩
  simp only [Act.put, List.setIfInBounds_toArray, List.set_cons_zero, List.set_cons_succ]
  refine HavG.tail (by kernel_rfl) (by kernel_rfl) (fun x w hw _ => ?_)
  have GW := Lib.hid hw
  have q4' := (hw.cells _ _ ql).trans q4
  have hil := Lib.hid hi
  have AW := Lib.hid (A2.out.grew hw)
  clear hw q0 q1 q2 q3 q4 q5 n0 n1 n4 m5 mf ml hw1 hw2
  by_cases hlt : i < E.w.length
  · obtain ⟨b, off, hwa, hb, hc⟩ := AW.out.ints i hlt
    rw [hwa] at q4'
    have HC0 := Lib.hid hc
    obtain ⟨y, hy⟩ : ∃ y, E.w[i] = y := ⟨_, rfl⟩
    have HY : Hid (E.w[i]? = some y) := Lib.hid (by rw [List.getElem?_eq_getElem hlt, hy])
    rw [hy] at hc
    clear hy HC0 hwa hb
    have hil2 : (i : Int) < (E.w.length : Int) := by omega
    obtain ⟨t, ht⟩ : ∃ t, (y != (qx : Int)) = t := ⟨_, rfl⟩
    have HT := Lib.hid ht
    cases t
    · have HQ : Hid (y = (qx : Int)) := Lib.hid (by simpa using ht)
      go_wp2_with fail
      have e : wrap64 ((i : Int) + 1) = (i : Int) + 1 := by unfold wrap64; have := HE.out.w; omega
      show Q (.returned (.tuple #[.slice (some ⟨w.heap.size, 0, none⟩) 1 1, .int .i64 (wrap64 ((i : Int) + 1))])) _
      rw [e]
      refine HEND.out _ _ _ _ _ (AW.out.grew (grew_alloc _ _)) (ME.R.grew (GW.out.trans (grew_alloc _ _))) (TrV.one w _ _ _ _ _ (by simp [Value.oneCell']) _ (Nat.le_trans HSZ.out GW.out.size)) (MNum.now hs (Nat.le_refl _) (.tokYes (by rw [HTK.out, HY.out, HQ.out])))
    · have HQ : Hid (y ≠ (qx : Int)) := Lib.hid (by simpa using ht)
      go_wp2_with fail
      show Q (.returned (.tuple #[.slice none 0 0, .int .i64 (-1)])) _
      exact HEND.out _ _ _ _ _ AW.out (ME.R.grew GW.out) (TrV.nil _ _) (MNum.now hs (Nat.zero_le _) (.tokNo fun x hx => by
        rw [HTK.out]
        rw [HY.out] at hx
        cases hx
        exact HQ.out))
  · have hge : decide ((E.w.length : Int) ≤ (i : Int)) = true := decide_eq_true (by omega)
    have HL := Lib.hid hlt
    go_wp2_with fail
    show Q (.returned (.tuple #[.slice none 0 0, .int .i64 (-1)])) _
    exact HEND.out _ _ _ _ _ AW.out (ME.R.grew GW.out) (TrV.nil _ _) (MNum.now hs (Nat.zero_le _) (.tokNo fun x hx => absurd (List.getElem?_eq_some_iff.1 hx).1 HL.out))
end Go.Proofs.YtoflfkffldpglaaGreatDoor
