/- slices.IndexFunc over rules; nulls.Find. -/
import Derived.Lib.Hide
import Derived.Outline
import Derived.StillTailTactics
import Derived.Test.YtkinlcichclnkaaDoorQT4
import Derived.Test.YtkinlcichclnkaaDoorQT2
namespace Go.Proofs.YtkinlcichclnkaaDoor
open Go.RowKit

/-- the first place in a list; below 0: none -/
def ixOf {α : Type} (l : List α) (q : α → Bool) : Int :=
  match l.findIdx? q with
  | some i => i
  | none => -1

theorem ixOf_at {α : Type} {l : List α} {q : α → Bool} {j : Nat} (hj : j < l.length) (h : ∀ i (hi : i < l.length), i < j → q l[i] = false) (hq : q l[j] = true) : ixOf l q = j := by
  unfold ixOf
  have : l.findIdx? q = some j := by
    rw [List.findIdx?_eq_some_iff_getElem]
    exact ⟨hj, hq, fun i hi => by simpa using h i (by omega) hi⟩
  rw [this]
theorem ixOf_none {α : Type} {l : List α} {q : α → Bool} (h : ∀ i (hi : i < l.length), q l[i] = false) : ixOf l q = -1 := by
  unfold ixOf
  have : l.findIdx? q = none := by
    rw [List.findIdx?_eq_none_iff]
    intro x hx
    obtain ⟨i, hi, rfl⟩ := List.mem_iff_getElem.1 hx
    simpa using h i hi
  rw [this]

theorem ixOf_cases {α : Type} (l : List α) (q : α → Bool) : (ixOf l q = -1 ∧ ∀ i (hi : i < l.length), q l[i] = false) ∨ ∃ j, ∃ hj : j < l.length, ixOf l q = j ∧ q l[j] = true ∧ ∀ i (hi : i < l.length), i < j → q l[i] = false := by
  unfold ixOf
  cases h : l.findIdx? q with
  | none =>
    rw [List.findIdx?_eq_none_iff] at h
    exact .inl ⟨rfl, fun i hi => by simpa using h _ (List.getElem_mem hi)⟩
  | some j =>
    rw [List.findIdx?_eq_some_iff_getElem] at h
    obtain ⟨hj, hq, hn⟩ := h
    exact .inr ⟨j, hj, rfl, hq, fun i hi hlt => by simpa using hn i hlt⟩

/-- so far none -/
def NoneTo {α : Type} (l : List α) (q : α → Bool) (j : Nat) : Prop := ∀ i (hi : i < l.length), i < j → q l[i] = false
theorem noneTo_next {α : Type} {l : List α} {q : α → Bool} {j : Nat} (h : NoneTo l q j) (hj : j < l.length) (hq : q l[j] = false) : NoneTo l q (j + 1) := by
  intro i hi hlt
  by_cases e : i = j
  · subst e; exact hq
  · exact h i hi (by omega)

/-- a function with a body is entered -/
def Enters (F : Nat) : Prop := ∀ (args : Array Value) (w : World), (callFunc F args).run Tryd.prog w = .ok (.enter F args) w
theorem enters41 : Enters 41 := fun _ _ => by kernel_rfl

set_option maxHeartbeats 1000000 in
set_option maxRecDepth 20000 in
theorem indexRules_ok (l : List Rl) (q : Rl → Bool) (F : Nat) (cp : Array Value) (hF : Enters F) (W : World) (a : Option Addr) (cap : Nat) (hl : l.length ≤ reachN) (hR : RulesAt W W.heap.size a 0 l)
    (HF : Hid (∀ (i : Nat) (hi : i < l.length) (W' : World) (v0 v1 v2 v3 v4 v5 v6 v7 v8 v9 : Value), Below W.heap.size W W' → RuleAt W' W'.heap.size (some v0) (some v1) (some v2) (some v3) (some v4) (some v5) (some v6) (some v7) (some v8) (some v9) l[i] →
      Calls Tryd.prog F (#[.agg #[v0, v1, v2, v3, v4, v5, v6, v7, v8, v9]] ++ cp) W' fun e W2 => e = .returned (.bool (q l[i])) ∧ Below W'.heap.size W' W2)) :
    Calls Tryd.prog 40 #[.slice a l.length cap, .func (.func F) #[] cp] W fun e W' => e = .returned (.int .i64 (ixOf l q)) ∧ Below W.heap.size W W' := by
  unfold reachN at hl
  go_enter Tryd.func40, Tryd.ntmps40
  go_wp2
  go_loopw [8] (fun i wr => ∃ (j : Nat), i = .int .i64 j ∧ j ≤ l.length ∧ Hid (NoneTo l q j) ∧ Below W.heap.size W wr) (fun i _ => l.length - (intOf i).toNat)
  case atStart =>
    exact ⟨0, rfl, by omega, fun i hi h => absurd h (by omega), Below.refl _ _⟩
  case round =>
    obtain ⟨j, rfl, hj, hf, hbw⟩ := hrel
    by_cases hlt : j < l.length
    · obtain ⟨b, off, rfl, hb, hrule⟩ := (hR.keep hbw).get hlt
      simp only [Nat.zero_add] at hrule
      obtain ⟨u2, u3, u4, u5, u6, e0, e1, e2, e3, e4, e5, e6, e7, e8, e9, hrule, hnode⟩ := hrule.vals
      have HS := Lib.hid (HF.out j hlt wr _ _ _ _ _ _ _ _ _ _ hbw (hrule.mono hbw.size))
      clear hrule hnode hR HF
      have hFx := hF
      unfold Enters at hFx
      clear hF
      obtain ⟨t, ht⟩ : ∃ t, t = q l[j] := ⟨_, rfl⟩
      rw [← ht] at HS
      have HQ := Lib.hid ht
      clear ht
      cases t
      · go_wp2_with (refine HS.out.mono ?_; rintro e w2 ⟨rfl, hb2⟩)
        exact ⟨⟨j + 1, by go_num, by omega, noneTo_next hf.out hlt HQ.out.symm, hbw.trans (hb2.mono hbw.size)⟩, by simp [intOf]; omega⟩
      · go_wp2_with (refine HS.out.mono ?_; rintro e w2 ⟨rfl, hb2⟩)
        go_ret
        exact ⟨ret_int (ixOf_at hlt hf.out HQ.out.symm).symm, hbw.trans (hb2.mono hbw.size)⟩
    · go_wp2_with fail
      go_ret
      exact ⟨ret_int (ixOf_none fun i hi => hf.out i hi (by omega)).symm, hbw⟩

theorem find1_ok (r : Rl) (W : World) (v0 v1 v2 v3 v4 v5 v6 v7 v8 v9 : Value) (b : Nat) (name : ByteArray) (hb : W.cell? ⟨b, 0, none⟩ = some (.string name))
    (hR : RuleAt W W.heap.size (some v0) (some v1) (some v2) (some v3) (some v4) (some v5) (some v6) (some v7) (some v8) (some v9) r) :
    Calls Tryd.prog 41 (#[.agg #[v0, v1, v2, v3, v4, v5, v6, v7, v8, v9]] ++ #[.pointer (some ⟨b, 0, none⟩)]) W fun e W2 => e = .returned (.bool (sameB r.name name)) ∧ Below W.heap.size W W2 := by
  obtain rfl := Option.some.inj hR.1
  clear hR
  have hlt : b < W.heap.size := by
    rcases Nat.lt_or_ge b W.heap.size with h | h
    · exact h
    · simp [World.cell?, Array.getElem?_eq_none h] at hb
  simp only [List.append_toArray, List.cons_append, List.nil_append]
  go_enter Tryd.func41, Tryd.ntmps41
  go_wp2
  go_ret
  exact ⟨rfl, (Below.refl _ _).alloc (Nat.le_refl _) _⟩

/-- a name's rule -/
def Gr.find (g : Gr) (name : ByteArray) : Int := ixOf g.rules fun r => sameB r.name name

theorem find_ok (g : Gr) (name : ByteArray) (W : World) (v0 v1 v2 v3 : Value) (hG : GrAt W W.heap.size (some v0) (some v1) (some v2) (some v3) g) :
    Calls Tryd.prog 26 #[.agg #[v0, v1, v2, v3], .string name] W fun e W' => e = .returned (.int .i64 (g.find name)) ∧ Below W.heap.size W W' := by
  obtain ⟨h1, hs, h2, h3, h4, h5, ra, rc, h6, h7, h8⟩ := hG
  obtain rfl := Option.some.inj h1
  obtain rfl := Option.some.inj h2
  obtain rfl := Option.some.inj h3
  obtain rfl := Option.some.inj h6
  clear h1 h2 h3 h4 h5 h6
  have hB : Below W.heap.size W ((W.alloc (.cells #[.string g.name, .int .i64 g.bound, .int .i64 g.states, .slice ra g.rules.length rc] 26)).alloc (.cells #[.string name] 9)) := ((Below.refl _ _).alloc (Nat.le_refl _) _).alloc (by simp) _
  have hc : ((W.alloc (.cells #[.string g.name, .int .i64 g.bound, .int .i64 g.states, .slice ra g.rules.length rc] 26)).alloc (.cells #[.string name] 9)).cell? ⟨W.heap.size + 1, 0, none⟩ = some (.string name) := by simp [go_sem]
  have hc2 : W.heap.size + 1 < ((W.alloc (.cells #[.string g.name, .int .i64 g.bound, .int .i64 g.states, .slice ra g.rules.length rc] 26)).alloc (.cells #[.string name] 9)).heap.size := by simp
  have hS := Lib.hid (indexRules_ok g.rules (fun r => sameB r.name name) 41 #[.pointer (some ⟨W.heap.size + 1, 0, none⟩)] enters41 _ ra rc h7 ((h8.keep hB).mono hB.size)
    (fun i hi W' v0 v1 v2 v3 v4 v5 v6 v7 v8 v9 hb hr => find1_ok _ W' _ _ _ _ _ _ _ _ _ _ _ name (by rw [hb.cell hc2]; exact hc) hr))
  have HB := Lib.hid hB
  clear hB hc hc2 h8
  unfold reachN at h7 hs
  go_enter Tryd.func26, Tryd.ntmps26
  go_wp2_with (go_at_call 40; refine hS.out.mono ?_; rintro e w' ⟨rfl, hb2⟩)
  go_ret
  exact ⟨rfl, HB.out.trans (hb2.mono (by simp; omega))⟩
end Go.Proofs.YtkinlcichclnkaaDoor

/- The rules of some sorts, by their numbers (as for nets). -/
namespace Go.Proofs.YtkinlcichclnkaaDoor
open Go.RowKit

theorem info_int : (Tryd.prog.info? 3).map (fun i => (i.zero, i.size, i.bytes)) = some (some (.int .i64 0), 1, 8) := by kernel_rfl
def intVs (l : List Int) : List Value := l.map fun i => .int .i64 i
theorem loose_form {w : World} {base e size n : Nat} {v : Value} {xs : List Value} (h : looseRow w base e size v n xs) : ∃ a c, v = .slice a n c := by
  rcases h.2 with ⟨h1, h0⟩ | ⟨b, cap, cur, h1, h2, h3, h4⟩
  · exact ⟨none, 0, by rw [h1, h0]⟩
  · exact ⟨_, cap, h1⟩
theorem loose_ints {w : World} {base : Nat} {v : Value} {l : List Int} (h : looseRow w base 3 1 v l.length (intVs l)) : IntsV w w.heap.size v l := by
  rcases h.2 with ⟨h1, h0⟩ | ⟨b, cap, cur, h1, h2, h3, h4⟩
  · have hn : l = [] := List.eq_nil_of_length_eq_zero h0
    subst hn
    exact ⟨none, 0, h1, fun k hk => absurd hk (by simp)⟩
  · refine ⟨some ⟨b, 0, none⟩, cap, h1, fun k hk => ⟨b, 0, rfl, (Array.getElem?_eq_some_iff.1 h3).1, ?_⟩⟩
    rw [Nat.zero_add]
    exact looseRow_cells h (g := b) (by rw [h1]; rfl) k _ (by simp [intVs, hk])

def SortsAt (W : World) (b : Nat) (l : List Int) : Prop := b < W.heap.size ∧ ∀ k (h : k < l.length), W.cell? ⟨b, k, none⟩ = some (.int .u8 l[k])
theorem SortsAt.keep {W W' : World} {b : Nat} {l : List Int} (h : SortsAt W b l) (hg : Grew W W') : SortsAt W' b l := ⟨Nat.lt_of_lt_of_le h.1 hg.size, fun k hk => (hg.cells _ _ h.1).trans (h.2 k hk)⟩

set_option maxHeartbeats 1000000 in
set_option maxRecDepth 20000 in
theorem indexSort_ok (l : List Int) (x : Int) (W : World) (b cap : Nat) (hl : l.length ≤ reachN) (hR : SortsAt W b l) :
    Calls Tryd.prog 50 #[.slice (some ⟨b, 0, none⟩) l.length cap, .int .u8 x] W fun e W' => e = .returned (.int .i64 (ixOf l fun y => x == y)) ∧ Grew W W' := by
  obtain ⟨hb, hR⟩ := hR
  unfold reachN at hl
  go_enter Tryd.func50, Tryd.ntmps50
  go_wp2
  go_loopw [8] (fun i wr => ∃ (j : Nat), i = .int .i64 j ∧ j ≤ l.length ∧ Hid (NoneTo l (fun y => x == y) j) ∧ Hid (Grew W wr)) (fun i _ => l.length - (intOf i).toNat)
  case atStart =>
    exact ⟨0, rfl, by omega, fun i hi h => absurd h (by omega), Grew.refl W⟩
  case round =>
    obtain ⟨j, rfl, hj, hf, hbw⟩ := hrel
    by_cases hlt : j < l.length
    · have hc' : wr.cell? ⟨b, j, none⟩ = some (.int .u8 l[j]) := by rw [hbw.out.cells _ _ hb]; exact hR j hlt
      have hb' : b < wr.heap.size := Nat.lt_of_lt_of_le hb hbw.out.size
      clear hR
      obtain ⟨t, ht⟩ : ∃ t, (x == l[j]) = t := ⟨_, rfl⟩
      cases t
      · have HQ := Lib.hid ht
        go_wp2_with fail
        exact ⟨⟨j + 1, by go_num, by omega, noneTo_next hf.out hlt HQ.out, hbw.out⟩, by simp [intOf]; omega⟩
      · have HQ := Lib.hid ht
        go_wp2_with fail
        go_ret
        exact ⟨ret_int (ixOf_at hlt hf.out HQ.out).symm, hbw.out⟩
    · go_wp2_with fail
      go_ret
      exact ⟨ret_int (ixOf_none fun i hi => hf.out i hi (by omega)).symm, hbw.out⟩
theorem ixOf_anyS {α : Type} (l : List α) (q : α → Bool) : decide (0 ≤ ixOf l q) = l.any q := by
  rcases ixOf_cases l q with ⟨h, hn⟩ | ⟨j, hj, h, hq, _⟩
  · rw [h]
    symm
    have : l.any q = false := by
      rw [List.any_eq_false]
      intro x hx
      obtain ⟨i, hi, rfl⟩ := List.mem_iff_getElem.1 hx
      simp [hn i hi]
    rw [this]; rfl
  · rw [h]
    have : l.any q = true := List.any_eq_true.2 ⟨l[j], List.getElem_mem hj, hq⟩
    rw [this]
    simp
theorem contSort_ok (l : List Int) (x : Int) (W : World) (b cap : Nat) (hl : l.length ≤ reachN) (hR : SortsAt W b l) :
    Calls Tryd.prog 30 #[.slice (some ⟨b, 0, none⟩) l.length cap, .int .u8 x] W fun e W' => e = .returned (.bool (l.any fun y => x == y)) ∧ Grew W W' := by
  have HC := Lib.hid (indexSort_ok l x W b cap hl hR)
  have HA := Lib.hid (ixOf_anyS l fun y => x == y)
  clear hR
  go_enter Tryd.func30, Tryd.ntmps30
  go_wp2_with (refine HC.out.mono ?_; rintro e w ⟨rfl, hb⟩; have HB := Lib.hid hb; clear hb)
  go_ret
  exact ⟨ret_bool HA.out, HB.out⟩

theorem clipInt_ok (W : World) (base : Nat) (v : Value) (l : List Int) (h : looseRow W base 3 1 v l.length (intVs l)) :
    Calls Tryd.prog 31 #[v] W fun e W' => (∃ u, e = .returned u ∧ looseRow W base 3 1 u l.length (intVs l)) ∧ W = W' := by
  rcases h.2 with ⟨rfl, h0⟩ | ⟨b, cap, cur, rfl, h1, h2, h3, h4, h5, h6⟩
  · have hn : l = [] := List.eq_nil_of_length_eq_zero h0
    subst hn
    go_enter Tryd.func31, Tryd.ntmps31
    go_wp2
    go_ret
    exact ⟨⟨_, rfl, rfl, .inl ⟨rfl, rfl⟩⟩, rfl⟩
  · have HL : Hid (looseRow W base 3 1 (.slice (some ⟨b, 0, none⟩) l.length l.length) l.length (intVs l)) := ⟨h.1, .inr ⟨b, _, cur, rfl, h1, h2, Nat.le_refl _, Nat.le_trans h3 h4, by omega, h6⟩⟩
    unfold maxLen at h4
    obtain ⟨n, hn⟩ : ∃ n, l.length = n := ⟨_, rfl⟩
    rw [hn] at h3 HL ⊢
    clear h h2 h5 h6 hn
    go_enter Tryd.func31, Tryd.ntmps31
    go_wp2
    go_ret
    exact ⟨⟨_, rfl, HL.out⟩, rfl⟩

/-- the numbers of the rules of some sorts, below j -/
def Gr.isAt (g : Gr) (S : List Int) (j : Nat) : Bool := match g.rules[j]? with
  | some r => S.any fun y => r.sort == y
  | none => false
def Gr.ofTo (g : Gr) (S : List Int) : Nat → List Int
  | 0 => []
  | j + 1 => if g.isAt S j = true then Gr.ofTo g S j ++ [(j : Int)] else Gr.ofTo g S j
theorem Gr.isAt_get {g : Gr} {S : List Int} {j : Nat} (h : j < g.rules.length) : g.isAt S j = S.any fun y => g.rules[j].sort == y := by unfold Gr.isAt; rw [List.getElem?_eq_getElem h]
def Gr.of (g : Gr) (S : List Int) : List Int := g.ofTo S g.rules.length
theorem Gr.ofTo_len (g : Gr) (S : List Int) : ∀ j, (g.ofTo S j).length ≤ j
  | 0 => Nat.le_refl _
  | j + 1 => by have := Gr.ofTo_len g S j; rw [Gr.ofTo]; split <;> simp <;> omega
theorem Gr.ofTo_mem (g : Gr) (S : List Int) : ∀ j x, x ∈ g.ofTo S j → ∃ i, ∃ h : i < g.rules.length, i < j ∧ x = i ∧ (S.any fun y => g.rules[i].sort == y) = true
  | 0, x, h => by simp [Gr.ofTo] at h
  | j + 1, x, h => by
    rw [Gr.ofTo] at h
    have old : x ∈ g.ofTo S j → ∃ i, ∃ h : i < g.rules.length, i < j + 1 ∧ x = i ∧ (S.any fun y => g.rules[i].sort == y) = true := fun hx => by
      obtain ⟨i, h1, h2, h3⟩ := Gr.ofTo_mem g S j x hx
      exact ⟨i, h1, by omega, h3⟩
    split at h
    · rename_i hc
      rcases List.mem_append.1 h with h | h
      · exact old h
      · have hx : x = (j : Int) := by simpa using h
        rcases Nat.lt_or_ge j g.rules.length with hj | hj
        · rw [Gr.isAt_get hj] at hc
          exact ⟨j, hj, by omega, hx, hc⟩
        · unfold Gr.isAt at hc
          rw [List.getElem?_eq_none hj] at hc
          cases hc
    · exact old h

theorem intVs_snoc (l : List Int) (x : Int) : intVs (l ++ [x]) = intVs l ++ [.int .i64 x] := by unfold intVs; rw [List.map_append]; rfl
theorem grew_loose {W w w' : World} {e size n : Nat} {v : Value} {xs : List Value} (h : looseRow w W.heap.size e size v n xs) (hg : Grew W w) (hgr : w.grownBy w' v.ownBlock) : Grew W w' :=
  ⟨hgr.os.trans hg.os, hgr.tape.trans hg.tape, hgr.output.trans hg.output, Nat.le_trans hg.size hgr.size, fun k hk => by
    rw [hgr.block k (Nat.lt_of_lt_of_le hk hg.size) (fun e => by have := (row_own h e.symm).1; omega), hg.block k hk]⟩

set_option maxHeartbeats 2000000 in
set_option maxRecDepth 20000 in
theorem mof_ok (g : Gr) (S : List Int) (hS : S.length ≤ 100) (W : World) (v0 v1 v2 v3 : Value) (hG : GrAt W W.heap.size (some v0) (some v1) (some v2) (some v3) g) (hn : g.rules.length ≤ 1000000) (sb sc : Nat) (hs : SortsAt W sb S) :
    Calls Tryd.prog 16 #[.agg #[v0, v1, v2, v3], .slice (some ⟨sb, 0, none⟩) S.length sc] W fun e W' => ∃ v, e = .returned v ∧ looseRow W' W.heap.size 3 1 v (g.of S).length (intVs (g.of S)) ∧ Grew W W' := by
  obtain ⟨q1, -, q2, q3, q4, q5, ra, rc, q6, -, hrules⟩ := hG
  obtain rfl := Option.some.inj q1
  obtain rfl := Option.some.inj q2
  obtain rfl := Option.some.inj q3
  obtain rfl := Option.some.inj q6
  obtain ⟨w1, hw1⟩ : ∃ w1, W.alloc (.cells #[.string g.name, .int .i64 g.bound, .int .i64 g.states, .slice ra g.rules.length rc] 26) = w1 := ⟨_, rfl⟩
  have g1 : Grew W w1 := hw1 ▸ grew_alloc W _
  have o1 : Owns w1 W.heap.size [.string g.name, .int .i64 g.bound, .int .i64 g.states, .slice ra g.rules.length rc] 26 := hw1 ▸ Owns.alloc W _ _
  have c3 := o1.cell_at (i := 3) rfl
  have cl := o1.lt
  have G1 := Lib.hid g1
  have HR := Lib.hid hrules
  have HSS := Lib.hid hs
  obtain ⟨i0, hi, hz0, hz1, hz2⟩ := info_parts info_int
  have HI := Lib.hid hi
  have HZ0 := Lib.hid hz0
  have HZ1 := Lib.hid hz1
  have HZ2 := Lib.hid hz2
  clear hi hz0 hz1 hz2 g1 o1 hrules hs q1 q2 q3 q4 q5 q6
  go_enter Tryd.func16, Tryd.ntmps16
  go_wp2_with fail
  go_loopw [4, 10] (fun v c w => ∃ (j : Nat), c = .int .i64 j ∧ j ≤ g.rules.length ∧ Hid (looseRow w W.heap.size 3 1 v (g.ofTo S j).length (intVs (g.ofTo S j))) ∧ Hid (Grew W w)) (fun _ c _ => g.rules.length - (intOf c).toNat)
  case atStart => exact ⟨0, rfl, by omega, ⟨rfl, .inl ⟨rfl, rfl⟩⟩, G1.out⟩
  case round =>
    obtain ⟨j, rfl, hj, hrow, hgw⟩ := hrel
    clear c3 cl
    by_cases hlt : j < g.rules.length
    · obtain ⟨b, off, rfl, hb, hrule⟩ := (HR.out.keep hgw.out).get hlt
      simp only [Nat.zero_add] at hrule
      obtain ⟨u2, u3, u4, u5, u6, e0, e1, e2, e3, e4, e5, e6, e7, e8, e9, hrule, hnode⟩ := hrule.vals
      obtain ⟨ck, cnm, ctx, csa, csl, csc, cna, cnl, cnc, rfl, rfl, rfl, rfl, rfl⟩ := hnode.forms
      have hbl : b < wr.heap.size := Nat.lt_of_lt_of_le hb hgw.out.size
      obtain ⟨w2, hw2⟩ : ∃ w2, wr.alloc (.cells #[.string g.rules[j].name, .int .u8 g.rules[j].sort, .int .u8 ck, .string cnm, .string ctx, .slice csa csl csc, .slice cna cnl cnc, .int .i64 g.rules[j].p0, .int .i64 g.rules[j].p1, .int .i64 g.rules[j].p2] 38) = w2 := ⟨_, rfl⟩
      have g2 : Grew wr w2 := hw2 ▸ grew_alloc wr _
      have o2 : Owns w2 wr.heap.size [.string g.rules[j].name, .int .u8 g.rules[j].sort, .int .u8 ck, .string cnm, .string ctx, .slice csa csl csc, .slice cna cnl cnc, .int .i64 g.rules[j].p0, .int .i64 g.rules[j].p1, .int .i64 g.rules[j].p2] 38 := hw2 ▸ Owns.alloc wr _ _
      have f1 := o2.cell_at (i := 1) rfl
      have fl := o2.lt
      have HG2 := Lib.hid (hgw.out.trans g2)
      have HC := Lib.hid (contSort_ok S g.rules[j].sort w2 sb sc (by unfold reachN; omega) (HSS.out.keep (hgw.out.trans g2)))
      have HRW := Lib.hid (row_but hrow.out (But.of_grew (F := fun _ => False) g2) fun _ _ => id)
      have hnx : g.ofTo S (j + 1) = if (S.any fun y => g.rules[j].sort == y) = true then g.ofTo S j ++ [(j : Int)] else g.ofTo S j := by rw [Gr.ofTo, Gr.isAt_get hlt]
      have hnl := Gr.ofTo_len g S j
      clear g2 o2 hrule hnode hrow hgw
      obtain ⟨t, ht⟩ : ∃ t, (S.any fun y => g.rules[j].sort == y) = t := ⟨_, rfl⟩
      rw [ht] at HC hnx
      clear ht
      cases t
      · simp only [Bool.false_eq_true, if_false] at hnx
        rw [← hnx] at HRW
        clear hnx hnl
        go_wp2_with (refine HC.out.mono ?_; rintro e w3 ⟨rfl, hb3⟩; have HB3 := Lib.hid hb3; clear hb3)
        exact ⟨⟨j + 1, by go_num, by omega, row_but HRW.out (But.of_grew (F := fun _ => False) HB3.out) (fun _ _ => id), HG2.out.trans HB3.out⟩, by simp [intOf]; omega⟩
      · simp only [if_true] at hnx
        have HNX := Lib.hid hnx
        clear hnx
        obtain ⟨n, hn9⟩ : ∃ n, (g.ofTo S j).length = n := ⟨_, rfl⟩
        rw [hn9] at HRW hnl
        have HN9 := Lib.hid hn9
        clear hn9
        go_wp2_with fail
        refine HC.out.mono ?_
        rintro e w3 ⟨rfl, hb3⟩
        obtain ⟨w4, hw4⟩ : ∃ w4, w3.alloc (.cells #[.int .i64 j] 3) = w4 := ⟨_, rfl⟩
        have g4 : Grew w3 w4 := hw4 ▸ grew_alloc w3 _
        have o4 : Owns w4 w3.heap.size [.int .i64 j] 3 := hw4 ▸ Owns.alloc w3 _ _
        have HR4 := Lib.hid (row_but HRW.out (But.of_grew (F := fun _ => False) (hb3.trans g4)) fun _ _ => id)
        have HG4 := Lib.hid (HG2.out.trans (hb3.trans g4))
        have HNS := Lib.hid (owns_newsO o4)
        have H63 := Lib.hid (show n + 1 ≤ maxLen by unfold maxLen; omega)
        have H64 := Lib.hid (show (n + 1) * 8 ≤ 140737488355328 by omega)
        have HLIM := Lib.hid HG4.out.size
        clear hb3 g4 o4
        go_wp2_with (at_builtin; refine wpList_append_loose w4 rfl _ _ 40 rfl W.heap.size 3 i0 _ 1 8 Tryd.underlying40 HI.out HZ0.out HZ1.out HZ2.out rfl (by decide) _ n (intVs (g.ofTo S j)) rfl HR4.out ⟨w3.heap.size, 0, none⟩ 1 1 [.int .i64 j] rfl rfl HNS.out (fun u hu => by rw [List.mem_singleton.1 hu]; rfl) (by decide) H63.out H64.out HLIM.out _ rfl ?_; intro gb cap w5 hown hgrow hat hlt5; have HOWN := Lib.hid hown; have HGROW := Lib.hid hgrow; clear hown hgrow hat hlt5)
        refine ⟨⟨j + 1, by go_num, by omega, ?_, grew_loose HR4.out HG4.out HGROW.out⟩, by simp [intOf]; omega⟩
        have hlen : (g.ofTo S j ++ [(j : Int)]).length = n + 1 := by simp [HN9.out]
        unfold Hid
        rw [HNX.out, hlen, intVs_snoc]
        exact HOWN.out
    · obtain rfl : j = g.rules.length := by omega
      have HC := Lib.hid (clipInt_ok wr W.heap.size _ (g.of S) hrow.out)
      go_wp2_with (refine HC.out.mono ?_; rintro e w3 ⟨⟨u, rfl, hu⟩, rfl⟩; have HU := Lib.hid hu; clear hu)
      go_ret
      exact ⟨u, rfl, HU.out, hgw.out⟩
end Go.Proofs.YtkinlcichclnkaaDoor
