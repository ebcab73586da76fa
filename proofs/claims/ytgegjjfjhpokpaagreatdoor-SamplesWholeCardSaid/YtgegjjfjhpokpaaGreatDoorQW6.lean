/- A net in memory; a search of ways in memory: who lies where, and what stays. -/
import Derived.Deep.CutBlock
import Derived.Deep.DeepCutAuto
import Derived.Deep.LoopGhost
import Derived.Deep.RegionLaw
import Derived.StillTailTactics
import Derived.Test.YtgegjjfjhpokpaaGreatDoorQW4
import Derived.Test.YtgegjjfjhpokpaaGreatDoorQW5
import Derived.Test.YtgegjjfjhpokpaaGreatDoorQW1
import Derived.Test.YtgegjjfjhpokpaaGreatDoorQW3
import Derived.Test.YtgegjjfjhpokpaaGreatDoorQW2
namespace Go.Proofs.YtgegjjfjhpokpaaGreatDoor
open Go.RowKit

/-! ### a net -/
def IntsAt (W : World) (lim : Nat) (a : Option Addr) (l : List Int) : Prop := ∀ k (h : k < l.length), ∃ b off, a = some ⟨b, off, none⟩ ∧ b < lim ∧ W.cell? ⟨b, off + k, none⟩ = some (.int .i64 l[k])
def EdgesAt (W : World) (lim : Nat) (a : Option Addr) (l : List Edg) : Prop := ∀ k (h : k < l.length), ∃ b off, a = some ⟨b, off, none⟩ ∧ b < lim ∧
  W.cell? ⟨b, off + k * 3, none⟩ = some (.int .u8 l[k].kind) ∧ W.cell? ⟨b, off + k * 3 + 1, none⟩ = some (.int .i64 l[k].what) ∧ W.cell? ⟨b, off + k * 3 + 2, none⟩ = some (.int .i64 l[k].to)
def SttAt (W : World) (lim : Nat) (c0 c1 c2 : Option Value) (s : Sta) : Prop :=
  c0 = some (.int .i64 s.rule) ∧ (∃ a cap, c1 = some (.slice a s.edges.length cap) ∧ EdgesAt W lim a s.edges) ∧ ∃ a cap, c2 = some (.slice a s.ends.length cap) ∧ IntsAt W lim a s.ends
def StatesAt (W : World) (lim : Nat) (a : Option Addr) (l : List Sta) : Prop := ∀ k (h : k < l.length), ∃ b off, a = some ⟨b, off, none⟩ ∧ b < lim ∧
  SttAt W lim (W.cell? ⟨b, off + k * 3, none⟩) (W.cell? ⟨b, off + k * 3 + 1, none⟩) (W.cell? ⟨b, off + k * 3 + 2, none⟩) l[k]
/-- a slice of integers -/
def IntsV (W : World) (lim : Nat) (v : Value) (l : List Int) : Prop := ∃ a cap, v = .slice a l.length cap ∧ IntsAt W lim a l
structure NetAt (W : World) (lim : Nat) (v0 v1 v2 v3 v4 : Value) (N : Net) : Prop where
  states : ∃ a cap, v0 = .slice a N.states.length cap ∧ StatesAt W lim a N.states
  starts : IntsV W lim v1 N.starts
  stops : IntsV W lim v2 N.stops
  preds : IntsV W lim v3 N.preds
  decisions : IntsV W lim v4 N.decisions

section
variable {W W' : World} {lim : Nat}
theorem IntsAt.keep (hb : Below lim W W') {a : Option Addr} {l : List Int} (h : IntsAt W lim a l) : IntsAt W' lim a l := fun k hk => by
  obtain ⟨b, off, h1, h2, h3⟩ := h k hk
  exact ⟨b, off, h1, h2, by rw [hb.cell h2]; exact h3⟩
theorem EdgesAt.keep (hb : Below lim W W') {a : Option Addr} {l : List Edg} (h : EdgesAt W lim a l) : EdgesAt W' lim a l := fun k hk => by
  obtain ⟨b, off, h1, h2, h3, h4, h5⟩ := h k hk
  exact ⟨b, off, h1, h2, by rw [hb.cell h2]; exact h3, by rw [hb.cell h2]; exact h4, by rw [hb.cell h2]; exact h5⟩
theorem SttAt.keep (hb : Below lim W W') {c0 c1 c2 : Option Value} {s : Sta} (h : SttAt W lim c0 c1 c2 s) : SttAt W' lim c0 c1 c2 s := by
  obtain ⟨h1, ⟨a, cap, h2, h3⟩, a', cap', h4, h5⟩ := h
  exact ⟨h1, ⟨a, cap, h2, h3.keep hb⟩, a', cap', h4, h5.keep hb⟩
theorem StatesAt.keep (hb : Below lim W W') {a : Option Addr} {l : List Sta} (h : StatesAt W lim a l) : StatesAt W' lim a l := fun k hk => by
  obtain ⟨b, off, h1, h2, h3⟩ := h k hk
  have e : ∀ o, W'.cell? ⟨b, o, none⟩ = W.cell? ⟨b, o, none⟩ := fun o => hb.cell h2
  exact ⟨b, off, h1, h2, by rw [e, e, e]; exact h3.keep hb⟩
theorem IntsV.keep (hb : Below lim W W') {v : Value} {l : List Int} (h : IntsV W lim v l) : IntsV W' lim v l := by
  obtain ⟨a, cap, h1, h2⟩ := h
  exact ⟨a, cap, h1, h2.keep hb⟩
theorem NetAt.keep (hb : Below lim W W') {v0 v1 v2 v3 v4 : Value} {N : Net} (h : NetAt W lim v0 v1 v2 v3 v4 N) : NetAt W' lim v0 v1 v2 v3 v4 N := by
  obtain ⟨⟨a, cap, h1, h2⟩, h3, h4, h5, h6⟩ := h
  exact ⟨⟨a, cap, h1, h2.keep hb⟩, h3.keep hb, h4.keep hb, h5.keep hb, h6.keep hb⟩
theorem IntsAt.mono {lim' : Nat} (hl : lim ≤ lim') {a : Option Addr} {l : List Int} (h : IntsAt W lim a l) : IntsAt W lim' a l := fun k hk => by
  obtain ⟨b, off, h1, h2, h3⟩ := h k hk
  exact ⟨b, off, h1, by omega, h3⟩
theorem IntsV.mono {lim' : Nat} (hl : lim ≤ lim') {v : Value} {l : List Int} (h : IntsV W lim v l) : IntsV W lim' v l := by
  obtain ⟨a, cap, h1, h2⟩ := h
  exact ⟨a, cap, h1, h2.mono hl⟩
theorem EdgesAt.mono {lim' : Nat} (hl : lim ≤ lim') {a : Option Addr} {l : List Edg} (h : EdgesAt W lim a l) : EdgesAt W lim' a l := fun k hk => by
  obtain ⟨b, off, h1, h2, h3⟩ := h k hk
  exact ⟨b, off, h1, by omega, h3⟩
theorem SttAt.mono {lim' : Nat} (hl : lim ≤ lim') {c0 c1 c2 : Option Value} {s : Sta} (h : SttAt W lim c0 c1 c2 s) : SttAt W lim' c0 c1 c2 s := by
  obtain ⟨h1, ⟨a, cap, h2, h3⟩, a', cap', h4, h5⟩ := h
  exact ⟨h1, ⟨a, cap, h2, h3.mono hl⟩, a', cap', h4, h5.mono hl⟩
theorem NetAt.mono {lim' : Nat} (hl : lim ≤ lim') {v0 v1 v2 v3 v4 : Value} {N : Net} (h : NetAt W lim v0 v1 v2 v3 v4 N) : NetAt W lim' v0 v1 v2 v3 v4 N := by
  obtain ⟨⟨a, cap, h1, h2⟩, h3, h4, h5, h6⟩ := h
  refine ⟨⟨a, cap, h1, fun k hk => ?_⟩, h3.mono hl, h4.mono hl, h5.mono hl, h6.mono hl⟩
  obtain ⟨b, off, h7, h8, h9⟩ := h2 k hk
  exact ⟨b, off, h7, by omega, h9.mono hl⟩
end

/-! ### all blocks but some stay -/
structure But (F : Nat → Prop) (w w' : World) : Prop where
  os : w'.os = w.os
  tape : w'.tape = w.tape
  output : w'.output = w.output
  size : w.heap.size ≤ w'.heap.size
  block : ∀ k, k < w.heap.size → ¬F k → w'.heap[k]? = w.heap[k]?
theorem But.refl (F : Nat → Prop) (w : World) : But F w w := ⟨rfl, rfl, rfl, Nat.le_refl _, fun _ _ _ => rfl⟩
theorem But.trans {F G : Nat → Prop} {a b c : World} (h : But F a b) (k : But G b c) (hG : ∀ i, i < a.heap.size → G i → F i) : But F a c :=
  ⟨k.os.trans h.os, k.tape.trans h.tape, k.output.trans h.output, Nat.le_trans h.size k.size, fun i hi hn => (k.block i (Nat.lt_of_lt_of_le hi h.size) (fun g => hn (hG i hi g))).trans (h.block i hi hn)⟩
theorem But.of_grew {F : Nat → Prop} {a b : World} (h : Grew a b) : But F a b := ⟨h.os, h.tape, h.output, h.size, fun k hk _ => h.block k hk⟩
theorem But.put {w : World} {b : Nat} {o : Obj} {F : Nat → Prop} (hb : F b) : But F w (putObj w b o) :=
  ⟨rfl, rfl, rfl, by rw [putObj_size]; exact Nat.le_refl _, fun k _ hn => putObj_other (fun e => hn (by rw [e]; exact hb)) o⟩
theorem But.below {F : Nat → Prop} {w w' : World} {lim : Nat} (h : But F w w') (hl : lim ≤ w.heap.size) (hF : ∀ k, F k → lim ≤ k) : Below lim w w' :=
  ⟨h.os, h.tape, h.output, h.size, fun k hk => h.block k (by omega) (fun hf => by have := hF k hf; omega)⟩
theorem But.drew {F : Nat → Prop} {a b : World} (h : But F a b) : But F a b.drew := ⟨h.os, h.tape, h.output, h.size, h.block⟩
theorem But.owns {F : Nat → Prop} {w w' : World} {b T : Nat} {cs : List Value} (h : But F w w') (ho : Owns w b cs T) (hn : ¬F b) : Owns w' b cs T := by
  have := ho.lt
  unfold Owns at *
  rw [h.block b this hn]; exact ho

theorem setCell_put {w : World} {b T i : Nat} {cs : List Value} (h : Owns w b cs T) (v : Value) : w.setCell ⟨b, i, none⟩ v = putObj w b (.cells (cs.set i v).toArray T (0, 0)) := by
  have hlt := h.lt
  unfold Owns at h
  unfold World.setCell putObj
  have hget : w.heap[b] = .cells cs.toArray T (0, 0) := by
    have := Array.getElem?_eq_getElem hlt
    rw [h] at this
    exact (Option.some.inj this).symm
  congr 1
  apply Array.ext
  · simp
  · intro j h1 h2
    by_cases e : j = b
    · subst e
      simp [Array.getElem_modify, hget]
    · rw [Array.getElem_setIfInBounds_ne (by simpa using h1) (Ne.symm e)]
      simp [Array.getElem_modify, Ne.symm e]

section
variable {w w' : World}
theorem row_own {base e size n : Nat} {v : Value} {xs : List Value} (h : looseRow w base e size v n xs) {g : Nat} (hg : v.ownBlock = some g) : base ≤ g ∧ ∃ cs, w.heap[g]? = some (.cells cs e (0, 0)) := by
  rcases h.2 with ⟨rfl, _⟩ | ⟨g', cap, cur, rfl, h1, h2, _⟩
  · simp [Value.ownBlock] at hg
  · simp only [Value.ownBlock, Option.some.injEq] at hg
    subst hg
    exact ⟨h1, cur, h2⟩
theorem row_but {base e size n : Nat} {v : Value} {xs : List Value} (h : looseRow w base e size v n xs) {F : Nat → Prop} (hb : But F w w') (hn : ∀ g, v.ownBlock = some g → ¬F g) : looseRow w' base e size v n xs := by
  refine ⟨h.1, ?_⟩
  rcases h.2 with h2 | ⟨g, cap, cur, rfl, h1, h2, h3⟩
  · exact .inl h2
  · exact .inr ⟨g, cap, cur, rfl, h1, by rw [hb.block g (Array.getElem?_eq_some_iff.1 h2).1 (hn g rfl)]; exact h2, h3⟩
end
theorem padd_off (b o j : Nat) : (⟨b, o, none⟩ : Addr).add j = ⟨b, o + j, none⟩ := by
  unfold Addr.add
  split
  · rename_i h; rw [h]; rfl
  · rfl
end Go.Proofs.YtgegjjfjhpokpaaGreatDoor

/- Two small laws. -/
namespace Go.Proofs.YtgegjjfjhpokpaaGreatDoor
open Go.RowKit
theorem put_heap {w : World} {a : Addr} {v : Value} {i : Nat} (h : a.block ≠ i) : (w.setCell a v).heap[i]? = w.heap[i]? := Below.heap_setCell _ _ _ _ (fun e => h e.symm)

theorem owns_newsO {w : World} {b T : Nat} {cs : List Value} (h : Owns w b cs T) : ∀ j u, cs[j]? = some u → w.cell? ((⟨b, 0, none⟩ : Addr).add j) = some u := by
  intro j u hj
  rw [padd_off, Nat.zero_add, h.cell, hj]
end Go.Proofs.YtgegjjfjhpokpaaGreatDoor

/- The rules of some sorts, by their numbers (as for nets). -/
namespace Go.Proofs.YtgegjjfjhpokpaaGreatDoor
open Go.RowKit

theorem info_int : (Tryz.prog.info? 3).map (fun i => (i.zero, i.size, i.bytes)) = some (some (.int .i64 0), 1, 8) := by kernel_rfl
def intVs (l : List Int) : List Value := l.map fun i => .int .i64 i
theorem loose_form {w : World} {base e size n : Nat} {v : Value} {xs : List Value} (h : looseRow w base e size v n xs) : ∃ a c, v = .slice a n c := by
  rcases h.2 with ⟨h1, h0⟩ | ⟨b, cap, cur, h1, h2, h3, h4⟩
  · exact ⟨none, 0, by rw [h1, h0]⟩
  · exact ⟨_, cap, h1⟩
theorem loose_ints {w : World} {base : Nat} {v : Value} {l : List Int} (h : looseRow w base 3 1 v l.length (intVs l)) : IntsV w w.heap.size v l := by
  rcases h.2 with ⟨h1, h0⟩ | ⟨b, cap, cur, h1, h2, h3, h4⟩
  · have hn : l = [] := List.eq_nil_of_length_eq_zero h0
    subst hn
    exact ⟨none, 0, h1, fun k hk => absurd hk (by simp)⟩
  · refine ⟨some ⟨b, 0, none⟩, cap, h1, fun k hk => ⟨b, 0, rfl, (Array.getElem?_eq_some_iff.1 h3).1, ?_⟩⟩
    rw [Nat.zero_add]
    exact looseRow_cells h (g := b) (by rw [h1]; rfl) k _ (by simp [intVs, hk])

def SortsAt (W : World) (b : Nat) (l : List Int) : Prop := b < W.heap.size ∧ ∀ k (h : k < l.length), W.cell? ⟨b, k, none⟩ = some (.int .u8 l[k])
theorem SortsAt.keep {W W' : World} {b : Nat} {l : List Int} (h : SortsAt W b l) (hg : Grew W W') : SortsAt W' b l := ⟨Nat.lt_of_lt_of_le h.1 hg.size, fun k hk => (hg.cells _ _ h.1).trans (h.2 k hk)⟩

set_option maxHeartbeats 1000000 in
set_option maxRecDepth 20000 in
theorem indexSort_ok (l : List Int) (x : Int) (W : World) (b cap : Nat) (hl : l.length ≤ reachN) (hR : SortsAt W b l) :
    Calls Tryz.prog 50 #[.slice (some ⟨b, 0, none⟩) l.length cap, .int .u8 x] W fun e W' => e = .returned (.int .i64 (ixOf l fun y => x == y)) ∧ Grew W W' := by
  obtain ⟨hb, hR⟩ := hR
  unfold reachN at hl
  go_enter Tryz.func50, Tryz.ntmps50
  go_wp2
  go_loopw [8] (fun i wr => ∃ (j : Nat), i = .int .i64 j ∧ j ≤ l.length ∧ Hid (NoneTo l (fun y => x == y) j) ∧ Hid (Grew W wr)) (fun i _ => l.length - (intOf i).toNat)
  case atStart =>
    exact ⟨0, rfl, by omega, fun i hi h => absurd h (by omega), Grew.refl W⟩
  case round =>
    obtain ⟨j, rfl, hj, hf, hbw⟩ := hrel
    by_cases hlt : j < l.length
    · have hc' : wr.cell? ⟨b, j, none⟩ = some (.int .u8 l[j]) := by rw [hbw.out.cells _ _ hb]; exact hR j hlt
      have hb' : b < wr.heap.size := Nat.lt_of_lt_of_le hb hbw.out.size
      clear hR
      obtain ⟨t, ht⟩ : ∃ t, (x == l[j]) = t := ⟨_, rfl⟩
      cases t
      · have HQ := Lib.hid ht
        go_wp2_with fail
        exact ⟨⟨j + 1, by go_num, by omega, noneTo_next hf.out hlt HQ.out, hbw.out⟩, by simp [intOf]; omega⟩
      · have HQ := Lib.hid ht
        go_wp2_with fail
        go_ret
        exact ⟨ret_int (ixOf_at hlt hf.out HQ.out).symm, hbw.out⟩
    · go_wp2_with fail
      go_ret
      exact ⟨ret_int (ixOf_none fun i hi => hf.out i hi (by omega)).symm, hbw.out⟩
theorem ixOf_anyS {α : Type} (l : List α) (q : α → Bool) : decide (0 ≤ ixOf l q) = l.any q := by
  rcases ixOf_cases l q with ⟨h, hn⟩ | ⟨j, hj, h, hq, _⟩
  · rw [h]
    symm
    have : l.any q = false := by
      rw [List.any_eq_false]
      intro x hx
      obtain ⟨i, hi, rfl⟩ := List.mem_iff_getElem.1 hx
      simp [hn i hi]
    rw [this]; rfl
  · rw [h]
    have : l.any q = true := List.any_eq_true.2 ⟨l[j], List.getElem_mem hj, hq⟩
    rw [this]
    simp
theorem contSort_ok (l : List Int) (x : Int) (W : World) (b cap : Nat) (hl : l.length ≤ reachN) (hR : SortsAt W b l) :
    Calls Tryz.prog 31 #[.slice (some ⟨b, 0, none⟩) l.length cap, .int .u8 x] W fun e W' => e = .returned (.bool (l.any fun y => x == y)) ∧ Grew W W' := by
  have HC := Lib.hid (indexSort_ok l x W b cap hl hR)
  have HA := Lib.hid (ixOf_anyS l fun y => x == y)
  clear hR
  go_enter Tryz.func31, Tryz.ntmps31
  go_wp2_with (refine HC.out.mono ?_; rintro e w ⟨rfl, hb⟩; have HB := Lib.hid hb; clear hb)
  go_ret
  exact ⟨ret_bool HA.out, HB.out⟩

theorem clipInt_ok (W : World) (base : Nat) (v : Value) (l : List Int) (h : looseRow W base 3 1 v l.length (intVs l)) :
    Calls Tryz.prog 20 #[v] W fun e W' => (∃ u, e = .returned u ∧ looseRow W base 3 1 u l.length (intVs l)) ∧ W = W' := by
  rcases h.2 with ⟨rfl, h0⟩ | ⟨b, cap, cur, rfl, h1, h2, h3, h4, h5, h6⟩
  · have hn : l = [] := List.eq_nil_of_length_eq_zero h0
    subst hn
    go_enter Tryz.func20, Tryz.ntmps20
    go_wp2
    go_ret
    exact ⟨⟨_, rfl, rfl, .inl ⟨rfl, rfl⟩⟩, rfl⟩
  · have HL : Hid (looseRow W base 3 1 (.slice (some ⟨b, 0, none⟩) l.length l.length) l.length (intVs l)) := ⟨h.1, .inr ⟨b, _, cur, rfl, h1, h2, Nat.le_refl _, Nat.le_trans h3 h4, by omega, h6⟩⟩
    unfold maxLen at h4
    obtain ⟨n, hn⟩ : ∃ n, l.length = n := ⟨_, rfl⟩
    rw [hn] at h3 HL ⊢
    clear h h2 h5 h6 hn
    go_enter Tryz.func20, Tryz.ntmps20
    go_wp2
    go_ret
    exact ⟨⟨_, rfl, HL.out⟩, rfl⟩

/-- the numbers of the rules of some sorts, below j -/
def Gr.isAt (g : Gr) (S : List Int) (j : Nat) : Bool := match g.rules[j]? with
  | some r => S.any fun y => r.sort == y
  | none => false
def Gr.ofTo (g : Gr) (S : List Int) : Nat → List Int
  | 0 => []
  | j + 1 => if g.isAt S j = true then Gr.ofTo g S j ++ [(j : Int)] else Gr.ofTo g S j
theorem Gr.isAt_get {g : Gr} {S : List Int} {j : Nat} (h : j < g.rules.length) : g.isAt S j = S.any fun y => g.rules[j].sort == y := by unfold Gr.isAt; rw [List.getElem?_eq_getElem h]
def Gr.of (g : Gr) (S : List Int) : List Int := g.ofTo S g.rules.length
theorem Gr.ofTo_len (g : Gr) (S : List Int) : ∀ j, (g.ofTo S j).length ≤ j
  | 0 => Nat.le_refl _
  | j + 1 => by have := Gr.ofTo_len g S j; rw [Gr.ofTo]; split <;> simp <;> omega
theorem Gr.ofTo_mem (g : Gr) (S : List Int) : ∀ j x, x ∈ g.ofTo S j → ∃ i, ∃ h : i < g.rules.length, i < j ∧ x = i ∧ (S.any fun y => g.rules[i].sort == y) = true
  | 0, x, h => by simp [Gr.ofTo] at h
  | j + 1, x, h => by
    rw [Gr.ofTo] at h
    have old : x ∈ g.ofTo S j → ∃ i, ∃ h : i < g.rules.length, i < j + 1 ∧ x = i ∧ (S.any fun y => g.rules[i].sort == y) = true := fun hx => by
      obtain ⟨i, h1, h2, h3⟩ := Gr.ofTo_mem g S j x hx
      exact ⟨i, h1, by omega, h3⟩
    split at h
    · rename_i hc
      rcases List.mem_append.1 h with h | h
      · exact old h
      · have hx : x = (j : Int) := by simpa using h
        rcases Nat.lt_or_ge j g.rules.length with hj | hj
        · rw [Gr.isAt_get hj] at hc
          exact ⟨j, hj, by omega, hx, hc⟩
        · unfold Gr.isAt at hc
          rw [List.getElem?_eq_none hj] at hc
          cases hc
    · exact old h

theorem intVs_snoc (l : List Int) (x : Int) : intVs (l ++ [x]) = intVs l ++ [.int .i64 x] := by unfold intVs; rw [List.map_append]; rfl
theorem grew_loose {W w w' : World} {e size n : Nat} {v : Value} {xs : List Value} (h : looseRow w W.heap.size e size v n xs) (hg : Grew W w) (hgr : w.grownBy w' v.ownBlock) : Grew W w' :=
  ⟨hgr.os.trans hg.os, hgr.tape.trans hg.tape, hgr.output.trans hg.output, Nat.le_trans hg.size hgr.size, fun k hk => by
    rw [hgr.block k (Nat.lt_of_lt_of_le hk hg.size) (fun e => by have := (row_own h e.symm).1; omega), hg.block k hk]⟩

set_option maxHeartbeats 2000000 in
set_option maxRecDepth 20000 in
theorem mof_ok (g : Gr) (S : List Int) (hS : S.length ≤ 100) (W : World) (v0 v1 v2 v3 : Value) (hG : GrAt W W.heap.size (some v0) (some v1) (some v2) (some v3) g) (hn : g.rules.length ≤ 1000000) (sb sc : Nat) (hs : SortsAt W sb S) :
    Calls Tryz.prog 12 #[.agg #[v0, v1, v2, v3], .slice (some ⟨sb, 0, none⟩) S.length sc] W fun e W' => ∃ v, e = .returned v ∧ looseRow W' W.heap.size 3 1 v (g.of S).length (intVs (g.of S)) ∧ Grew W W' := by
  obtain ⟨q1, -, q2, q3, q4, q5, ra, rc, q6, -, hrules⟩ := hG
  obtain rfl := Option.some.inj q1
  obtain rfl := Option.some.inj q2
  obtain rfl := Option.some.inj q3
  obtain rfl := Option.some.inj q6
  obtain ⟨w1, hw1⟩ : ∃ w1, W.alloc (.cells #[.string g.name, .int .i64 g.bound, .int .i64 g.states, .slice ra g.rules.length rc] 46) = w1 := ⟨_, rfl⟩
  have g1 : Grew W w1 := hw1 ▸ grew_alloc W _
  have o1 : Owns w1 W.heap.size [.string g.name, .int .i64 g.bound, .int .i64 g.states, .slice ra g.rules.length rc] 46 := hw1 ▸ Owns.alloc W _ _
  have c3 := o1.cell_at (i := 3) rfl
  have cl := o1.lt
  have G1 := Lib.hid g1
  have HR := Lib.hid hrules
  have HSS := Lib.hid hs
  obtain ⟨i0, hi, hz0, hz1, hz2⟩ := info_parts info_int
  have HI := Lib.hid hi
  have HZ0 := Lib.hid hz0
  have HZ1 := Lib.hid hz1
  have HZ2 := Lib.hid hz2
  clear hi hz0 hz1 hz2 g1 o1 hrules hs q1 q2 q3 q4 q5 q6
  go_enter Tryz.func12, Tryz.ntmps12
  go_wp2_with fail
  go_loopw [4, 10] (fun v c w => ∃ (j : Nat), c = .int .i64 j ∧ j ≤ g.rules.length ∧ Hid (looseRow w W.heap.size 3 1 v (g.ofTo S j).length (intVs (g.ofTo S j))) ∧ Hid (Grew W w)) (fun _ c _ => g.rules.length - (intOf c).toNat)
  case atStart => exact ⟨0, rfl, by omega, ⟨rfl, .inl ⟨rfl, rfl⟩⟩, G1.out⟩
  case round =>
    obtain ⟨j, rfl, hj, hrow, hgw⟩ := hrel
    clear c3 cl
    by_cases hlt : j < g.rules.length
    · obtain ⟨b, off, rfl, hb, hrule⟩ := (HR.out.keep hgw.out).get hlt
      simp only [Nat.zero_add] at hrule
      obtain ⟨u2, u3, u4, u5, u6, e0, e1, e2, e3, e4, e5, e6, e7, e8, e9, hrule, hnode⟩ := hrule.vals
      obtain ⟨ck, cnm, ctx, csa, csl, csc, cna, cnl, cnc, rfl, rfl, rfl, rfl, rfl⟩ := hnode.forms
      have hbl : b < wr.heap.size := Nat.lt_of_lt_of_le hb hgw.out.size
      obtain ⟨w2, hw2⟩ : ∃ w2, wr.alloc (.cells #[.string g.rules[j].name, .int .u8 g.rules[j].sort, .int .u8 ck, .string cnm, .string ctx, .slice csa csl csc, .slice cna cnl cnc, .int .i64 g.rules[j].p0, .int .i64 g.rules[j].p1, .int .i64 g.rules[j].p2] 72) = w2 := ⟨_, rfl⟩
      have g2 : Grew wr w2 := hw2 ▸ grew_alloc wr _
      have o2 : Owns w2 wr.heap.size [.string g.rules[j].name, .int .u8 g.rules[j].sort, .int .u8 ck, .string cnm, .string ctx, .slice csa csl csc, .slice cna cnl cnc, .int .i64 g.rules[j].p0, .int .i64 g.rules[j].p1, .int .i64 g.rules[j].p2] 72 := hw2 ▸ Owns.alloc wr _ _
      have f1 := o2.cell_at (i := 1) rfl
      have fl := o2.lt
      have HG2 := Lib.hid (hgw.out.trans g2)
      have HC := Lib.hid (contSort_ok S g.rules[j].sort w2 sb sc (by unfold reachN; omega) (HSS.out.keep (hgw.out.trans g2)))
      have HRW := Lib.hid (row_but hrow.out (But.of_grew (F := fun _ => False) g2) fun _ _ => id)
      have hnx : g.ofTo S (j + 1) = if (S.any fun y => g.rules[j].sort == y) = true then g.ofTo S j ++ [(j : Int)] else g.ofTo S j := by rw [Gr.ofTo, Gr.isAt_get hlt]
      have hnl := Gr.ofTo_len g S j
      clear g2 o2 hrule hnode hrow hgw
      obtain ⟨t, ht⟩ : ∃ t, (S.any fun y => g.rules[j].sort == y) = t := ⟨_, rfl⟩
      rw [ht] at HC hnx
      clear ht
      cases t
      · simp only [Bool.false_eq_true, if_false] at hnx
        rw [← hnx] at HRW
        clear hnx hnl
        go_wp2_with (refine HC.out.mono ?_; rintro e w3 ⟨rfl, hb3⟩; have HB3 := Lib.hid hb3; clear hb3)
        exact ⟨⟨j + 1, by go_num, by omega, row_but HRW.out (But.of_grew (F := fun _ => False) HB3.out) (fun _ _ => id), HG2.out.trans HB3.out⟩, by simp [intOf]; omega⟩
      · simp only [if_true] at hnx
        have HNX := Lib.hid hnx
        clear hnx
        obtain ⟨n, hn9⟩ : ∃ n, (g.ofTo S j).length = n := ⟨_, rfl⟩
        rw [hn9] at HRW hnl
        have HN9 := Lib.hid hn9
        clear hn9
        go_wp2_with fail
        refine HC.out.mono ?_
        rintro e w3 ⟨rfl, hb3⟩
        obtain ⟨w4, hw4⟩ : ∃ w4, w3.alloc (.cells #[.int .i64 j] 3) = w4 := ⟨_, rfl⟩
        have g4 : Grew w3 w4 := hw4 ▸ grew_alloc w3 _
        have o4 : Owns w4 w3.heap.size [.int .i64 j] 3 := hw4 ▸ Owns.alloc w3 _ _
        have HR4 := Lib.hid (row_but HRW.out (But.of_grew (F := fun _ => False) (hb3.trans g4)) fun _ _ => id)
        have HG4 := Lib.hid (HG2.out.trans (hb3.trans g4))
        have HNS := Lib.hid (owns_newsO o4)
        have H63 := Lib.hid (show n + 1 ≤ maxLen by unfold maxLen; omega)
        have H64 := Lib.hid (show (n + 1) * 8 ≤ 140737488355328 by omega)
        have HLIM := Lib.hid HG4.out.size
        clear hb3 g4 o4
        go_wp2_with (at_builtin; refine wpList_append_loose w4 rfl _ _ 22 rfl W.heap.size 3 i0 _ 1 8 Tryz.underlying22 HI.out HZ0.out HZ1.out HZ2.out rfl (by decide) _ n (intVs (g.ofTo S j)) rfl HR4.out ⟨w3.heap.size, 0, none⟩ 1 1 [.int .i64 j] rfl rfl HNS.out (fun u hu => by rw [List.mem_singleton.1 hu]; rfl) (by decide) H63.out H64.out HLIM.out _ rfl ?_; intro gb cap w5 hown hgrow hat hlt5; have HOWN := Lib.hid hown; have HGROW := Lib.hid hgrow; clear hown hgrow hat hlt5)
        refine ⟨⟨j + 1, by go_num, by omega, ?_, grew_loose HR4.out HG4.out HGROW.out⟩, by simp [intOf]; omega⟩
        have hlen : (g.ofTo S j ++ [(j : Int)]).length = n + 1 := by simp [HN9.out]
        unfold Hid
        rw [HNX.out, hlen, intVs_snoc]
        exact HOWN.out
    · obtain rfl : j = g.rules.length := by omega
      have HC := Lib.hid (clipInt_ok wr W.heap.size _ (g.of S) hrow.out)
      go_wp2_with (refine HC.out.mono ?_; rintro e w3 ⟨⟨u, rfl, hu⟩, rfl⟩; have HU := Lib.hid hu; clear hu)
      go_ret
      exact ⟨u, rfl, HU.out, hgw.out⟩
end Go.Proofs.YtgegjjfjhpokpaaGreatDoor
