/- checks.tell: a problem more; what stays as it was. -/
import Derived.Test.YtnopnihdobedcaaWalk
import Derived.Test.YtnopnihdobedcaaCheck1
import Derived.Test.YtnopnihdobedcaaOwn
import Derived.RangeFuncBox
namespace Go.Proofs.Ytnopnihdobedcaa
open Go.RowKit

def Prob.cells (p : Prob) : List Value := [.int .u8 p.code, .int .i64 p.rule, .string p.name]
def probCells (L : List Prob) : List Value := L.flatMap Prob.cells
theorem probCells_len (L : List Prob) : (probCells L).length = L.length * 3 := by
  unfold probCells
  induction L with
  | nil => rfl
  | cons a r ih => simp only [List.flatMap_cons, List.length_append, ih, List.length_cons, Prob.cells, List.length_nil]; omega
theorem probCells_snoc (L : List Prob) (p : Prob) : probCells L ++ p.cells = probCells (L ++ [p]) := by
  unfold probCells
  simp [List.flatMap_append]

/-- the seven first cells of a check -/
structure ChkVals where
  c0 : Value
  c1 : Value
  c2 : Value
  c3 : Value
  c4 : Value
  c5 : Value
  c6 : Value
def ChkVals.list (c : ChkVals) (v : Value) : List Value := [c.c0, c.c1, c.c2, c.c3, c.c4, c.c5, c.c6, v]
/-- a check in block cb, to which these problems were told -/
structure ChkAt (W : World) (base cb : Nat) (c : ChkVals) (L : List Prob) : Prop where
  lo : base ≤ cb
  own : ∃ v, Owns W cb (c.list v) 96 ∧ W.ownsRow base 55 3 v L.length (probCells L)
/-- all stays but what is told -/
structure Told (base cb : Nat) (W W' : World) : Prop where
  low : Below base W W'
  block : ∀ b o, W.heap[b]? = some o → b ≠ cb → (∀ cs f, o ≠ .cells cs 55 f) → W'.heap[b]? = some o
theorem Told.refl (base cb : Nat) (W : World) : Told base cb W W := ⟨Below.refl _ _, fun _ _ h _ _ => h⟩
theorem Told.trans {base cb : Nat} {A B C : World} (h : Told base cb A B) (k : Told base cb B C) : Told base cb A C :=
  ⟨h.low.trans k.low, fun b o hb hn hT => k.block b o (h.block b o hb hn hT) hn hT⟩
theorem Told.grew {base cb : Nat} {A B : World} (h : Grew A B) (hl : base ≤ A.heap.size) : Told base cb A B :=
  ⟨h.mono hl, fun b o hb _ _ => by rw [h.block b (Array.getElem?_eq_some_iff.1 hb).1]; exact hb⟩
theorem Told.owns {base cb b : Nat} {A B : World} (h : Told base cb A B) {cs : List Value} {T : Nat} (ho : Owns A b cs T) (hn : b ≠ cb) (hT : T ≠ 55) : Owns B b cs T :=
  h.block b _ ho hn (fun cs' f e => by cases e; exact hT rfl)
theorem Told.kpn {base cb lim : Nat} {A B : World} (h : Told base cb A B) (hl : lim ≤ base) {cs : List Value} (ho : Owns A cb cs 96) : KpN lim A B :=
  ⟨h.low.mono hl, fun b cs' T f hb hT => h.block b _ hb (fun e => by subst e; unfold Owns at ho; rw [ho] at hb; cases hb; rcases hT with h | h <;> cases h) (fun cs'' f' e => by cases e; rcases hT with h | h <;> cases h)⟩
theorem ChkAt.grew {W W' : World} {base cb : Nat} {c : ChkVals} {L : List Prob} (h : ChkAt W base cb c L) (hg : Grew W W') : ChkAt W' base cb c L := by
  obtain ⟨v, ho, hr⟩ := h.own
  exact ⟨h.lo, v, ho.keep hg, hr.kept (w' := W') (row := none) ⟨hg.os, hg.tape, hg.output, hg.size, fun k hk _ => hg.block k hk⟩ (by cases hv : v.ownBlock <;> simp)⟩

/-- a row's own block is of its elements -/
theorem row_block {W : World} {base e size n : Nat} {v : Value} {xs : List Value} (h : W.ownsRow base e size v n xs) {g : Nat} (hg : v.ownBlock = some g) : base ≤ g ∧ ∃ cs, W.heap[g]? = some (.cells cs e (0, 0)) := by
  rcases h.2 with ⟨rfl, _⟩ | ⟨g', cap, cur, rfl, h1, h2, _⟩
  · simp [Value.ownBlock] at hg
  · simp only [Value.ownBlock, Option.some.injEq] at hg
    subst hg
    exact ⟨h1, cur, h2⟩
theorem told_grown {W W' : World} {base cb n : Nat} {v : Value} {xs : List Value} (h : W.ownsRow base 55 3 v n xs) (hg : W.grownBy W' v.ownBlock) (hb : base ≤ W.heap.size) : Told base cb W W' :=
  ⟨(Below.refl base W).grown hg hb (fun k e => (row_block h e).1), fun b o hb' _ hT => by
    rw [hg.block b (Array.getElem?_eq_some_iff.1 hb').1 (fun e => by
      obtain ⟨_, cs, h2⟩ := row_block h e.symm
      rw [hb'] at h2
      exact hT cs (0, 0) (Option.some.inj h2))]
    exact hb'⟩

theorem cell_add {W : World} {b T j : Nat} {cs : List Value} {u : Value} (hj : cs[j]? = some u) (h : Owns W b cs T) : W.cell? ((⟨b, 0, none⟩ : Addr).add j) = some u := by
  rw [show (⟨b, 0, none⟩ : Addr).add j = ⟨b, j, none⟩ by
    cases j with
    | zero => rfl
    | succ j => simp [Addr.add]]
  rw [h.cell, hj]
theorem told_set {W : World} {base cb : Nat} (hlo : base ≤ cb) (i : Nat) (v : Value) : Told base cb W (W.setCell ⟨cb, i, none⟩ v) :=
  ⟨(Below.refl _ _).setCell hlo _, fun b o hb hn _ => by rw [Below.heap_setCell _ _ _ _ hn]; exact hb⟩
theorem row_set {W : World} {base cb n T : Nat} {v : Value} {xs cs : List Value} (h : W.ownsRow base 55 3 v n xs) (ho : Owns W cb cs T) (hT : T ≠ 55) (i : Nat) (u : Value) : (W.setCell ⟨cb, i, none⟩ u).ownsRow base 55 3 v n xs := by
  refine h.kept (w' := W.setCell ⟨cb, i, none⟩ u) (row := some cb) ⟨rfl, rfl, rfl, ((Below.refl 0 W).setCell (p := ⟨cb, i, none⟩) (by omega) u).size, fun k _ hk => Below.heap_setCell _ _ _ _ (fun e => hk (by rw [e]))⟩ ?_
  refine .inr fun hg => ?_
  obtain ⟨_, cs', h2⟩ := row_block h hg
  unfold Owns at ho
  rw [ho] at h2
  cases h2
  exact hT rfl

theorem info_problem : (Try.prog.info? 55).map (fun i => (i.zero, i.size, i.bytes)) = some (some (.agg #[.int .u8 0, .int .i64 0, .string ⟨#[]⟩]), 3, 32) := by kernel_rfl

set_option maxHeartbeats 1000000 in
set_option maxRecDepth 20000 in
theorem tell_ok (base cb : Nat) (c : ChkVals) (L : List Prob) (W : World) (hC : ChkAt W base cb c L) (hL : L.length ≤ 1000000) (code rule : Int) (name : ByteArray) :
    Calls Try.prog 46 #[.pointer (some ⟨cb, 0, none⟩), .int .u8 code, .int .i64 rule, .string name] W fun e W' => (∃ v, e = .returned v) ∧ ChkAt W' base cb c (L ++ [⟨code, rule, name⟩]) ∧ Told base cb W W' := by
  obtain ⟨hlo, v, ho, hr⟩ := hC
  obtain ⟨i0, hi, hz0, hz1, hz2⟩ := info_parts info_problem
  have hlt := ho.lt
  have c7 : W.cell? ⟨cb, 7, none⟩ = some v := ho.cell_at rfl
  have f7 := ho.free 7
  have HO := Lib.hid ho
  have HR := Lib.hid hr
  have HI := Lib.hid hi
  have HZ0 := Lib.hid hz0
  have HZ1 := Lib.hid hz1
  have HZ2 := Lib.hid hz2
  clear ho hr hi hz0 hz1 hz2
  go_enter Try.func46, Try.ntmps46
  have hbw : base ≤ W.heap.size := by omega
  have hn := grew_alloc W (.cells #[.int .u8 code, .int .i64 rule, .string name] 55)
  have on := Owns.alloc W [.int .u8 code, .int .i64 rule, .string name] 55
  have HN := Lib.hid hn
  have ON := Lib.hid on
  clear hn on
  go_wp2_with (at_builtin; refine wpList_append_own _ rfl _ _ 51 rfl base 55 i0 _ 3 32 Try.underlying51 HI.out HZ0.out HZ1.out HZ2.out rfl (by decide) _ L.length _ rfl (HR.out.alloc _) ⟨W.heap.size, 0, none⟩ 1 1 [.int .u8 code, .int .i64 rule, .string name] rfl rfl ?c1 ?c2 ?c3 ?c4 ?c5 ?_; rotate_right; intro v' w1 hown' hgrow _; obtain ⟨g', cap', rfl⟩ := ownsRow_succ hown'; have htold := told_grown (cb := cb) (HR.out.alloc _) hgrow (by simp; omega); have how := hgrow.size; simp at how; have hO1 : Owns w1 cb (c.list v) 96 := (hgrow.block cb (by simp; omega) (fun e => by obtain ⟨_, cs, h2⟩ := row_block (HR.out.alloc _) e.symm; have h3 := HO.out.keep HN.out; unfold Owns at h3; rw [h3] at h2; cases h2)).trans (HO.out.keep HN.out); have c7' := hO1.cell_at (i := 7) rfl; have f7' := hO1.free 7; have HTO := Lib.hid htold; have ho' := Lib.hid hown'; have HO1 := Lib.hid hO1; clear hgrow hown' htold hO1 c7 f7)
  case c1 => intro j u hj; exact cell_add hj ON.out
  case c2 => simp [Value.oneCell']
  case c3 => unfold maxLen; omega
  case c4 => omega
  case c5 => simp; omega
  go_end0
  refine ⟨⟨_, rfl⟩, ⟨hlo, _, HO1.out.set 7 _, ?_⟩, ((Told.grew HN.out hbw).trans HTO.out).trans (told_set hlo _ _)⟩
  have := row_set ho'.out HO1.out (by decide) 7 (.slice (some ⟨g', 0, none⟩) (L.length + 1) cap')
  rw [show [Value.int .u8 code, .int .i64 rule, .string name] = Prob.cells ⟨code, rule, name⟩ from rfl, probCells_snoc] at this
  simpa using this
end Go.Proofs.Ytnopnihdobedcaa
