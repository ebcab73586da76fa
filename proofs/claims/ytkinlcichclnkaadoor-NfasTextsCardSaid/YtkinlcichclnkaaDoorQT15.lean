/- checks.parser, names, sorted, Start: what they answer. -/
import Derived.RangeFuncBox
import Derived.Test.YtkinlcichclnkaaDoorQT12
import Derived.Test.YtkinlcichclnkaaDoorQT5
import Derived.Test.YtkinlcichclnkaaDoorQT14
import Derived.Test.YtkinlcichclnkaaDoorQT3
import Derived.Test.YtkinlcichclnkaaDoorQT8
namespace Go.Proofs.YtkinlcichclnkaaDoor
open Go.RowKit

theorem parser_ok (r : Rl) (W : World) (v0 v1 v2 v3 v4 v5 v6 v7 v8 v9 : Value) (hR : v1 = .int .u8 r.sort) :
    Calls Tryd.prog 61 #[.agg #[v0, v1, v2, v3, v4, v5, v6, v7, v8, v9]] W fun e W' => e = .returned (.bool r.parser) ∧ Below W.heap.size W W' := by
  subst hR
  go_enter Tryd.func61, Tryd.ntmps61
  go_wp2
  go_ret
  exact ⟨rfl, (Below.refl _ _).alloc (Nat.le_refl _) _⟩

theorem names_ok (n : Nd) (W : World) (v0 v1 v2 v3 v4 : Value) (h : v0 = .int .u8 n.kind) :
    Calls Tryd.prog 60 #[.agg #[v0, v1, v2, v3, v4]] W fun e W' => e = .returned (.bool n.isName) ∧ Below W.heap.size W W' := by
  subst h
  unfold Nd.isName
  by_cases h5 : n.kind = 5
  · rw [h5]
    go_enter Tryd.func60, Tryd.ntmps60
    go_wp2
    go_ret
    exact ⟨rfl, (Below.refl _ _).alloc (Nat.le_refl _) _⟩
  · have e5 : (n.kind == 5) = false := beq_eq_false_iff_ne.2 h5
    go_enter Tryd.func60, Tryd.ntmps60
    go_wp2
    go_ret
    exact ⟨by rw [e5]; first | rfl | simp, (Below.refl _ _).alloc (Nat.le_refl _) _⟩

theorem enters_parser : Enters 61 := fun _ _ => by kernel_rfl

theorem start_ok (g : Gr) (W : World) (v0 v1 v2 v3 : Value) (hG : GrAt W W.heap.size (some v0) (some v1) (some v2) (some v3) g) :
    Calls Tryd.prog 47 #[.agg #[v0, v1, v2, v3]] W fun e W' => e = .returned (.int .i64 g.start) ∧ Below W.heap.size W W' := by
  obtain ⟨h1, hs, h2, h3, h4, h5, ra, rc, h6, h7, h8⟩ := hG
  obtain rfl := Option.some.inj h1
  obtain rfl := Option.some.inj h2
  obtain rfl := Option.some.inj h3
  obtain rfl := Option.some.inj h6
  clear h1 h2 h3 h4 h5 h6
  have hB : Below W.heap.size W (W.alloc (.cells #[.string g.name, .int .i64 g.bound, .int .i64 g.states, .slice ra g.rules.length rc] 26)) := (Below.refl _ _).alloc (Nat.le_refl _) _
  have hS := Lib.hid (indexRules_ok g.rules (fun r => r.parser) 61 #[] enters_parser _ ra rc h7 ((h8.keep hB).mono hB.size)
    (fun i hi W' v0 v1 v2 v3 v4 v5 v6 v7 v8 v9 hb hr => by
      obtain ⟨_, _, _, _, _, _, e1, _⟩ := hr.vals
      exact parser_ok _ W' _ _ _ _ _ _ _ _ _ _ (Option.some.inj e1)))
  have HB := Lib.hid hB
  clear hB h8
  unfold reachN at h7 hs
  go_enter Tryd.func47, Tryd.ntmps47
  go_wp2_with (go_at_call 40; refine hS.out.mono ?_; rintro e w' ⟨rfl, hb2⟩)
  go_ret
  exact ⟨rfl, HB.out.trans (hb2.mono (by simp))⟩

set_option maxRecDepth 20000 in
theorem sorted_ok (r : Rl) (n : Nd) (o : Int) (W : World) (v0 v1 v2 v3 v4 v5 v6 v7 v8 v9 u0 u1 u2 u3 u4 : Value) (hR : v1 = .int .u8 r.sort) (hN : u0 = .int .u8 n.kind) :
    Calls Tryd.prog 65 #[.agg #[v0, v1, v2, v3, v4, v5, v6, v7, v8, v9], .agg #[u0, u1, u2, u3, u4], .int .u8 o] W fun e W' => e = .returned (.bool (sortedB r n o)) ∧ Below W.heap.size W W' := by
  subst hN
  have HP := Lib.hid (fun w => parser_ok r w v0 v1 v2 v3 v4 v5 v6 v7 v8 v9 hR)
  clear hR
  unfold sortedB
  generalize r.parser = p at *
  by_cases h5 : n.kind = 5
  · rw [h5]
    cases p
    · go_enter Tryd.func65, Tryd.ntmps65
      go_wp2_with fail
      refine (HP.out _).mono ?_
      rintro e w1 ⟨rfl, hb1⟩
      go_wp2_with fail
      go_ret
      have s1 := hb1.size
      exact ⟨rfl, (((Below.refl W.heap.size W).alloc (Nat.le_refl _) _).alloc (by simp) _).trans (hb1.mono (by simp; omega))⟩
    · go_enter Tryd.func65, Tryd.ntmps65
      go_wp2_with fail
      refine (HP.out _).mono ?_
      rintro e w1 ⟨rfl, hb1⟩
      go_wp2_with fail
      go_ret
      have s1 := hb1.size
      exact ⟨rfl, (((Below.refl W.heap.size W).alloc (Nat.le_refl _) _).alloc (by simp) _).trans (hb1.mono (by simp; omega))⟩
  · rw [show (n.kind == 5) = false from beq_eq_false_iff_ne.2 h5]
    cases p
    · go_enter Tryd.func65, Tryd.ntmps65
      go_wp2_with fail
      refine (HP.out _).mono ?_
      rintro e w1 ⟨rfl, hb1⟩
      go_wp2_with fail
      go_ret
      have s1 := hb1.size
      exact ⟨rfl, (((Below.refl W.heap.size W).alloc (Nat.le_refl _) _).alloc (by simp) _).trans (hb1.mono (by simp; omega))⟩
    · go_enter Tryd.func65, Tryd.ntmps65
      go_wp2_with fail
      refine (HP.out _).mono ?_
      rintro e w1 ⟨rfl, hb1⟩
      go_wp2_with fail
      go_ret
      have s1 := hb1.size
      exact ⟨rfl, (((Below.refl W.heap.size W).alloc (Nat.le_refl _) _).alloc (by simp) _).trans (hb1.mono (by simp; omega))⟩
end Go.Proofs.YtkinlcichclnkaaDoor

/- checks.tell: a problem more; what stays as it was. -/
namespace Go.Proofs.YtkinlcichclnkaaDoor
open Go.RowKit

def Prob.cells (p : Prob) : List Value := [.int .u8 p.code, .int .i64 p.rule, .string p.name]
def probCells (L : List Prob) : List Value := L.flatMap Prob.cells
theorem probCells_len (L : List Prob) : (probCells L).length = L.length * 3 := by
  unfold probCells
  induction L with
  | nil => rfl
  | cons a r ih => simp only [List.flatMap_cons, List.length_append, ih, List.length_cons, Prob.cells, List.length_nil]; omega
theorem probCells_snoc (L : List Prob) (p : Prob) : probCells L ++ p.cells = probCells (L ++ [p]) := by
  unfold probCells
  simp [List.flatMap_append]

/-- the seven first cells of a check -/
structure ChkVals where
  c0 : Value
  c1 : Value
  c2 : Value
  c3 : Value
  c4 : Value
  c5 : Value
  c6 : Value
def ChkVals.list (c : ChkVals) (v : Value) : List Value := [c.c0, c.c1, c.c2, c.c3, c.c4, c.c5, c.c6, v]
/-- a check in block cb, to which these problems were told -/
structure ChkAt (W : World) (base cb : Nat) (c : ChkVals) (L : List Prob) : Prop where
  lo : base ≤ cb
  own : ∃ v, Owns W cb (c.list v) 104 ∧ W.ownsRow base 111 3 v L.length (probCells L)
/-- all stays but what is told -/
structure Told (base cb : Nat) (W W' : World) : Prop where
  low : Below base W W'
  block : ∀ b o, W.heap[b]? = some o → b ≠ cb → (∀ cs f, o ≠ .cells cs 111 f) → W'.heap[b]? = some o
theorem Told.refl (base cb : Nat) (W : World) : Told base cb W W := ⟨Below.refl _ _, fun _ _ h _ _ => h⟩
theorem Told.trans {base cb : Nat} {A B C : World} (h : Told base cb A B) (k : Told base cb B C) : Told base cb A C :=
  ⟨h.low.trans k.low, fun b o hb hn hT => k.block b o (h.block b o hb hn hT) hn hT⟩
theorem Told.grew {base cb : Nat} {A B : World} (h : Grew A B) (hl : base ≤ A.heap.size) : Told base cb A B :=
  ⟨h.mono hl, fun b o hb _ _ => by rw [h.block b (Array.getElem?_eq_some_iff.1 hb).1]; exact hb⟩
theorem Told.owns {base cb b : Nat} {A B : World} (h : Told base cb A B) {cs : List Value} {T : Nat} (ho : Owns A b cs T) (hn : b ≠ cb) (hT : T ≠ 111) : Owns B b cs T :=
  h.block b _ ho hn (fun cs' f e => by cases e; exact hT rfl)
theorem Told.kpn {base cb lim : Nat} {A B : World} (h : Told base cb A B) (hl : lim ≤ base) {cs : List Value} (ho : Owns A cb cs 104) : KpN lim A B :=
  ⟨h.low.mono hl, fun b cs' T f hb hT => h.block b _ hb (fun e => by subst e; unfold Owns at ho; rw [ho] at hb; cases hb; rcases hT with h | h <;> cases h) (fun cs'' f' e => by cases e; rcases hT with h | h <;> cases h)⟩
theorem ChkAt.grew {W W' : World} {base cb : Nat} {c : ChkVals} {L : List Prob} (h : ChkAt W base cb c L) (hg : Grew W W') : ChkAt W' base cb c L := by
  obtain ⟨v, ho, hr⟩ := h.own
  exact ⟨h.lo, v, ho.keep hg, hr.kept (w' := W') (row := none) ⟨hg.os, hg.tape, hg.output, hg.size, fun k hk _ => hg.block k hk⟩ (by cases hv : v.ownBlock <;> simp)⟩

/-- a row's own block is of its elements -/
theorem row_block {W : World} {base e size n : Nat} {v : Value} {xs : List Value} (h : W.ownsRow base e size v n xs) {g : Nat} (hg : v.ownBlock = some g) : base ≤ g ∧ ∃ cs, W.heap[g]? = some (.cells cs e (0, 0)) := by
  rcases h.2 with ⟨rfl, _⟩ | ⟨g', cap, cur, rfl, h1, h2, _⟩
  · simp [Value.ownBlock] at hg
  · simp only [Value.ownBlock, Option.some.injEq] at hg
    subst hg
    exact ⟨h1, cur, h2⟩
theorem told_grown {W W' : World} {base cb n : Nat} {v : Value} {xs : List Value} (h : W.ownsRow base 111 3 v n xs) (hg : W.grownBy W' v.ownBlock) (hb : base ≤ W.heap.size) : Told base cb W W' :=
  ⟨(Below.refl base W).grown hg hb (fun k e => (row_block h e).1), fun b o hb' _ hT => by
    rw [hg.block b (Array.getElem?_eq_some_iff.1 hb').1 (fun e => by
      obtain ⟨_, cs, h2⟩ := row_block h e.symm
      rw [hb'] at h2
      exact hT cs (0, 0) (Option.some.inj h2))]
    exact hb'⟩

theorem cell_add {W : World} {b T j : Nat} {cs : List Value} {u : Value} (hj : cs[j]? = some u) (h : Owns W b cs T) : W.cell? ((⟨b, 0, none⟩ : Addr).add j) = some u := by
  rw [show (⟨b, 0, none⟩ : Addr).add j = ⟨b, j, none⟩ by
    cases j with
    | zero => rfl
    | succ j => simp [Addr.add]]
  rw [h.cell, hj]
theorem told_set {W : World} {base cb : Nat} (hlo : base ≤ cb) (i : Nat) (v : Value) : Told base cb W (W.setCell ⟨cb, i, none⟩ v) :=
  ⟨(Below.refl _ _).setCell hlo _, fun b o hb hn _ => by rw [Below.heap_setCell _ _ _ _ hn]; exact hb⟩
theorem row_set {W : World} {base cb n T : Nat} {v : Value} {xs cs : List Value} (h : W.ownsRow base 111 3 v n xs) (ho : Owns W cb cs T) (hT : T ≠ 111) (i : Nat) (u : Value) : (W.setCell ⟨cb, i, none⟩ u).ownsRow base 111 3 v n xs := by
  refine h.kept (w' := W.setCell ⟨cb, i, none⟩ u) (row := some cb) ⟨rfl, rfl, rfl, ((Below.refl 0 W).setCell (p := ⟨cb, i, none⟩) (by omega) u).size, fun k _ hk => Below.heap_setCell _ _ _ _ (fun e => hk (by rw [e]))⟩ ?_
  refine .inr fun hg => ?_
  obtain ⟨_, cs', h2⟩ := row_block h hg
  unfold Owns at ho
  rw [ho] at h2
  cases h2
  exact hT rfl

theorem info_problem : (Tryd.prog.info? 111).map (fun i => (i.zero, i.size, i.bytes)) = some (some (.agg #[.int .u8 0, .int .i64 0, .string ⟨#[]⟩]), 3, 32) := by kernel_rfl

set_option maxHeartbeats 1000000 in
set_option maxRecDepth 20000 in
theorem tell_ok (base cb : Nat) (c : ChkVals) (L : List Prob) (W : World) (hC : ChkAt W base cb c L) (hL : L.length ≤ 1000000) (code rule : Int) (name : ByteArray) :
    Calls Tryd.prog 48 #[.pointer (some ⟨cb, 0, none⟩), .int .u8 code, .int .i64 rule, .string name] W fun e W' => (∃ v, e = .returned v) ∧ ChkAt W' base cb c (L ++ [⟨code, rule, name⟩]) ∧ Told base cb W W' := by
  obtain ⟨hlo, v, ho, hr⟩ := hC
  obtain ⟨i0, hi, hz0, hz1, hz2⟩ := info_parts info_problem
  have hlt := ho.lt
  have c7 : W.cell? ⟨cb, 7, none⟩ = some v := ho.cell_at rfl
  have f7 := ho.free 7
  have HO := Lib.hid ho
  have HR := Lib.hid hr
  have HI := Lib.hid hi
  have HZ0 := Lib.hid hz0
  have HZ1 := Lib.hid hz1
  have HZ2 := Lib.hid hz2
  clear ho hr hi hz0 hz1 hz2
  go_enter Tryd.func48, Tryd.ntmps48
  have hbw : base ≤ W.heap.size := by omega
  have hn := grew_alloc W (.cells #[.int .u8 code, .int .i64 rule, .string name] 111)
  have on := Owns.alloc W [.int .u8 code, .int .i64 rule, .string name] 111
  have HN := Lib.hid hn
  have ON := Lib.hid on
  clear hn on
  go_wp2_with (at_builtin; refine wpList_append_own _ rfl _ _ 85 rfl base 111 i0 _ 3 32 Tryd.underlying85 HI.out HZ0.out HZ1.out HZ2.out rfl (by decide) _ L.length _ rfl (HR.out.alloc _) ⟨W.heap.size, 0, none⟩ 1 1 [.int .u8 code, .int .i64 rule, .string name] rfl rfl ?c1 ?c2 ?c3 ?c4 ?c5 ?_; rotate_right; intro v' w1 hown' hgrow _; obtain ⟨g', cap', rfl⟩ := ownsRow_succ hown'; have htold := told_grown (cb := cb) (HR.out.alloc _) hgrow (by simp; omega); have how := hgrow.size; simp at how; have hO1 : Owns w1 cb (c.list v) 104 := (hgrow.block cb (by simp; omega) (fun e => by obtain ⟨_, cs, h2⟩ := row_block (HR.out.alloc _) e.symm; have h3 := HO.out.keep HN.out; unfold Owns at h3; rw [h3] at h2; cases h2)).trans (HO.out.keep HN.out); have c7' := hO1.cell_at (i := 7) rfl; have f7' := hO1.free 7; have HTO := Lib.hid htold; have ho' := Lib.hid hown'; have HO1 := Lib.hid hO1; clear hgrow hown' htold hO1 c7 f7)
  case c1 => intro j u hj; exact cell_add hj ON.out
  case c2 => simp [Value.oneCell']
  case c3 => unfold maxLen; omega
  case c4 => omega
  case c5 => simp; omega
  go_end0
  refine ⟨⟨_, rfl⟩, ⟨hlo, _, HO1.out.set 7 _, ?_⟩, ((Told.grew HN.out hbw).trans HTO.out).trans (told_set hlo _ _)⟩
  have := row_set ho'.out HO1.out (by decide) 7 (.slice (some ⟨g', 0, none⟩) (L.length + 1) cap')
  rw [show [Value.int .u8 code, .int .i64 rule, .string name] = Prob.cells ⟨code, rule, name⟩ from rfl, probCells_snoc] at this
  simpa using this
end Go.Proofs.YtkinlcichclnkaaDoor

/- checks.rule's questions of a node: is it a name of none; of a sort that may not be named; a loop of what may be empty? -/
namespace Go.Proofs.YtkinlcichclnkaaDoor
open Go.RowKit

/-- a grammar in the first four cells of a block -/
structure GrCell (W : World) (cb : Nat) (g : Gr) : Prop where
  lt : cb < W.heap.size
  at_ : ∃ v0 v1 v2 v3, W.cell? ⟨cb, 0, none⟩ = some v0 ∧ W.cell? ⟨cb, 1, none⟩ = some v1 ∧ W.cell? ⟨cb, 2, none⟩ = some v2 ∧ W.cell? ⟨cb, 3, none⟩ = some v3 ∧ GrAt W W.heap.size (some v0) (some v1) (some v2) (some v3) g
theorem GrCell.grew {W W' : World} {cb : Nat} {g : Gr} (h : GrCell W cb g) (hg : Grew W W') : GrCell W' cb g := by
  obtain ⟨hl, v0, v1, v2, v3, h0, h1, h2, h3, h4⟩ := h
  refine ⟨by have := hg.size; omega, v0, v1, v2, v3, ?_, ?_, ?_, ?_, (h4.keep hg).mono hg.size⟩
  · rw [hg.cells _ _ hl]; exact h0
  · rw [hg.cells _ _ hl]; exact h1
  · rw [hg.cells _ _ hl]; exact h2
  · rw [hg.cells _ _ hl]; exact h3

set_option maxHeartbeats 1000000 in
set_option maxRecDepth 20000 in
theorem rule1_ok (g : Gr) (n : Nd) (W : World) (cb pc : Nat) (v0 v1 v2 v3 v4 : Value) (hG : GrCell W cb g) (hp : W.cell? ⟨pc, 0, none⟩ = some (.pointer (some ⟨cb, 0, none⟩))) (hN : NodeAt W W.heap.size (some v0) (some v1) (some v2) (some v3) (some v4) n) :
    Calls Tryd.prog 63 (#[.agg #[v0, v1, v2, v3, v4]] ++ #[.pointer (some ⟨pc, 0, none⟩)]) W fun e W' => e = .returned (.bool (g.noneBad n)) ∧ Grew W W' := by
  obtain ⟨k, nm, tx, set, subs⟩ := n
  rw [NodeAt] at hN
  obtain ⟨hk, h1, h2, h3, h4, h5, ⟨sa, sc, h6, -, -⟩, na, nc, h7, -, -⟩ := hN
  obtain rfl := Option.some.inj h3
  obtain rfl := Option.some.inj h4
  obtain rfl := Option.some.inj h5
  obtain rfl := Option.some.inj h6
  obtain rfl := Option.some.inj h7
  clear h3 h4 h5 h6 h7 hk
  unfold reachN at h1 h2
  have hgr := grew_alloc W (.cells #[.int .u8 k, .string nm, .string tx, .slice sa set.length sc, .slice na subs.length nc] 34)
  have ho := Owns.alloc W [.int .u8 k, .string nm, .string tx, .slice sa set.length sc, .slice na subs.length nc] 34
  have hpl := lt_of_cell hp
  have hp' : (W.alloc (.cells #[.int .u8 k, .string nm, .string tx, .slice sa set.length sc, .slice na subs.length nc] 34)).cell? ⟨pc, 0, none⟩ = some (.pointer (some ⟨cb, 0, none⟩)) := by rw [hgr.cells _ _ hpl]; exact hp
  obtain ⟨hcl, g0, g1, g2, g3, d0, d1, d2, d3, hGA⟩ := hG.grew hgr
  have b0 := ho.cell_at (i := 0) rfl
  have b1 := ho.cell_at (i := 1) rfl
  have b2 := ho.cell_at (i := 2) rfl
  have b3 := ho.cell_at (i := 3) rfl
  have b4 := ho.cell_at (i := 4) rfl
  have bl := ho.lt
  have hpl' : pc < (W.alloc (.cells #[.int .u8 k, .string nm, .string tx, .slice sa set.length sc, .slice na subs.length nc] 34)).heap.size := by have := hgr.size; omega
  have HNm := Lib.hid (fun w => names_ok (.mk k nm tx set subs) w (.int .u8 k) (.string nm) (.string tx) (.slice sa set.length sc) (.slice na subs.length nc) rfl)
  have HF := Lib.hid (fun w hg' => find_ok g nm w g0 g1 g2 g3 hg')
  have hfin : Hid (g.noneBad (.mk k nm tx set subs) = ((Nd.mk k nm tx set subs).isName && decide (g.find nm < 0))) := rfl
  have HG := Lib.hid hGA
  have HGR := Lib.hid hgr
  generalize hisn : (Nd.mk k nm tx set subs).isName = isn at *
  generalize hfd : g.find nm = fd at *
  clear hGA hgr ho hp hG hisn hfd
  simp only [List.append_toArray, List.cons_append, List.nil_append]
  cases isn
  · go_enter Tryd.func63, Tryd.ntmps63
    go_wp2_with fail
    generalize W.alloc (.cells #[.int .u8 k, .string nm, .string tx, .slice sa set.length sc, .slice na subs.length nc] 34) = w1 at *
    refine wp_region_hav_lit follows (by kernel_rfl) ?_
    repeat (first
      | (refine HavG.skip (fun _ => rfl) ?_; simp only [Act.put, List.setIfInBounds_toArray, List.set_cons_zero, List.set_cons_succ])
      | (refine HavG.val (fun _ => rfl) ?_ (fun x w hw _ => ?_) ?_; rotate_left; (focus (have hc := hw.cells; clear hw; go_simp; first | done | rfl)); simp only [Act.put, List.setIfInBounds_toArray, List.set_cons_zero, List.set_cons_succ]))
    refine HavG.det (fun _ => rfl) (.bool false) (fun x w hw _ => ?_) ?_
    · have HW := Lib.hid hw
      clear hw
      go_simp
      refine (HNm.out _).mono ?_
      rintro e w' ⟨rfl, hb⟩
      exact ⟨rfl, hb⟩
    simp only [Act.put, List.setIfInBounds_toArray, List.set_cons_zero, List.set_cons_succ]
    repeat (first
      | (refine HavG.skip (fun _ => rfl) ?_; simp only [Act.put, List.setIfInBounds_toArray, List.set_cons_zero, List.set_cons_succ])
      | (refine HavG.val (fun _ => rfl) ?_ (fun x w hw _ => ?_) ?_; rotate_left; (focus (have hc := hw.cells; clear hw; go_simp; first | done | rfl)); simp only [Act.put, List.setIfInBounds_toArray, List.set_cons_zero, List.set_cons_succ]))
    refine HavG.tail (by kernel_rfl) (by kernel_rfl) (fun x w hw _ => ?_)
    go_wp2
    go_ret
    exact ⟨by rw [hfin.out]; rfl, HGR.out.trans hw⟩
  · go_enter Tryd.func63, Tryd.ntmps63
    go_wp2_with fail
    generalize W.alloc (.cells #[.int .u8 k, .string nm, .string tx, .slice sa set.length sc, .slice na subs.length nc] 34) = w1 at *
    refine wp_region_hav_lit follows (by kernel_rfl) ?_
    repeat (first
      | (refine HavG.skip (fun _ => rfl) ?_; simp only [Act.put, List.setIfInBounds_toArray, List.set_cons_zero, List.set_cons_succ])
      | (refine HavG.val (fun _ => rfl) ?_ (fun x w hw _ => ?_) ?_; rotate_left; (focus (have hc := hw.cells; clear hw; go_simp; first | done | rfl)); simp only [Act.put, List.setIfInBounds_toArray, List.set_cons_zero, List.set_cons_succ]))
    refine HavG.det (fun _ => rfl) (.bool true) (fun x w hw _ => ?_) ?_
    · have HW := Lib.hid hw
      clear hw
      go_simp
      refine (HNm.out _).mono ?_
      rintro e w' ⟨rfl, hb⟩
      exact ⟨rfl, hb⟩
    simp only [Act.put, List.setIfInBounds_toArray, List.set_cons_zero, List.set_cons_succ]
    repeat (first
      | (refine HavG.skip (fun _ => rfl) ?_; simp only [Act.put, List.setIfInBounds_toArray, List.set_cons_zero, List.set_cons_succ])
      | (refine HavG.val (fun _ => rfl) ?_ (fun x w hw _ => ?_) ?_; rotate_left; (focus (have hc := hw.cells; clear hw; go_simp; first | done | rfl)); simp only [Act.put, List.setIfInBounds_toArray, List.set_cons_zero, List.set_cons_succ]))
    refine HavG.det (fun _ => rfl) (.int .i64 fd) (fun x w hw _ => ?_) ?_
    · have HW := Lib.hid hw
      clear hw
      go_simp
      refine (HF.out _ ((HG.out.keep HW.out).mono HW.out.size)).mono ?_
      rintro e w' ⟨rfl, hb⟩
      exact ⟨rfl, hb⟩
    simp only [Act.put, List.setIfInBounds_toArray, List.set_cons_zero, List.set_cons_succ]
    repeat (first
      | (refine HavG.skip (fun _ => rfl) ?_; simp only [Act.put, List.setIfInBounds_toArray, List.set_cons_zero, List.set_cons_succ])
      | (refine HavG.val (fun _ => rfl) ?_ (fun x w hw _ => ?_) ?_; rotate_left; (focus (have hc := hw.cells; clear hw; go_simp; first | done | rfl)); simp only [Act.put, List.setIfInBounds_toArray, List.set_cons_zero, List.set_cons_succ]))
    refine HavG.tail (by kernel_rfl) (by kernel_rfl) (fun x w hw _ => ?_)
    go_wp2
    all_goals
      go_ret
      exact ⟨by rw [hfin.out]; simp [*], HGR.out.trans hw⟩
end Go.Proofs.YtkinlcichclnkaaDoor

/- The rows of nulls.Reach in memory. -/
namespace Go.Proofs.YtkinlcichclnkaaDoor
open Go.RowKit

theorem info_bools : (Tryd.prog.info? 52).map (fun i => (i.zero, i.size, i.bytes)) = some (some (.slice none 0 0), 1, 24) := by kernel_rfl
theorem made_ones (z : Value) (n : Nat) : madeCells #[z] n = (List.replicate n z).toArray := by
  apply Array.toList_inj.1
  rw [toList_madeCells_one]
theorem make_rows (n : Nat) (hn : n ≤ 1048576) (u : World) : (Instr.makeSlice 101 (.int .i64 (n : Int)) (.int .i64 (n : Int))).run Tryd.prog u =
    .ok (.slice (some ⟨u.heap.size, 0, none⟩) n n) (u.alloc (.cells (List.replicate n (.slice none 0 0)).toArray 52)) := by
  obtain ⟨i0, hi, hz0, hz1, hz2⟩ := info_parts info_bools
  have h := run_make (P := Tryd.prog) u 101 52 i0 (.slice none 0 0) Tryd.underlying101 hi hz0 .i64 .i64 (n : Int) (n : Int) (by omega) (Int.le_refl _) (by rw [hz2]; omega) (by omega)
  rw [Int.toNat_natCast, hz1, Nat.mul_one] at h
  rw [h, ← made_ones]
  rfl

/-- the slices of the rows, the first j of them made -/
def rowsL (f : Nat → Nat) (n j : Nat) : List Value := (List.range n).map fun k => if k < j then .slice (some ⟨f k, 0, none⟩) n n else .slice none 0 0
theorem rowsL_at (f : Nat → Nat) (n j k : Nat) (hk : k < n) : (rowsL f n j)[k]? = some (if k < j then .slice (some ⟨f k, 0, none⟩) n n else .slice none 0 0) := by
  simp [rowsL, hk]
theorem rowsL_zero (f : Nat → Nat) (n : Nat) : rowsL f n 0 = List.replicate n (.slice none 0 0) := by
  apply List.ext_getElem (by simp [rowsL])
  intro i h1 h2
  simp [rowsL]
theorem rowsL_next (f : Nat → Nat) (n j t : Nat) : (rowsL f n j).set j (.slice (some ⟨t, 0, none⟩) n n) = rowsL (fun k => if k = j then t else f k) n (j + 1) := by
  apply List.ext_getElem (by simp [rowsL])
  intro i h1 h2
  have hi : i < n := by simpa [rowsL] using h2
  rw [List.getElem_set]
  split
  · rename_i e; subst e; simp [rowsL]
  · rename_i e
    simp only [rowsL, List.getElem_map, List.getElem_range]
    have : ¬ i = j := fun x => e x.symm
    by_cases h : i < j
    · have h' : i < j + 1 := by omega
      simp [h, h', this]
    · have h' : ¬ i < j + 1 := by omega
      simp [h, h']

/-- the rows, the first j of them made -/
structure Mat (W : World) (B ob rb n j : Nat) (f : Nat → Nat) (row : Nat → List Bool) : Prop where
  o : Owns W ob [.slice (some ⟨rb, 0, none⟩) n n] 101
  r : Owns W rb (rowsL f n j) 52
  rows : ∀ i, i < j → Owns W (f i) ((row i).map .bool) 4
  len : ∀ i, i < j → (row i).length = n
  inj : ∀ i k, i < j → k < j → i ≠ k → f i ≠ f k
  lo : ∀ i, i < j → B ≤ f i
  ob_lt : ob < B
  rb_lt : rb < B
  ne : ob ≠ rb
  jn : j ≤ n

theorem Mat.keep {W W' : World} {B ob rb n j : Nat} {f : Nat → Nat} {row : Nat → List Bool} (h : Mat W B ob rb n j f row) (hg : Grew W W') : Mat W' B ob rb n j f row :=
  ⟨h.o.keep hg, h.r.keep hg, fun i hi => (h.rows i hi).keep hg, h.len, h.inj, h.lo, h.ob_lt, h.rb_lt, h.ne, h.jn⟩

/-- a row more -/
theorem Mat.next {W W' : World} {B ob rb n j t : Nat} {f : Nat → Nat} {row : Nat → List Bool} {l : List Bool} (h : Mat W B ob rb n j f row) (hg : Upd t (W.setCell ⟨rb, j, none⟩ (.slice (some ⟨t, 0, none⟩) n n)) W') (ht : Owns W' t (l.map .bool) 4) (hl : l.length = n)
    (hB : B ≤ t) (hnew : ∀ i, i < j → f i ≠ t) (hj : j < n) : Mat W' B ob rb n (j + 1) (fun k => if k = j then t else f k) (fun k => if k = j then l else row k) := by
  have hb : rb < B := h.rb_lt
  have ho : ob < B := h.ob_lt
  refine ⟨(h.o.other (by simpa using fun e => h.ne e.symm) _).upd hg (by omega), ?_, fun i hi => ?_, fun i hi => ?_, fun i k hi hk hne => ?_, fun i hi => ?_, ho, hb, h.ne, by omega⟩
  · have := (h.r.set j (.slice (some ⟨t, 0, none⟩) n n)).upd hg (by omega)
    rwa [rowsL_next] at this
  · by_cases e : i = j
    · subst e; simpa using ht
    · have hi' : i < j := by omega
      have h1 := h.lo i hi'
      have := ((h.rows i hi').other (a := ⟨rb, j, none⟩) (by show rb ≠ f i; omega) (.slice (some ⟨t, 0, none⟩) n n)).upd hg (hnew i hi')
      simpa [e] using this
  · by_cases e : i = j
    · subst e; simpa using hl
    · simpa [e] using h.len i (by omega)
  · by_cases e : i = j
    · subst e
      have : ¬ k = i := fun x => hne x.symm
      simp only [if_true, this, if_false]
      exact fun x => hnew k (by omega) x.symm
    · by_cases e2 : k = j
      · subst e2
        simp only [e, if_false, if_true]
        exact hnew i (by omega)
      · simp only [e, e2, if_false]
        exact h.inj i k (by omega) (by omega) hne
  · by_cases e : i = j
    · subst e; simpa using hB
    · simpa [e] using h.lo i (by omega)

/-- one cell of the square is written -/
theorem Mat.put {W : World} {B ob rb n : Nat} {f : Nat → Nat} {M : List (List Bool)} (h : Mat W B ob rb n n f (fun i => M.getD i [])) (hs : Square n M) {i k : Nat} (hi : i < n) (b : Bool) :
    Mat (W.setCell ⟨f i, k, none⟩ (.bool b)) B ob rb n n f (fun j => (set2 M i k b).getD j []) := by
  have h1 := h.lo i hi
  have hb : rb < B := h.rb_lt
  have ho : ob < B := h.ob_lt
  have hget : ∀ j, (set2 M i k b).getD j [] = if j = i then (M.getD i []).set k b else M.getD j [] := by
    intro j
    unfold set2
    by_cases e : j = i
    · subst e; simp [List.getD_eq_getElem?_getD, hs.1, hi]
    · simp only [List.getD_eq_getElem?_getD, List.getElem?_set_ne (fun x => e x.symm), e, if_false]
  refine ⟨h.o.other (by show f i ≠ ob; omega) _, h.r.other (by show f i ≠ rb; omega) _, fun j hj => ?_, fun j hj => ?_, h.inj, h.lo, ho, hb, h.ne, h.jn⟩
  · rw [hget]
    by_cases e : j = i
    · subst e
      simp only [if_true]
      have := (h.rows j hj).set k (.bool b)
      rwa [← List.map_set] at this
    · simp only [e, if_false]
      exact (h.rows j hj).other (by show f i ≠ f j; exact h.inj i j hi hj (fun x => e x.symm)) _
  · rw [hget]
    split
    · rename_i e; subst e; simpa using h.len j hj
    · exact h.len j hj

theorem Mat.cell {W : World} {B ob rb n : Nat} {f : Nat → Nat} {M : List (List Bool)} (h : Mat W B ob rb n n f (fun i => M.getD i [])) {i k : Nat} (hi : i < n) (hk : k < n) : W.cell? ⟨f i, k, none⟩ = some (.bool (at2 M i k)) := by
  have h1 := h.rows i hi
  have h2 := h.len i hi
  refine h1.cell_at ?_
  unfold at2
  rw [List.getElem?_map, List.getElem?_eq_getElem (by omega), List.getD_eq_getElem?_getD (l := M.getD i []), List.getElem?_eq_getElem (by omega)]
  rfl
theorem Mat.row {W : World} {B ob rb n j : Nat} {f : Nat → Nat} {row : Nat → List Bool} (h : Mat W B ob rb n j f row) {i : Nat} (hi : i < j) : W.cell? ⟨rb, i, none⟩ = some (.slice (some ⟨f i, 0, none⟩) n n) := by
  have := h.jn
  rw [h.r.cell, rowsL_at _ _ _ _ (by omega), if_pos hi]
theorem Mat.congr {W : World} {B ob rb n j : Nat} {f : Nat → Nat} {row row' : Nat → List Bool} (h : Mat W B ob rb n j f row) (he : ∀ i, i < j → row i = row' i) : Mat W B ob rb n j f row' :=
  ⟨h.o, h.r, fun i hi => by rw [← he i hi]; exact h.rows i hi, fun i hi => by rw [← he i hi]; exact h.len i hi, h.inj, h.lo, h.ob_lt, h.rb_lt, h.ne, h.jn⟩
end Go.Proofs.YtkinlcichclnkaaDoor
