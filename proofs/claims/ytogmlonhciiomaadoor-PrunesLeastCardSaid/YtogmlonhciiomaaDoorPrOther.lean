/- Other: an automaton as the document has it. -/
import Derived.Test.YtogmlonhciiomaaDoorPrSame2
namespace Go.Proofs.YtogmlonhciiomaaDoor
open Go.RowKit

theorem edVs_take (l : List Ed) {j : Nat} (h : j < l.length) : edVs (l.take j) ++ [.int .i64 l[j].tok, .int .i64 l[j].tgt] = edVs (l.take (j + 1)) := by
  have ht : l.take (j + 1) = l.take j ++ [l[j]] := by
    rw [List.take_add_one, List.getElem?_eq_getElem h]
    rfl
  rw [ht]
  unfold edVs
  rw [List.flatMap_append]
  rfl
theorem loose_eds {W : World} {base T : Nat} {v : Value} {l : List Ed} (h : looseRow W base T 2 v l.length (edVs l)) : EdsV W W.heap.size v l := by
  rcases row_cells h with ⟨rfl, h0⟩ | ⟨g, cap, rfl, hc, _, hg, hcell⟩
  · have : l = [] := List.eq_nil_of_length_eq_zero h0
    subst this
    exact ⟨none, 0, rfl, Nat.le_refl _, fun k hk => absurd hk (by simp)⟩
  · refine ⟨_, _, rfl, hc, fun k hk => ⟨g, 0, rfl, hg, ?_, ?_⟩⟩
    · rw [Nat.zero_add]; exact hcell _ _ (by have := flat_get _ _ edF_len l k 0 (by omega); simp only [Nat.add_zero] at this; unfold edVs; rw [this, List.getElem?_eq_getElem hk]; rfl)
    · rw [Nat.zero_add]; exact hcell _ _ (by unfold edVs; rw [flat_get _ _ edF_len l k 1 (by omega), List.getElem?_eq_getElem hk]; rfl)
theorem info_rEdge : (Tryd.prog.info? 64).map (fun i => (i.zero, i.size, i.bytes)) = some (some (.agg #[.int .i64 0, .int .i64 0]), 2, 16) := by kernel_rfl
theorem info_rState : (Tryd.prog.info? 63).map (fun i => (i.zero, i.size, i.bytes)) = some (some (.agg #[.int .i64 0, .slice none 0 0, .slice none 0 0]), 3, 56) := by kernel_rfl

/-- an append of which the run is known -/
theorem uponV_append {P : Program} {G : Value → World → Prop} {w : World} {o : Oper} {ev : Operand → Value} {w' : World} (s x : Operand) (t tn : TypeId)
    (ho : o.op = .call { callee := .builtin .append, args := #[s, x], argTypes := #[t, tn] }) {vs vx v : Value} (hs : ev s = vs) (hx : ev x = vx)
    (hr : (Builtin.append_ #[t, tn] o.type #[vs, vx]).run P w = .ok v w') (h : G v w') : uponV P G ((execOp ev o).run P w) := by
  unfold execOp
  simp only [ho, resolve, invoke, builtin, Sem.run_bind, Sem.run_pure, Result.andThen_ok, List.map_toArray, List.map_cons, List.map_nil, hs, hx, hr]
  exact h
/-- a copy by append -/
theorem copy_run (lim : Nat) (l : List Int) (hl : l.length ≤ 400) (w : World) (hw : lim ≤ w.heap.size) (v : Value) (h : IntsV w w.heap.size v l) :
    ∃ r w', (Builtin.append_ #[26, 26] 26 #[.slice none 0 0, v]).run Tryd.prog w = .ok r w' ∧ Grew w w' ∧ AltsR lim l r w' := by
  obtain ⟨a, c, rfl, hc, hA⟩ := h
  obtain ⟨i0, hi, hz0, hz1, hz2⟩ := info_parts info_pint
  cases l with
  | nil =>
    refine ⟨.slice none 0 0, w, ?_, Grew.refl w, ⟨rfl, .inl ⟨rfl, rfl⟩⟩⟩
    have hf : (Builtin.firstCells 1 0 (.slice a 0 c)).run Tryd.prog w = .ok #[] w := by
      cases a with
      | none => simp [Builtin.firstCells]
      | some a => simp [Builtin.firstCells, loadCells, loadCellsFrom]
    have ht := Tryd.underlying26
    simp [Builtin.append_, run_underlying ht, sizeOf, typeInfo, hi, Builtin.lenOf, hf, hz1]
  | cons x r =>
    obtain ⟨b, off, rfl, _, _⟩ := hA 0 (by simp)
    have hcc := cells_ints hA
    obtain ⟨g, cap, w', hr, h2, h3, h4, h5⟩ := run_append_loose (P := Tryd.prog) w 26 26 w.heap.size 3 i0 (.int .i64 0) 1 8 Tryd.underlying26 hi hz0 hz1 hz2 rfl (by decide) (.slice none 0 0) 0 [] ⟨rfl, .inl ⟨rfl, rfl⟩⟩ ⟨b, off, none⟩ (x :: r).length c (intVs (x :: r)) (by simp [intVs])
      (fun j u hj => (hcc j u hj).2) (by
        intro u hu
        unfold intVs at hu
        obtain ⟨y, _, rfl⟩ := List.mem_map.1 hu
        rfl) (by simp) (by unfold maxLen; omega) (by omega) (Nat.le_refl _) w.heap.size rfl
    refine ⟨_, w', hr, ⟨h3.os, h3.tape, h3.output, h3.size, fun k hk => h3.block k hk (by simp [Value.ownBlock])⟩, ?_⟩
    have h6 := h2.base hw
    simp only [Nat.zero_add, List.nil_append] at h6 ⊢
    exact h6
/-- a state that is built -/
def BuiltQ (lim : Nat) (k : Int) (l : List Int) (v : Value) (w : World) : Prop := ∃ a m c, v = .agg #[.int .i64 k, .slice a m c, .slice none 0 0] ∧ AltsR lim l (.slice a m c) w
theorem BuiltQ.keep {lim : Nat} {k : Int} {l : List Int} {v : Value} {w w' : World} (hg : Grew w w') (h : BuiltQ lim k l v w) : BuiltQ lim k l v w' := by
  obtain ⟨a, m, c, h1, h2⟩ := h
  exact ⟨a, m, c, h1, h2.keep hg⟩

structure OtAt (a : Aut) (W wr : World) (v0 v : Value) (i : Nat) (vs : List (Value × Value × Value)) : Prop where
  low : Grew W wr
  bn : Owns wr W.heap.size [v0] 24
  res : Owns wr (W.heap.size + 1) [.slice none 0 0] 31
  m : Owns wr (W.heap.size + 1 + 1) [v] 31
  row : looseRow wr W.heap.size 63 3 v i (triVs vs)
  len : vs.length = i
  st : ∀ k (h : k < a.length) (h' : k < vs.length), vs[k].1 = .int .i64 a[k].kind ∧ looseRow wr W.heap.size 3 1 vs[k].2.1 a[k].alts.length (intVs a[k].alts) ∧ looseRow wr W.heap.size 64 2 vs[k].2.2 a[k].edges.length (edVs a[k].edges)
theorem OtAt.keep {a : Aut} {W w w' : World} {v0 v : Value} {i : Nat} {vs : List (Value × Value × Value)} (h : OtAt a W w v0 v i vs) (hg : Grew w w') : OtAt a W w' v0 v i vs :=
  ⟨h.low.trans hg, h.bn.keep hg, h.res.keep hg, h.m.keep hg, h.row.keep hg, h.len, fun k hk hi => ⟨(h.st k hk hi).1, (h.st k hk hi).2.1.keep hg, (h.st k hk hi).2.2.keep hg⟩⟩
theorem OtAt.start {a : Aut} {W w : World} {v0 : Value} (hg : Grew W w) (hb : Owns w W.heap.size [v0] 24) (hr : Owns w (W.heap.size + 1) [.slice none 0 0] 31) (hm : Owns w (W.heap.size + 1 + 1) [.slice none 0 0] 31) : OtAt a W w v0 (.slice none 0 0) 0 [] :=
  ⟨hg, hb, hr, hm, ⟨rfl, .inl ⟨rfl, rfl⟩⟩, rfl, fun k _ h => absurd h (by simp)⟩
/-- a state more -/
theorem OtAt.next {a : Aut} {W w w1 : World} {v0 v v' u z : Value} {i : Nat} {vs : List (Value × Value × Value)} (h : OtAt a W w v0 v i vs) (hi : i < a.length) (hg : w.grownBy w1 v.ownBlock) (hr : looseRow w1 W.heap.size 63 3 v' (i + 1) (triVs vs ++ [.int .i64 a[i].kind, u, z]))
    (hu : looseRow w W.heap.size 3 1 u a[i].alts.length (intVs a[i].alts)) (hz : looseRow w W.heap.size 64 2 z a[i].edges.length (edVs a[i].edges)) :
    OtAt a W (w1.setCell ⟨W.heap.size + 1 + 1, 0, none⟩ v') v0 v' (i + 1) (vs ++ [(.int .i64 a[i].kind, u, z)]) := by
  have hb : But (fun k => v.ownBlock = some k) w w1 := But.grown hg fun k e => e
  have ne : ∀ {k T : Nat}, (∃ cur, w.heap[k]? = some (.cells cur T (0, 0))) → 63 ≠ T → ¬ v.ownBlock = some k := fun hk hT e => type_ne (row_type h.row e) hk hT rfl
  have hm1 := hb.owns h.m (ne (owns_type h.m) (by decide))
  have hs : But (fun k => k = W.heap.size + 1 + 1) w1 (w1.setCell ⟨W.heap.size + 1 + 1, 0, none⟩ v') := But.set (F := fun k => k = W.heap.size + 1 + 1) (a := ⟨W.heap.size + 1 + 1, 0, none⟩) rfl _
  have ne2 : ∀ {k T : Nat}, (∃ cur, w1.heap[k]? = some (.cells cur T (0, 0))) → 31 ≠ T → ¬ k = W.heap.size + 1 + 1 := fun hk hT e => type_ne (owns_type hm1) hk hT e.symm
  have rows : ∀ {base e size n : Nat} {x : Value} {xs : List Value}, 63 ≠ e → 31 ≠ e → looseRow w base e size x n xs → looseRow (w1.setCell ⟨W.heap.size + 1 + 1, 0, none⟩ v') base e size x n xs := fun h1 h2 hx => by
    have hx1 := hb.row hx fun k hk => ne (row_type hx hk) h1
    exact hs.row hx1 fun k hk => ne2 (row_type hx1 hk) h2
  have e : triVs (vs ++ [(.int .i64 a[i].kind, u, z)]) = triVs vs ++ [.int .i64 a[i].kind, u, z] := by simp [triVs, triF]
  have hlen := h.len
  have hsz := h.low.size
  refine ⟨?_, ?_, ?_, hm1.set 0 v', ?_, by simp [hlen], fun k hk hk' => ?_⟩
  · exact ((⟨h.low.os ▸ hg.os, h.low.tape ▸ hg.tape, h.low.output ▸ hg.output, Nat.le_trans hsz hg.size, fun k hk => (hb.block k (by omega) fun e => by have := (row_lt h.row e).1; omega).trans (h.low.block k hk)⟩ : Grew W w1)).setCell (by show W.heap.size ≤ W.heap.size + 1 + 1; omega) _
  · exact (hb.owns h.bn (ne (owns_type h.bn) (by decide))).other (a := ⟨W.heap.size + 1 + 1, 0, none⟩) (by show W.heap.size + 1 + 1 ≠ W.heap.size; omega) _
  · exact (hb.owns h.res (ne (owns_type h.res) (by decide))).other (a := ⟨W.heap.size + 1 + 1, 0, none⟩) (by show W.heap.size + 1 + 1 ≠ W.heap.size + 1; omega) _
  · rw [e]
    exact hs.row hr fun k hk => ne2 (row_type hr hk) (by decide)
  · by_cases hki : k < vs.length
    · have := h.st k hk hki
      rw [List.getElem_append_left hki]
      exact ⟨this.1, rows (by decide) (by decide) this.2.1, rows (by decide) (by decide) this.2.2⟩
    · have : k = i := by simp at hk'; omega
      subst this
      rw [List.getElem_append_right (by omega)]
      simp only [hlen, Nat.sub_self, List.getElem_cons_zero]
      exact ⟨trivial, rows (by decide) (by decide) hu, rows (by decide) (by decide) hz⟩
/-- the result's box is written -/
theorem OtAt.put {a : Aut} {W w : World} {v0 v : Value} {i : Nat} {vs : List (Value × Value × Value)} (h : OtAt a W w v0 v i vs) (hi : i = a.length) (x : Value) : Grew W (w.setCell ⟨W.heap.size + 1, 0, none⟩ x) ∧ Owns (w.setCell ⟨W.heap.size + 1, 0, none⟩ x) (W.heap.size + 1) [x] 31 ∧ AutV .i64 (w.setCell ⟨W.heap.size + 1, 0, none⟩ x) (w.setCell ⟨W.heap.size + 1, 0, none⟩ x).heap.size v a := by
  have hs : But (fun k => k = W.heap.size + 1) w (w.setCell ⟨W.heap.size + 1, 0, none⟩ x) := But.set (F := fun k => k = W.heap.size + 1) (a := ⟨W.heap.size + 1, 0, none⟩) rfl _
  have ne2 : ∀ {k T : Nat}, (∃ cur, w.heap[k]? = some (.cells cur T (0, 0))) → 31 ≠ T → ¬ k = W.heap.size + 1 := fun hk hT e => type_ne (owns_type h.res) hk hT e.symm
  have hr := hs.row h.row fun k hk => ne2 (row_type h.row hk) (by decide)
  have hlen := h.len
  refine ⟨h.low.setCell (by show W.heap.size ≤ W.heap.size + 1; omega) _, h.res.set 0 x, sts_of_row (by rw [← hi]; exact hr) ⟨by omega, fun k hk hk' => ?_⟩⟩
  obtain ⟨h1, h2, h3⟩ := h.st k hk hk'
  exact ⟨h1, ints_of_row (hs.row h2 fun k hk => ne2 (row_type h2 hk) (by decide)), loose_eds (hs.row h3 fun k hk => ne2 (row_type h3 hk) (by decide))⟩
theorem grew_row {w0 w w1 : World} {e size n : Nat} {v : Value} {xs : List Value} (h : Grew w0 w) (hr : looseRow w w0.heap.size e size v n xs) (hg : w.grownBy w1 v.ownBlock) : Grew w0 w1 :=
  have hb : But (fun k => v.ownBlock = some k) w w1 := But.grown hg fun k e => e
  have hs := h.size
  ⟨h.os ▸ hg.os, h.tape ▸ hg.tape, h.output ▸ hg.output, Nat.le_trans hs hg.size, fun k hk => (hb.block k (by omega) fun e => by have := (row_lt hr e).1; omega).trans (h.block k hk)⟩
/-- a row of another type stays when one grows -/
theorem row_apart {w w1 : World} {b1 e1 s1 n1 b2 e2 s2 n2 : Nat} {v x : Value} {xs ys : List Value} (hr : looseRow w b1 e1 s1 v n1 xs) (hg : w.grownBy w1 v.ownBlock) (hx : looseRow w b2 e2 s2 x n2 ys) (hT : e1 ≠ e2) : looseRow w1 b2 e2 s2 x n2 ys :=
  (But.grown (F := fun k => v.ownBlock = some k) hg fun _ e => e).row hx fun _ hk e => type_ne (row_type hr e) (row_type hx hk) hT rfl
/-- a new row of one -/
def NewRow (cs : List Value) (T : Nat) (v : Value) (w : World) : Prop := ∃ b, v = .slice (some ⟨b, 0, none⟩) 1 1 ∧ Owns w b cs T
theorem NewRow.keep {cs : List Value} {T : Nat} {v : Value} {w w' : World} (hg : Grew w w') (h : NewRow cs T v w) : NewRow cs T v w' := by
  obtain ⟨b, h1, h2⟩ := h
  exact ⟨b, h1, h2.keep hg⟩
theorem row_slice {w : World} {base e size n : Nat} {v : Value} {xs : List Value} (h : looseRow w base e size v n xs) : ∃ a c, v = .slice a n c := by
  rcases row_cells h with ⟨h1, h2⟩ | ⟨g, cap, h1, _⟩
  · exact ⟨none, 0, by rw [h1, h2]⟩
  · exact ⟨_, cap, h1⟩
/-- what Other answers -/
def OtherIs (a : Aut) (W : World) (e : Ending) (W' : World) : Prop := ∃ v, e = .returned (.agg #[v]) ∧ AutV .i64 W' W'.heap.size v a ∧ Grew W W'

set_option maxHeartbeats 4000000 in
set_option maxRecDepth 20000 in
theorem potherA_ok (a : Aut) (ha : a.Few) (hu : a.U8) (W : World) (v : Value) (hA : AutV .u8 W W.heap.size v a) : Calls Tryd.prog 9 #[.agg #[v]] W (OtherIs a W) := by
  obtain ⟨a1, c1, rfl, _, hA⟩ := hA
  have hna := ha.states
  obtain ⟨w1, hw1⟩ : ∃ w1, W.alloc (.cells #[.slice a1 a.length c1] 24) = w1 := ⟨_, rfl⟩
  have z1 : w1.heap.size = W.heap.size + 1 := by rw [← hw1]; exact World.size_alloc W _
  have g1 : Grew W w1 := hw1 ▸ grew_alloc W _
  have o1 : Owns w1 W.heap.size [.slice a1 a.length c1] 24 := hw1 ▸ Owns.alloc W _ _
  obtain ⟨w2, hw2⟩ : ∃ w2, w1.alloc (.cells #[.slice none 0 0] 31) = w2 := ⟨_, rfl⟩
  have z2 : w2.heap.size = W.heap.size + 1 + 1 := by rw [← hw2, World.size_alloc, z1]
  have g2 : Grew w1 w2 := hw2 ▸ grew_alloc w1 _
  have o2 : Owns w2 (W.heap.size + 1) [.slice none 0 0] 31 := by rw [← z1, ← hw2]; exact Owns.alloc w1 _ _
  obtain ⟨w3, hw3⟩ : ∃ w3, w2.alloc (.cells #[.slice none 0 0] 31) = w3 := ⟨_, rfl⟩
  have g3 : Grew w2 w3 := hw3 ▸ grew_alloc w2 _
  have o3 : Owns w3 (W.heap.size + 1 + 1) [.slice none 0 0] 31 := by rw [← z2, ← hw3]; exact Owns.alloc w2 _ _
  have HO := Lib.hid (OtAt.start (a := a) ((g1.trans g2).trans g3) ((o1.keep g2).keep g3) (o2.keep g3) o3)
  have HA := Lib.hid hA
  have HFEW := Lib.hid ha
  have HU := Lib.hid hu
  obtain ⟨S, hSS⟩ : ∃ S, a.length = S := ⟨_, rfl⟩
  have HSE := Lib.hid hSS
  rw [hSS] at hw1 hna
  have HV0 : Hid ((Value.slice a1 a.length c1) = .slice a1 S c1) := by rw [hSS]; exact Lib.hid rfl
  rw [hSS]
  clear g1 g2 g3 o1 o2 o3 hA hu ha hSS
  go_enter Tryd.func9, Tryd.ntmps9
  go_wp2_with fail
  clear hw1 hw2 hw3 z1 z2
  obtain ⟨i0, hi, hz0, hz1, hz2⟩ := info_parts info_rEdge
  have HI := Lib.hid hi
  have HZ0 := Lib.hid hz0
  have HZ1 := Lib.hid hz1
  have HZ2 := Lib.hid hz2
  obtain ⟨i1, ji, jz0, jz1, jz2⟩ := info_parts info_rState
  have JI := Lib.hid ji
  have JZ0 := Lib.hid jz0
  have JZ1 := Lib.hid jz1
  have JZ2 := Lib.hid jz2
  clear hi hz0 hz1 hz2 ji jz0 jz1 jz2
  go_loopw [4] (fun i wr => ∃ (j : Nat) (v : Value) (vs : List (Value × Value × Value)), i = .int .i64 j ∧ j ≤ S ∧ Hid (OtAt a W wr (.slice a1 a.length c1) v j vs)) (fun i _ => S - (intOf i).toNat)
  case atStart => exact ⟨0, _, _, rfl, by omega, HO.out⟩
  case round =>
    clear HO
    obtain ⟨j, v, vs, rfl, hj, hO⟩ := hrel
    have c0 := hO.out.bn.cell_at (i := 0) rfl
    rw [HV0.out] at c0
    have cl := hO.out.bn.lt
    by_cases hlt : j < S
    · have hlt2 : j < a.length := by rw [HSE.out]; exact hlt
      obtain ⟨sb, soff, u0, u1, u2, rfl, hsb, s0, s1, s2, hst⟩ := HA.out j hlt2
      obtain ⟨rfl, hal, hE⟩ := hst
      obtain ⟨za, zc, rfl, _, hZ⟩ := id hal
      obtain ⟨ea, ec, rfl, _, hE⟩ := hE
      have hmem : a[j] ∈ a := List.getElem_mem hlt2
      have hkin := HU.out _ hmem
      have hel := HFEW.out.edges _ hmem
      have hll := HFEW.out.alts _ hmem
      have q0 := (hO.out.low.cells _ (soff + j * 3) hsb).trans s0
      have q1 := (hO.out.low.cells _ (soff + j * 3 + 1) hsb).trans s1
      have sl : sb < wr.heap.size := Nat.lt_of_lt_of_le hsb hO.out.low.size
      have HK := Lib.hid (show OtAt a W wr (.slice (some ⟨sb, soff, none⟩) a.length c1) v j vs → True from fun _ => trivial)
      have HAI : Hid (∀ i, i < a.length → ∀ h : i < a.length, i = j → a[i] = a[j]) := Lib.hid (by intro i _ h e; subst e; rfl)
      have HSJ := Lib.hid (show a[j] = a[j] from rfl)
      obtain ⟨S2, hS2⟩ : ∃ S2, a[j] = S2 := ⟨_, rfl⟩
      have HS2 := Lib.hid hS2
      rw [hS2] at s0 s1 s2 hal hE hkin hel hll q0 q1
      have hcv : IntKind.i64.wrap S2.kind = S2.kind := by rw [IntKind.wrap_i64]; omega
      have HIV := Lib.hid hal
      have HE := Lib.hid hE
      have HS1 := Lib.hid s2
      have HLL := Lib.hid hll
      have hcr : Hid (∀ w, Grew wr w → ∃ r w', (Builtin.append_ #[26, 26] 26 #[.slice none 0 0, .slice za S2.alts.length zc]).run Tryd.prog w = .ok r w' ∧ Grew w w' ∧ AltsR wr.heap.size S2.alts r w') :=
        Lib.hid fun w hg => copy_run wr.heap.size S2.alts HLL.out w hg.size _ (HIV.out.grew (hO.out.low.trans hg))
      obtain ⟨wo, rfl⟩ : ∃ wo : World, wo = wr := ⟨_, rfl⟩
      clear hE hmem s0 s1 s2 hal hS2 HK HAI HSJ hll
      go_wp2_with fail
      refine wp_region_hav_lit follows (by kernel_rfl) ?_
      repeat (first
        | (refine HavG.skip (fun _ => rfl) ?_; simp only [Act.put, List.setIfInBounds_toArray, List.set_cons_zero, List.set_cons_succ])
        | (refine HavG.val (fun _ => rfl) ?_ (fun x w hw _ => ?_) ?_; rotate_left; (focus (have hc := hw.cells; clear hw; go_simp; first | done | rfl)); simp only [Act.put, List.setIfInBounds_toArray, List.set_cons_zero, List.set_cons_succ]))
      refine HavG.any (fun _ => rfl) (AltsR wo.heap.size S2.alts) (fun _ _ _ hg h => h.keep hg) (fun x w hw _ => ?_) ?_
      · obtain ⟨r, w', hr, hg, hal⟩ := hcr.out w hw
        exact uponV_append _ _ _ _ rfl rfl rfl hr ⟨hg, hal⟩
      simp only [Act.put, List.setIfInBounds_toArray, List.set_cons_zero, List.set_cons_succ]
      refine HavG.any (fun _ => rfl) (BuiltQ wo.heap.size S2.kind S2.alts) (fun _ _ _ hg h => h.keep hg) (fun x w hw hd => ?_) ?_
      · have hd5 := hd _ (List.mem_append_right _ (List.mem_singleton.2 rfl)) (by kernel_rfl)
        dsimp only at hd5
        clear hd hw
        generalize x (0 + 1 + 1 + 1 + 1 + 1 + 1 + 1 + 1 + 1 + 1 + 1 + 1 + 1) = y5 at *
        obtain ⟨ya, ym, yc, rfl⟩ := row_form hd5
        have H5 := Lib.hid hd5
        clear hd5
        go_simp
        exact ⟨Grew.refl w, _, _, _, rfl, H5.out⟩
      simp only [Act.put, List.setIfInBounds_toArray, List.set_cons_zero, List.set_cons_succ]
      refine HavG.any (fun _ => rfl) (FreshAt wo.heap.size [.int .i64 0, .slice none 0 0, .slice none 0 0] 63) (fun _ _ _ hg h => h.keep hg) (fun x w hw _ => ?_) ?_
      · have HW := Lib.hid hw
        clear hw
        go_simp
        exact ⟨grew_alloc _ _, _, rfl, HW.out.size, Owns.alloc _ _ _⟩
      simp only [Act.put, List.setIfInBounds_toArray, List.set_cons_zero, List.set_cons_succ]
      refine HavG.tail (by kernel_rfl) (by kernel_rfl) (fun x w4 hw hx => ?_)
      have hx7 := hx _ (List.mem_append_right _ (List.mem_singleton.2 rfl))
      have hx6 := hx _ (List.mem_append_left _ (List.mem_append_right _ (List.mem_singleton.2 rfl)))
      clear hx
      dsimp only at hx7 hx6
      generalize x (0 + 1 + 1 + 1 + 1 + 1 + 1 + 1 + 1 + 1 + 1 + 1 + 1) = y12 at *
      generalize x (0 + 1 + 1 + 1 + 1 + 1 + 1 + 1 + 1 + 1 + 1 + 1 + 1 + 1) = y13 at *
      generalize x (0 + 1 + 1 + 1 + 1 + 1 + 1 + 1 + 1 + 1 + 1 + 1 + 1 + 1 + 1) = y14 at *
      generalize x (0 + 1 + 1 + 1 + 1 + 1 + 1 + 1 + 1 + 1 + 1 + 1 + 1 + 1 + 1 + 1) = y15 at *
      obtain ⟨b, rfl, hb, hob⟩ := hx7
      obtain ⟨ua, um, uc, rfl, hur⟩ := hx6
      have y0 := hob.cell_at (i := 0) rfl
      have y1 := hob.cell_at (i := 1) rfl
      have y2 := hob.cell_at (i := 2) rfl
      have f0 := hob.free 0
      have f1 := hob.free 1
      have f2 := hob.free 2
      have bl := hob.lt
      have hob3 := hob.put3 (.int .i64 S2.kind) (.slice ua um uc) (.slice none 0 0)
      have hg3 := below_put3 (show Grew wo w4 from hw) hb (.int .i64 S2.kind) (.slice ua um uc) (.slice none 0 0)
      have hty : ∀ {k : Nat}, (Value.slice ua um uc).ownBlock = some k → b ≠ k := fun e => type_ne (owns_type hob) (row_type hur e) (by decide)
      have hur3 := (((looseRow.off hur (a := ⟨b, 0, none⟩) (fun e => hty e rfl) (.int .i64 S2.kind)).off (a := ⟨b, 1, none⟩) (fun e => hty e rfl) (.slice ua um uc)).off (a := ⟨b, 2, none⟩) (fun e => hty e rfl) (.slice none 0 0))
      have HB3 := Lib.hid hob3
      have HG3 := Lib.hid hg3
      have HU3 := Lib.hid hur3
      clear hw hob hob3 hg3 c0 cl q0 q1 sl hur hur3 hty
      go_upto_region 6 with fail
      clear y0 y1 y2 f0 f1 f2 bl
      generalize ((w4.setCell ⟨b, 0, none⟩ (.int .i64 S2.kind)).setCell ⟨b, 1, none⟩ (.slice ua um uc)).setCell ⟨b, 2, none⟩ (.slice none 0 0) = w5 at *
      go_wp2_with fail
      obtain ⟨m, hm⟩ : ∃ m, S2.edges.length = m := ⟨_, rfl⟩
      have HM := Lib.hid hm
      rw [hm] at hel
      have HS1' := HS1.out
      rw [hm] at HS1'
      have HS1 := Lib.hid HS1'
      clear hm HS1'
      go_loopw [6] (fun i wr => ∃ (k : Nat) (ev : Value), i = .int .i64 k ∧ k ≤ m ∧ Hid (Grew wo wr) ∧ Hid (Owns wr b [.int .i64 S2.kind, .slice ua um uc, ev] 63) ∧ Hid (looseRow wr wo.heap.size 3 1 (.slice ua um uc) S2.alts.length (intVs S2.alts)) ∧ Hid (looseRow wr wo.heap.size 64 2 ev k (edVs (S2.edges.take k)))) (fun i _ => m - (intOf i).toNat)
      case atStart => exact ⟨0, _, rfl, by omega, HG3.out, HB3.out, HU3.out, ⟨rfl, .inl ⟨rfl, rfl⟩⟩⟩
      case round =>
        clear HG3 HB3 HU3
        obtain ⟨k, ev, rfl, hk, hg, hbx, har, hrow⟩ := hrel
        have hO2 := hO.out.keep hg.out
        have HO2 := Lib.hid hO2
        have c0 := hO2.bn.cell_at (i := 0) rfl
        rw [HV0.out] at c0
        have cl := hO2.bn.lt
        have q2 := (hO2.low.cells _ (soff + j * 3 + 2) hsb).trans HS1.out
        have sl : sb < wr.heap.size := Nat.lt_of_lt_of_le hsb hO2.low.size
        by_cases hkm : k < m
        · have hkl : k < S2.edges.length := by rw [HM.out]; exact hkm
          obtain ⟨eb, eoff, rfl, heb, e0, e1⟩ := HE.out k hkl
          have het := edVs_take S2.edges hkl
          have f0 := (hO2.low.cells _ (eoff + k * 2) heb).trans e0
          have f1 := (hO2.low.cells _ (eoff + k * 2 + 1) heb).trans e1
          have fl : eb < wr.heap.size := Nat.lt_of_lt_of_le heb hO2.low.size
          obtain ⟨ed, hed⟩ : ∃ ed, S2.edges[k] = ed := ⟨_, rfl⟩
          rw [hed] at f0 f1 het
          obtain ⟨tk, tg⟩ := ed
          simp only at f0 f1 het
          have HET := Lib.hid het
          have b2 := hbx.out.cell_at (i := 2) rfl
          have bl := hbx.out.lt
          clear e0 e1 hed het heb hkl hO2
          go_wp2_with fail
          refine wp_region_hav_lit follows (by kernel_rfl) ?_
          repeat (first
            | (refine HavG.skip (fun _ => rfl) ?_; simp only [Act.put, List.setIfInBounds_toArray, List.set_cons_zero, List.set_cons_succ])
            | (refine HavG.val (fun _ => rfl) ?_ (fun x w hw _ => ?_) ?_; rotate_left; (focus (have hc := hw.cells; clear hw; go_simp; first | done | rfl)); simp only [Act.put, List.setIfInBounds_toArray, List.set_cons_zero, List.set_cons_succ]))
          refine HavG.any (fun _ => rfl) (NewRow [.int .i64 tk, .int .i64 tg] 64) (fun _ _ _ hg h => h.keep hg) (fun x w hw _ => ?_) ?_
          · clear hw
            go_simp
            exact ⟨grew_alloc _ _, _, rfl, Owns.alloc _ _ _⟩
          simp only [Act.put, List.setIfInBounds_toArray, List.set_cons_zero, List.set_cons_succ]
          refine HavG.tail (by kernel_rfl) (by kernel_rfl) (fun x w7 hw hx => ?_)
          have hx7 := hx _ (List.mem_append_right _ (List.mem_singleton.2 rfl))
          clear hx
          dsimp only at hx7
          generalize x (0 + 1 + 1 + 1 + 1 + 1 + 1 + 1 + 1 + 1 + 1 + 1 + 1 + 1 + 1 + 1 + 1 + 1 + 1 + 1 + 1 + 1 + 1 + 1) = y23 at *
          obtain ⟨nb, rfl, hnb⟩ := hx7
          have hw7 : Grew wr w7 := hw
          have HBX := Lib.hid (hbx.out.keep hw7)
          have HROW := Lib.hid (hrow.out.keep hw7)
          have HAR := Lib.hid (har.out.keep hw7)
          have HNS := Lib.hid (news_owns hnb)
          have HG7 := Lib.hid (hg.out.trans hw7)
          have H63 := Lib.hid (show k + 1 ≤ maxLen by unfold maxLen; omega)
          have H64 := Lib.hid (show (k + 1) * 16 ≤ 140737488355328 by omega)
          have HLIM := Lib.hid (hg.out.trans hw7).size
          have b2 := HBX.out.cell_at (i := 2) rfl
          have b2f := HBX.out.free 2
          have bl := HBX.out.lt
          clear c0 cl q2 sl f0 f1 fl hw hw7 hnb hg hbx har hrow
          go_wp2_with (at_builtin; refine wpList_append_loose w7 rfl _ _ 61 rfl wo.heap.size 64 i0 _ 2 16 Tryd.underlying61 HI.out HZ0.out HZ1.out HZ2.out rfl (by decide) ev k (edVs (S2.edges.take k)) rfl HROW.out ⟨nb, 0, none⟩ 1 1 [.int .i64 tk, .int .i64 tg] rfl rfl HNS.out (two_ints _ _) (by decide) H63.out H64.out HLIM.out _ rfl ?_; intro gb cap w8 hown hgrow hat hlt3; have HOWN := Lib.hid hown; have HGROW := Lib.hid hgrow; have hb4 := HBX.out.apart HROW.out hgrow (by decide); have b18 : w8.cell? ⟨b, 2, none⟩ = some ev := hb4.cell_at (i := 2) rfl; have f18 : w8.frozen? ⟨b, 2, none⟩ = false := hb4.free 2; have l18 := hb4.lt; have HB4 := Lib.hid hb4; clear hb4 hown hgrow hat hlt3)
          have hg8 := Below.setCell (grew_row HG7.out HROW.out HGROW.out) (p := ⟨b, 2, none⟩) hb (.slice (some ⟨gb, 0, none⟩) (k + 1) cap)
          have hty : ∀ {e size n : Nat} {y : Value} {xs : List Value}, looseRow w8 wo.heap.size e size y n xs → 63 ≠ e → y.ownBlock ≠ some b := fun hr hT e => type_ne (owns_type HB4.out) (row_type hr e) hT rfl
          have ha8 := row_apart HROW.out HGROW.out HAR.out (by decide)
          refine ⟨⟨k + 1, _, by go_num, by omega, hg8, HB4.out.set 2 _, ha8.off (a := ⟨b, 2, none⟩) (hty ha8 (by decide)) _, ?_⟩, by simp [intOf]; omega⟩
          rw [← HET.out]
          exact looseRow.off HOWN.out (a := ⟨b, 2, none⟩) (hty HOWN.out (by decide)) _
        · obtain rfl : m = k := by omega
          have k0 := hbx.out.cell_at (i := 0) rfl
          have k1 := hbx.out.cell_at (i := 1) rfl
          have k2 := hbx.out.cell_at (i := 2) rfl
          have bl := hbx.out.lt
          have m0 := hO2.m.cell_at (i := 0) rfl
          have ml0 := hO2.m.lt
          have htk : S2.edges.take m = S2.edges := by rw [← HM.out, List.take_length]
          have hre := hrow.out
          rw [htk] at hre
          obtain ⟨eva, evc, rfl⟩ := row_slice hre
          obtain ⟨w7, hw7⟩ : ∃ w7, wr.alloc (.cells #[.int .i64 S2.kind, .slice ua um uc, .slice eva m evc] 63) = w7 := ⟨_, rfl⟩
          have g7 : Grew wr w7 := hw7 ▸ grew_alloc wr _
          have o7 : Owns w7 wr.heap.size [.int .i64 S2.kind, .slice ua um uc, .slice eva m evc] 63 := hw7 ▸ Owns.alloc wr _ _
          have HRE := Lib.hid ((hre.keep g7).base hO.out.low.size)
          have HAR := Lib.hid ((har.out.keep g7).base hO.out.low.size)
          have HO7 := Lib.hid (hO2.keep g7)
          have HROW := Lib.hid (hO2.keep g7).row
          have HNS := Lib.hid (news_owns o7)
          have H63 := Lib.hid (show j + 1 ≤ maxLen by unfold maxLen; omega)
          have H64 := Lib.hid (show (j + 1) * 56 ≤ 140737488355328 by omega)
          have HLIM := Lib.hid (hO2.keep g7).low.size
          have HL1 : Hid (∀ u ∈ [Value.int .i64 S2.kind, .slice ua um uc, .slice eva m evc], u.oneCell' = true) := Lib.hid (by
            intro u hu
            simp only [List.mem_cons, List.not_mem_nil, or_false] at hu
            rcases hu with rfl | rfl | rfl <;> rfl)
          clear hO2 g7 o7 hre htk hg hrow hbx har
          go_wp2_with (at_builtin; refine wpList_append_loose w7 rfl _ _ 29 rfl W.heap.size 63 i1 _ 3 56 Tryd.underlying29 JI.out JZ0.out JZ1.out JZ2.out rfl (by decide) v j (triVs vs) rfl HROW.out ⟨wr.heap.size, 0, none⟩ 1 1 [.int .i64 S2.kind, .slice ua um uc, .slice eva m evc] rfl rfl HNS.out HL1.out (by decide) H63.out H64.out HLIM.out _ rfl ?_; intro gb cap w8 hown hgrow hat hlt3; have HOWN := Lib.hid hown; have HGROW := Lib.hid hgrow; have hb4 := HO7.out.m.apart HROW.out hgrow (by decide); have b18 : w8.cell? ⟨W.heap.size + 1 + 1, 0, none⟩ = some v := hb4.cell_at (i := 0) rfl; have f18 : w8.frozen? ⟨W.heap.size + 1 + 1, 0, none⟩ = false := hb4.free 0; have l18 := hb4.lt; clear hb4 hown hgrow hat hlt3)
          exact ⟨⟨j + 1, _, _, by go_num, by omega, HO7.out.next hlt2 HGROW.out (by rw [HS2.out]; exact HOWN.out) (by rw [HS2.out]; exact HAR.out) (by rw [HS2.out, HM.out]; exact HRE.out)⟩, by simp [intOf]; omega⟩
    · obtain rfl : S = j := by omega
      obtain ⟨va, vc, rfl⟩ : ∃ a c, v = .slice a S c := by
        rcases hO.out.row.2 with ⟨h1, h0⟩ | ⟨b, cap, cur, h1, h2, h3, h4⟩
        · exact ⟨none, 0, by rw [h1, h0]⟩
        · exact ⟨_, cap, h1⟩
      have m0 := hO.out.m.cell_at (i := 0) rfl
      have ml := hO.out.m.lt
      have r0 := hO.out.res.cell_at (i := 0) rfl
      have rl := hO.out.res.lt
      have f0 := hO.out.res.free 0
      obtain ⟨p1, p2, p3⟩ := hO.out.put HSE.out.symm (.slice va S vc)
      have P1 := Lib.hid p1
      have P2 := Lib.hid p2
      have P3 := Lib.hid p3
      clear p1 p2 p3
      go_wp2_with fail
      refine bodyPost_ret (results_cell_row (d := Tryd.prog.underlying 31 |>.getD default) rfl _ _ (W.heap.size + 1) 31 _ (0, 0) rfl P2.out rfl rfl rfl) rfl ?_
      exact ⟨_, rfl, P3.out, P1.out⟩
end Go.Proofs.YtogmlonhciiomaaDoor
