/- slices.DeleteFunc on edges, in a row of the call's own. -/
import Derived.Test.YtogmlonhciiomaaDoorPrClone
namespace Go.Proofs.YtogmlonhciiomaaDoor
open Go.RowKit

section
variable {P : Program}
theorem run_clear_any (w : World) (t e ty : TypeId) (z : Value) (ht : P.underlying t = some (.slice e)) (hv : ∀ w, (zeroValue e).run P w = .ok z w) (b o n c : Nat) (hn : 0 < n)
    (h1 : ∀ u ∈ (Builtin.zeroCells z.cells n).toList, u.oneCell' = true) (hc : ∀ j, j < (Builtin.zeroCells z.cells n).toList.length → (w.cell? ⟨b, o + j, none⟩).isSome = true) (hf : ∀ j, j < (Builtin.zeroCells z.cells n).toList.length → w.frozen? ⟨b, o + j, none⟩ = false) :
    (Builtin.clear_ #[t] ty #[.slice (some ⟨b, o, none⟩) n c]).run P w = .ok (.tuple #[]) (w.setCells b o (Builtin.zeroCells z.cells n).toList) := by
  have hst := run_storeCells_cells (P := P) b o (Builtin.zeroCells z.cells n).toList 0 w (by simpa using hc) (by simpa using hf) h1
  simp only [Nat.add_zero] at hst
  obtain ⟨m, rfl⟩ : ∃ m, n = m + 1 := ⟨n - 1, by omega⟩
  simp [Builtin.clear_, run_underlying ht, hv, hst]
end
theorem setCells_owns {b T : Nat} : ∀ (vs : List Value) (o : Nat) (W : World) (cs : List Value), Owns W b cs T → ∃ cs', Owns (W.setCells b o vs) b cs' T ∧ cs'.length = cs.length ∧ cs'.take o = cs.take o
  | [], _, _, cs, h => ⟨cs, h, rfl, rfl⟩
  | v :: r, o, W, cs, h => by
    obtain ⟨cs', h1, h2, h3⟩ := setCells_owns r (o + 1) _ _ (h.set o v)
    refine ⟨cs', h1, by rw [h2, List.length_set], ?_⟩
    have e : (cs'.take (o + 1)).take o = ((cs.set o v).take (o + 1)).take o := by rw [h3]
    rw [List.take_take, List.take_take, Nat.min_eq_left (Nat.le_succ o)] at e
    rw [e, List.take_set_of_le (Nat.le_refl o)]
theorem setCells_below {b B : Nat} (hb : B ≤ b) : ∀ (vs : List Value) (o : Nat) (W W0 : World), Below B W0 W → Below B W0 (W.setCells b o vs)
  | [], _, _, _, h => h
  | _ :: r, o, _, _, h => setCells_below hb r (o + 1) _ _ (h.setCell hb _)

/-- a list without those that are struck, as it is made in place: j of l are gone through, i are kept -/
structure Kept (l es : List Ed) (q : Ed → Bool) (i j : Nat) : Prop where
  len : es.length = l.length
  le : i < j
  jle : j ≤ l.length
  done : es.take i = (l.take j).filter fun e => !q e
  rest : es.drop j = l.drop j
theorem Kept.at {l es : List Ed} {q : Ed → Bool} {i j : Nat} (h : Kept l es q i j) (hj : j < l.length) : ∃ hj' : j < es.length, es[j] = l[j] := by
  have hj' : j < es.length := by rw [h.len]; exact hj
  refine ⟨hj', ?_⟩
  have e : (es.drop j)[0]? = (l.drop j)[0]? := by rw [h.rest]
  simpa [hj, hj'] using e
theorem Kept.strike {l es : List Ed} {q : Ed → Bool} {i j : Nat} (h : Kept l es q i j) (hj : j < l.length) (hq : q l[j] = true) : Kept l es q i (j + 1) := by
  refine ⟨h.len, by have := h.le; omega, by omega, ?_, ?_⟩
  · rw [h.done, List.take_succ_eq_append_getElem hj, List.filter_append]
    simp [hq]
  · have := congrArg (List.drop 1) h.rest
    simpa [List.drop_drop, Nat.add_comm] using this
theorem Kept.keep {l es : List Ed} {q : Ed → Bool} {i j : Nat} (h : Kept l es q i j) (hj : j < l.length) (hq : q l[j] = false) : Kept l (es.set i l[j]) q (i + 1) (j + 1) := by
  have hil : i < es.length := by have := h.le; have := h.len; omega
  refine ⟨by simp [h.len], by have := h.le; omega, by omega, ?_, ?_⟩
  · rw [List.take_succ_eq_append_getElem (by simpa using hil), List.take_set_of_le (Nat.le_refl i), h.done, List.take_succ_eq_append_getElem hj, List.filter_append]
    simp [hq]
  · rw [List.drop_set_of_lt (by have := h.le; omega)]
    have := congrArg (List.drop 1) h.rest
    simpa [List.drop_drop, Nat.add_comm] using this
theorem Kept.start {l : List Ed} {q : Ed → Bool} {k : Nat} (hk : k < l.length) (hq : q l[k] = true) (hn : ∀ i (hi : i < l.length), i < k → q l[i] = false) : Kept l l q k (k + 1) := by
  refine ⟨rfl, by omega, by omega, ?_, rfl⟩
  rw [List.take_succ_eq_append_getElem hk, List.filter_append]
  have h1 : (l.take k).filter (fun e => !q e) = l.take k := by
    rw [List.filter_eq_self]
    intro e he
    obtain ⟨i, hi, rfl⟩ := List.mem_iff_getElem.1 he
    simp only [List.length_take] at hi
    simp only [List.getElem_take]
    rw [hn i (by omega) (by omega)]; rfl
  rw [h1]
  simp [hq]
theorem flat_take {α β : Type} (f : α → List β) (k : Nat) (hk : ∀ x, (f x).length = k) : ∀ (l : List α) (i : Nat), i ≤ l.length → (l.flatMap f).take (i * k) = (l.take i).flatMap f
  | [], i, _ => by simp
  | x :: l, 0, _ => by simp
  | x :: l, i + 1, h => by
    rw [List.flatMap_cons, List.take_succ_cons, List.flatMap_cons, ← flat_take f k hk l i (by simpa using h), List.take_append, hk, show (i + 1) * k - k = i * k by rw [Nat.succ_mul]; omega, List.take_of_length_le (by rw [hk, Nat.succ_mul]; omega)]
theorem edVs_set (es : List Ed) (i : Nat) (hi : i < es.length) (x : Ed) (rest : List Value) : (((edVs es ++ rest).set (i * 2) (.int .i64 x.tok)).set (i * 2 + 1) (.int .i64 x.tgt)) = edVs (es.set i x) ++ rest := by
  have hl : i * 2 + 1 < (edVs es).length := by rw [edVs_len]; omega
  rw [List.set_append_left _ _ (by omega), List.set_append_left _ _ (by rw [List.length_set]; exact hl)]
  congr 1
  have h1 := flat_set edF 2 edF_len es i 0 es[i] ⟨x.tok, es[i].tgt⟩ (.int .i64 x.tok) (List.getElem?_eq_getElem hi) (by omega) rfl
  have h2 := flat_set edF 2 edF_len (es.set i ⟨x.tok, es[i].tgt⟩) i 1 ⟨x.tok, es[i].tgt⟩ x (.int .i64 x.tgt) (by simp [hi]) (by omega) rfl
  simp only [Nat.add_zero] at h1
  unfold edVs
  rw [h1, h2, List.set_set]
theorem edVs_at (es : List Ed) (i : Nat) (hi : i < es.length) (rest : List Value) : (edVs es ++ rest)[i * 2]? = some (.int .i64 es[i].tok) ∧ (edVs es ++ rest)[i * 2 + 1]? = some (.int .i64 es[i].tgt) := by
  have hl : i * 2 + 1 < (edVs es).length := by rw [edVs_len]; omega
  have h0 := flat_get _ _ edF_len es i 0 (by omega)
  simp only [Nat.add_zero] at h0
  constructor
  · rw [List.getElem?_append_left (by omega)]; unfold edVs; rw [h0, List.getElem?_eq_getElem hi]; rfl
  · rw [List.getElem?_append_left hl]; unfold edVs; rw [flat_get _ _ edF_len es i 1 (by omega), List.getElem?_eq_getElem hi]; rfl

theorem zero2_one (n : Nat) : ∀ u ∈ (Builtin.zeroCells (Value.agg #[.int .i64 0, .int .i64 0]).cells n).toList, u.oneCell' = true := by
  intro u hu
  simp only [Builtin.zeroCells, Array.toList_map, List.mem_map] at hu
  obtain ⟨i, _, rfl⟩ := hu
  have h : ∀ k, k < 2 → ((Value.agg #[.int .i64 0, .int .i64 0]).cells[k]!).oneCell' = true := by
    intro k hk
    match k, hk with
    | 0, _ => rfl
    | 1, _ => rfl
  exact h _ (Nat.mod_lt _ (by decide))
/-- what is asked of each edge, whatever becomes of the row -/
def AskEdsB (F : Nat) (cp : Array Value) (B : Nat) (W : World) (l : List Ed) (q : Ed → Bool) : Prop :=
  ∀ (i : Nat) (hi : i < l.length) (W' : World), Below B W W' → Calls Tryd.prog F (#[.agg #[.int .i64 l[i].tok, .int .i64 l[i].tgt]] ++ cp) W' fun e W2 => e = .returned (.bool (q l[i])) ∧ Grew W' W2
def Deleted (B : Nat) (W : World) (l : List Ed) (r : Ending) (W' : World) : Prop := ∃ v', r = .returned v' ∧ looseRow W' B 53 2 v' l.length (edVs l) ∧ Below B W W'
theorem filter_none {l : List Ed} {q : Ed → Bool} (h : ∀ i (hi : i < l.length), q l[i] = false) : l.filter (fun e => !q e) = l := by
  rw [List.filter_eq_self]
  intro e he
  obtain ⟨i, hi, rfl⟩ := List.mem_iff_getElem.1 he
  rw [h i hi]; rfl

set_option maxHeartbeats 2000000 in
set_option maxRecDepth 20000 in
theorem pdelE_ok (l : List Ed) (q : Ed → Bool) (F : Nat) (cp : Array Value) (hF : Enters F) (B : Nat) (W : World) (v : Value) (hl : l.length ≤ 1048576) (hBW : B ≤ W.heap.size) (hR : looseRow W B 53 2 v l.length (edVs l)) (HF : AskEdsB F cp B W l q) :
    Calls Tryd.prog 43 #[v, .func (.func F) #[] cp] W (Deleted B W (l.filter fun e => !q e)) := by
  have HI := Lib.hid (pindexE_ok l q F cp hF W v (by unfold reachN; omega) (eds_of_row hR) (fun i hi W' hg => HF i hi W' (hg.mono hBW)))
  have hR0 := Lib.hid hR
  rcases row_cells hR with ⟨rfl, h0⟩ | ⟨g, cap, rfl, hcap, hBg, hgl, hcell⟩
  · have hnil : l = [] := List.eq_nil_of_length_eq_zero h0
    subst hnil
    have e : ixOf ([] : List Ed) q = -1 := rfl
    rw [e] at HI
    clear hR HF h0
    go_enter Tryd.func43, Tryd.ntmps43
    go_wp2_with fail
    refine HI.out.mono ?_
    rintro e w1 ⟨rfl, hb⟩
    have HB := Lib.hid hb
    clear hb
    go_wp2_with fail
    go_ret
    exact ⟨_, rfl, hR0.out.keep HB.out, HB.out.mono hBW⟩
  · rcases ixOf_cases l q with ⟨he, hn⟩ | ⟨k, hk, he, hq, hn⟩
    · rw [he] at HI
      have HN := Lib.hid (filter_none hn)
      clear hcell hR HF he hn
      go_enter Tryd.func43, Tryd.ntmps43
      go_wp2_with fail
      refine HI.out.mono ?_
      rintro e w1 ⟨rfl, hb⟩
      have HB := Lib.hid hb
      clear hb
      go_wp2_with fail
      go_ret
      exact ⟨_, rfl, by rw [HN.out]; exact hR0.out.keep HB.out, HB.out.mono hBW⟩
    · rw [he] at HI
      have HK := Lib.hid (Kept.start hk hq hn)
      obtain ⟨cur, hcur⟩ : ∃ cur : List Value, Hid (Owns W g (edVs l ++ cur) 53 ∧ cap * 2 ≤ (edVs l ++ cur).length ∧ l.length ≤ cap ∧ cap ≤ maxLen) := by
        rcases hR.2 with ⟨h, _⟩ | ⟨g', cap', c, h1, h2, h3, h4, h5, h6, h7⟩
        · cases h
        · simp only [Value.slice.injEq, Option.some.injEq, Addr.mk.injEq, true_and, and_true] at h1
          obtain ⟨rfl, rfl⟩ := h1
          refine ⟨c.toList.drop (l.length * 2), ?_, ?_, h4, h5⟩
          · unfold Owns
            rw [← h7, List.take_append_drop]
            exact h3
          · rw [← h7, List.take_append_drop]; simpa using h6
      have t1 : ((k : Int) == -1) = false := by simp
      clear hcell hR he hq hn
      go_enter Tryd.func43, Tryd.ntmps43
      go_wp2_with fail
      refine HI.out.mono ?_
      rintro e w1 ⟨rfl, hb⟩
      have HB := Lib.hid hb
      have HO := Lib.hid (hcur.out.1.keep hb)
      clear hb
      have HB1 := Lib.hid (HB.out.mono hBW)
      have HF1 := Lib.hid HF
      have HC := Lib.hid hcur.out.2
      have hcapB := hcur.out.2.2.2
      unfold maxLen at hcapB
      clear hcur HF HI
      go_wp2_with fail
      clear t1
      go_loopw [5, 6] (fun u5 u6 wr => ∃ (i j : Nat) (es : List Ed), u5 = .int .i64 i ∧ u6 = .int .i64 j ∧ i < j ∧ j ≤ l.length ∧ Hid (Owns wr g (edVs es ++ cur) 53) ∧ Hid (Kept l es q i j) ∧ Hid (Below B W wr)) (fun _ j _ => l.length - (intOf j).toNat)
      case atStart => exact ⟨k, k + 1, l, rfl, by go_num, by omega, by omega, HO.out, HK.out, HB1.out⟩
      case round =>
        obtain ⟨i, j, es, rfl, rfl, hij, hj, HO2, HK2, HB2⟩ := hrel
        by_cases hlt : j < l.length
        · obtain ⟨hje, hat⟩ := HK2.out.at hlt
          have hat2 := edVs_at es j hje cur
          rw [hat] at hat2
          have hie : i < es.length := by omega
          have hat3 := edVs_at es i hie cur
          obtain ⟨w2, hw2⟩ : ∃ w2, wr.alloc (.cells #[.int .i64 l[j].tok, .int .i64 l[j].tgt] 53) = w2 := ⟨_, rfl⟩
          have g2 : Grew wr w2 := hw2 ▸ grew_alloc wr _
          have o2 : Owns w2 wr.heap.size [.int .i64 l[j].tok, .int .i64 l[j].tgt] 53 := hw2 ▸ Owns.alloc wr _ _
          have hb2 : Below B W w2 := HB2.out.trans (g2.mono (by have := HO2.out.lt; omega))
          have HFx := Lib.hid (HF1.out j hlt w2 hb2)
          have p0 := HO2.out.cell_at hat2.1
          have p1 := HO2.out.cell_at hat2.2
          have d0 := o2.cell_at (i := 0) rfl
          have d1 := o2.cell_at (i := 1) rfl
          have HO3 := Lib.hid (HO2.out.keep g2)
          have HD := Lib.hid o2
          have hne : wr.heap.size ≠ g := by have := HO2.out.lt; omega
          have HB3 := Lib.hid hb2
          clear g2 o2 hb2 hat hat2
          have hFx := hF
          unfold Enters at hFx
          obtain ⟨t, ht⟩ : ∃ t, t = q l[j] := ⟨_, rfl⟩
          rw [← ht] at HFx
          have HQ := Lib.hid ht.symm
          clear ht
          cases t
          · go_wp2_with fail
            refine HFx.out.mono ?_
            rintro e w3 ⟨rfl, hb3⟩
            have o3 := HO3.out.keep hb3
            have e0 := (HD.out.keep hb3).cell_at (i := 0) rfl
            have e1 := (HD.out.keep hb3).cell_at (i := 1) rfl
            have f0 := o3.cell_at hat3.1
            have f1 := o3.cell_at hat3.2
            have f2 := o3.free (i * 2)
            have f3 := o3.free (i * 2 + 1)
            obtain ⟨w4, hw4⟩ : ∃ w4, (w3.setCell ⟨g, i * 2, none⟩ (.int .i64 l[j].tok)).setCell ⟨g, i * 2 + 1, none⟩ (.int .i64 l[j].tgt) = w4 := ⟨_, rfl⟩
            have o4 : Owns w4 g (edVs (es.set i l[j]) ++ cur) 53 := by
              rw [← hw4, ← edVs_set es i hie l[j] cur]
              exact (o3.set _ _).set _ _
            have hb4 : Below B W w4 := by
              rw [← hw4]
              exact ((HB3.out.trans (hb3.mono (by have := HO3.out.lt; have := HO2.out.lt; omega))).setCell hBg _).setCell hBg _
            have HO4 := Lib.hid o4
            have HB4 := Lib.hid hb4
            have HH := HK2.out.keep hlt HQ.out
            have HK4 := Lib.hid HH
            clear o3 o4 hb4 hb3 HH hat3 hne
            go_wp2_with fail
            go_round
            case rel => exact ⟨i + 1, j + 1, _, by go_num, by go_num, by omega, by omega, HO4.out, HK4.out, HB4.out⟩
            case measure => simp [intOf]; omega
          · go_wp2_with fail
            refine HFx.out.mono ?_
            rintro e w3 ⟨rfl, hb3⟩
            have HO4 := Lib.hid (HO3.out.keep hb3)
            have HB4 := Lib.hid (HB3.out.trans (hb3.mono (by have := HO3.out.lt; omega)))
            clear hb3 hat3
            go_wp2_with fail
            go_round
            case rel => exact ⟨i, j + 1, es, rfl, by go_num, by omega, by omega, HO4.out, HK2.out.strike hlt HQ.out, HB4.out⟩
            case measure => simp [intOf]; omega
        · have hje : j = l.length := by omega
          subst hje
          have hil : i ≤ es.length := by rw [HK2.out.len]; omega
          have hlc := HC.out.2.1
          have hi1 : (i : Int) ≤ (l.length : Int) := by omega
          have hi2 : (l.length : Int) ≤ (cap : Int) := by omega
          have hi3 : (i : Int) ≤ (cap : Int) := by omega
          have hne : i ≠ cap := by omega
          have hm : es.take i = l.filter fun e => !q e := by rw [HK2.out.done, List.take_length]
          have hml : (l.filter fun e => !q e).length = i := by rw [← hm, List.length_take]; omega
          have hzl : (Builtin.zeroCells (Value.agg #[.int .i64 0, .int .i64 0]).cells (l.length - i)).toList.length = (l.length - i) * 2 := by
            rw [Array.length_toList, size_zeroCells]; rfl
          have hrun := fun ty => run_clear_any (P := Tryd.prog) wr 49 53 ty (.agg #[.int .i64 0, .int .i64 0]) Tryd.underlying49 (fun w => by kernel_rfl) g (i * 2) (l.length - i) (cap - i) (by omega) (zero2_one _)
            (fun j hj => by rw [hzl] at hj; rw [HO2.out.cell, List.getElem?_eq_getElem (by rw [List.length_append, edVs_len, HK2.out.len]; omega)]; rfl) (fun j _ => HO2.out.free _)
          obtain ⟨w2, hw2⟩ : ∃ w2, wr.setCells g (i * 2) (Builtin.zeroCells (Value.agg #[.int .i64 0, .int .i64 0]).cells (l.length - i)).toList = w2 := ⟨_, rfl⟩
          obtain ⟨cs', hcs1, hcs2, hcs3⟩ := setCells_owns (Builtin.zeroCells (Value.agg #[.int .i64 0, .int .i64 0]).cells (l.length - i)).toList (i * 2) wr _ HO2.out
          have hB2 := setCells_below hBg (Builtin.zeroCells (Value.agg #[.int .i64 0, .int .i64 0]).cells (l.length - i)).toList (i * 2) wr W HB2.out
          rw [hw2] at hcs1 hB2 hrun
          have htk : cs'.take (i * 2) = edVs (l.filter fun e => !q e) := by
            rw [hcs3, ← hm, List.take_append_of_le_length (by rw [edVs_len]; omega)]
            exact flat_take _ _ edF_len es i hil
          have HR2 : Hid (looseRow w2 B 53 2 (.slice (some ⟨g, 0, none⟩) i cap) i (edVs (l.filter fun e => !q e))) := Lib.hid
            ⟨by rw [edVs_len, hml], .inr ⟨g, cap, cs'.toArray, rfl, hBg, hcs1, by omega, by unfold maxLen; omega, by
              rw [List.size_toArray, hcs2, List.length_append, edVs_len, HK2.out.len]
              have hlc' : cap * 2 ≤ l.length * 2 + cur.length := by rw [← edVs_len, ← List.length_append]; exact HC.out.1
              omega, by simpa using htk⟩⟩
          have HB5 := Lib.hid hB2
          have HML := Lib.hid hml
          have hr := hrun 0
          clear hcs1 hcs2 hcs3 hB2 htk hml hm hzl hrun hw2 hlc hil
          go_wp2_with fail
          go_ret
          exact ⟨_, rfl, by rw [HML.out]; exact HR2.out, HB5.out⟩
end Go.Proofs.YtogmlonhciiomaaDoor
