/- slices.Grow of nil, slices.Concat of integers (as PCat, beside FoOf). -/
import Derived.Lib.AppendZerosOnto
import Derived.Lib.Walk
import Derived.Lib.SliceRun
import Derived.Test.YtppjmdanckdobaaGreatDoorQV5
import Derived.Test.YtppjmdanckdobaaGreatDoorQV4
import Derived.Test.YtppjmdanckdobaaGreatDoorQV7
namespace Go.Proofs.YtppjmdanckdobaaGreatDoor
open Go.RowKit
section
variable {P : Program} (w : World)
theorem wpList_append_run {ops : Array Oper} {rest : List Oper} {o : Oper} {a : Act} {Q : Exit → Act → World → Prop} {w' : World} (hgd : o.guard = none) (s x : Operand) (t tn : TypeId)
    (ho : o.op = .call { callee := .builtin .append, args := #[s, x], argTypes := #[t, tn] }) (vs vx v : Value) (hs : a.eval s = vs) (hx : a.eval x = vx)
    (hr : (Builtin.append_ #[t, tn] o.type #[vs, vx]).run P w = .ok v w') (h : wpList P ops Q rest (a.put o.dst v) w') : wpList P ops Q (o :: rest) a w :=
  wpList_plain hgd fun _ hK => by
    unfold Oper.wp execOp
    simp only [ho, resolve, invoke, builtin, Sem.run_bind, Sem.run_pure, Result.andThen_ok, List.map_toArray, List.map_cons, List.map_nil, hs, hx, hr]
    exact hK _ _ h
theorem run_append_nothing (t ty : TypeId) (base : Nat) (e : TypeId) (i : TypeInfo) (size : Nat) (ht : P.underlying t = some (.slice e)) (hi : P.info? e = some i) (hsize : i.size = size)
    (v : Value) (n : Nat) (xs : List Value) (hown : looseRow w base e size v n xs) (ad : Option Addr) (c : Nat) :
    (Builtin.append_ #[t, t] ty #[v, .slice ad 0 c]).run P w = .ok v w := by
  subst hsize
  have hf : (Builtin.firstCells i.size 0 (.slice ad 0 c)).run P w = .ok #[] w := by
    cases ad with
    | none => simp [Builtin.firstCells]
    | some a => simp [Builtin.firstCells, loadCells, loadCellsFrom]
  rcases hown.2 with ⟨rfl, rfl⟩ | ⟨g, cap, cur, rfl, hbg, hg, hnc, hcm, hcs, htake⟩
  · simp [Builtin.append_, run_underlying ht, sizeOf, typeInfo, hi, Builtin.lenOf, hf]
  · simp [Builtin.append_, run_underlying ht, sizeOf, typeInfo, hi, Builtin.lenOf, hf, hnc, storeCells]
end
theorem intVs_len (l : List Int) : (intVs l).length = l.length * 1 := by simp [intVs]
set_option maxHeartbeats 1000000 in
set_option maxRecDepth 20000 in
theorem grow_ints (n : Nat) (hn : n ≤ 1000000) (W : World) : Calls Tryz.prog 43 #[.slice none 0 0, .int .i64 n] W fun e W' => ∃ v, e = .returned v ∧ looseRow W' 0 3 1 v 0 [] ∧ Grew W W' ∧ (∀ g, v.ownBlock = some g → W.heap.size ≤ g) := by
  obtain ⟨i0, hi, hz0, hz1, hz2⟩ := info_parts info_int
  by_cases h0 : n = 0
  · subst h0
    clear hi hz0 hz1 hz2
    have e0 : IntKind.i64.wrap 0 = 0 := by decide
    go_enter Tryz.func43, Tryz.ntmps43
    go_wp2_with fail
    go_ret
    exact ⟨_, rfl, ⟨rfl, .inl ⟨rfl, rfl⟩⟩, Grew.refl W, fun g hg => by cases hg⟩
  · have hw : IntKind.i64.wrap (n : Int) = n := by rw [IntKind.wrap_i64]; omega
    have e0 : IntKind.i64.wrap 0 = 0 := by decide
    have h1 : ¬ ((n : Int) < 0) := by omega
    have h2 : (n : Int) > 0 := by omega
    have hap : ∀ ty, (Builtin.append_ #[22, 3] ty #[.slice none 0 0, .int .i64 n]).run Tryz.prog W = .ok (.slice (some ⟨W.heap.size, 0, none⟩) n (grownCap W n 0 3)) (W.drew.alloc (.cells (Builtin.zeroCells (Value.int .i64 0).cells n ++ Builtin.zeroCells (Value.int .i64 0).cells (grownCap W n 0 3 - n)) 3)) := by
      intro ty
      have := Lib.run_append_grow_zeros W 22 3 ty 3 i0 (.int .i64 0) .i64 .i64 Tryz.underlying22 Tryz.underlying3 hi hz0 none 0 0 [] (by rw [hz1]; exact run_firstCells_none W.drew 1 0 0 0) n (by omega) (by omega) (by omega) (by omega) (by rw [hz2]; omega) (by rw [hz2]; exact growslice_fits (by omega) (by omega))
      simpa using this
    have hge := grownCap_ge W n 0 3
    have hle := grownCap_le_maxLen W n 0 3 (by unfold maxLen; omega)
    generalize grownCap W n 0 3 = c at *
    have hsz : (Builtin.zeroCells (Value.int .i64 0).cells n ++ Builtin.zeroCells (Value.int .i64 0).cells (c - n)).size = c := by
      rw [Array.size_append, size_zeroCells, size_zeroCells]
      simp [Value.cells]
      omega
    generalize Builtin.zeroCells (Value.int .i64 0).cells n ++ Builtin.zeroCells (Value.int .i64 0).cells (c - n) = cs at *
    have HSZ := Lib.hid hsz
    clear hi hz0 hz1 hz2 hsz
    go_enter Tryz.func43, Tryz.ntmps43
    go_wp2_with (at_builtin; refine wpList_append_run _ rfl _ _ 22 3 rfl _ _ _ rfl rfl (hap _) ?_)
    go_ret
    refine ⟨_, rfl, ⟨rfl, .inr ⟨W.heap.size, c, cs, rfl, Nat.zero_le _, ?_, by omega, hle, by have := HSZ.out; omega, by simp⟩⟩, ?_, fun g hg => ?_⟩
    · show (W.heap.push _)[W.heap.size]? = _
      simp
    · exact (grew_alloc W (.cells cs 3)).drew
    · simp [Value.ownBlock] at hg
      omega
theorem run_append_nothing0 (v : Value) (n : Nat) (xs : List Value) (w : World) (h : looseRow w 0 3 1 v n xs) (ad : Option Addr) (c : Nat) : ∀ ty, (Builtin.append_ #[22, 22] ty #[v, .slice ad 0 c]).run Tryz.prog w = .ok v w := by
  obtain ⟨i0, hi, hz0, hz1, hz2⟩ := info_parts info_int
  exact fun ty => run_append_nothing w 22 ty 0 3 i0 1 Tryz.underlying22 hi hz1 v n xs h ad c
def lens : List (List Int) → Nat
  | [] => 0
  | l :: r => l.length + lens r
theorem lens_take_succ (L : List (List Int)) (j : Nat) (h : j < L.length) : lens (L.take (j + 1)) = lens (L.take j) + L[j].length := by
  induction L generalizing j with
  | nil => exact absurd h (by simp)
  | cons l r ih =>
    cases j with
    | zero => simp [lens]
    | succ j =>
      simp only [List.take_succ_cons, lens, List.getElem_cons_succ]
      rw [ih j (by simpa using h)]
      omega
theorem lens_take_le (L : List (List Int)) : ∀ j, lens (L.take j) ≤ lens L := by
  induction L with
  | nil => intro j; simp [lens]
  | cons l r ih =>
    intro j
    cases j with
    | zero => simp [lens]
    | succ j => simp only [List.take_succ_cons, lens]; have := ih j; omega
theorem intVs_flat_succ (L : List (List Int)) (j : Nat) (h : j < L.length) : intVs (L.take (j + 1)).flatten = intVs (L.take j).flatten ++ intVs L[j] := by
  unfold intVs
  rw [List.take_succ_eq_append_getElem h, List.flatten_append, List.map_append]
  simp
theorem flat_len (L : List (List Int)) : L.flatten.length = lens L := by
  induction L with
  | nil => rfl
  | cons l r ih => simp [lens, ih]
structure Upto (W : World) (L : List (List Int)) (j : Nat) (v : Value) (w : World) : Prop where
  row : looseRow w 0 3 1 v (lens (L.take j)) (intVs (L.take j).flatten)
  low : Grew W w
  own : ∀ g, v.ownBlock = some g → W.heap.size ≤ g
set_option maxHeartbeats 1000000 in
set_option maxRecDepth 20000 in
theorem concatInts_ok (L : List (List Int)) (vs : List Value) (hlen : vs.length = L.length) (hsum : lens L ≤ 1000000) (hL : L.length ≤ 1000) (W : World) (rb rc : Nat) (hrb : rb < W.heap.size) (hcell : ∀ k (h : k < vs.length), W.cell? ⟨rb, k, none⟩ = some vs[k])
    (hv : ∀ k (h : k < vs.length) (h2 : k < L.length), IntsV W W.heap.size vs[k] L[k]) :
    Calls Tryz.prog 22 #[.slice (some ⟨rb, 0, none⟩) L.length rc] W fun e W' => ∃ v, e = .returned v ∧ looseRow W' W.heap.size 3 1 v L.flatten.length (intVs L.flatten) ∧ Grew W W' := by
  go_enter Tryz.func22, Tryz.ntmps22
  go_wp2_with fail
  go_loopw [3, 11] (fun s c wr => ∃ (j : Nat), c = .int .i64 j ∧ s = .int .i64 (lens (L.take j) : Nat) ∧ j ≤ L.length ∧ wr = W) (fun _ c _ => L.length - (intOf c).toNat)
  case atStart => exact ⟨0, rfl, by simp [lens], by omega, rfl⟩
  case round =>
    obtain ⟨j, rfl, rfl, hj, rfl⟩ := hrel
    by_cases hlt : j < L.length
    · have hlt2 : j < vs.length := by omega
      have hc := hcell j hlt2
      obtain ⟨a, cap, hvv, hA⟩ := hv j hlt2 hlt
      rw [hvv] at hc
      have hs := lens_take_succ L j hlt
      have hs2 := lens_take_le L (j + 1)
      have hwr : IntKind.i64.wrap (((lens (L.take j) : Nat) : Int) + ((L[j].length : Nat) : Int)) = ((lens (L.take (j + 1)) : Nat) : Int) := by rw [IntKind.wrap_i64]; omega
      have hnn : ¬ (((lens (L.take (j + 1)) : Nat) : Int) < 0) := by omega
      have HS := Lib.hid hs
      clear hs hs2 hA hvv hcell hv
      go_wp2_with fail
      exact ⟨⟨j + 1, by go_num, rfl, by omega, trivial⟩, by simp [intOf]; omega⟩
    · have hjl : j = L.length := by omega
      subst hjl
      rw [List.take_length]
      have HG := Lib.hid (grow_ints (lens L) hsum wr)
      go_wp2_with (refine HG.out.mono ?_; rintro e w2 ⟨v0, rfl, hr0, hg0, ho0⟩; have HR0 := Lib.hid hr0; have HG0 := Lib.hid hg0; have HO0 := Lib.hid ho0; clear hr0 hg0 ho0)
      clear hlt hj
      obtain ⟨i0, hi, hz0, hz1, hz2⟩ := info_parts info_int
      have HI := Lib.hid hi
      have HZ0 := Lib.hid hz0
      have HZ1 := Lib.hid hz1
      have HZ2 := Lib.hid hz2
      have HV := Lib.hid hv
      have HC := Lib.hid hcell
      have HLL := Lib.hid hlen
      have HSU := Lib.hid hsum
      obtain ⟨wo, rfl⟩ : ∃ wo : World, wo = wr := ⟨_, rfl⟩
      clear hi hz0 hz1 hz2 hv hcell hsum hlen
      go_loopw [6, 27] (fun v c w => ∃ (j : Nat), c = .int .i64 j ∧ j ≤ L.length ∧ Hid (Upto wo L j v w)) (fun _ c _ => L.length - (intOf c).toNat)
      case atStart => exact ⟨0, rfl, by omega, HR0.out, HG0.out, HO0.out⟩
      case round =>
        obtain ⟨j, rfl, hj, hup⟩ := hrel
        by_cases hlt : j < L.length
        · have hlt2 : j < vs.length := by have := HLL.out; omega
          have hc := (hup.out.low.cells _ _ hrb).trans (HC.out j hlt2)
          obtain ⟨a, cap, hvv, hA⟩ := HV.out j hlt2 hlt
          rw [hvv] at hc
          have hrl : rb < wr.heap.size := by have := hup.out.low.size; omega
          have hs := lens_take_succ L j hlt
          have hfs := intVs_flat_succ L j hlt
          have hle := lens_take_le L (j + 1)
          have hsu := HSU.out
          by_cases hz : L[j] = []
          · have hl0 : L[j].length = 0 := by rw [hz]; rfl
            rw [hl0] at hc hs
            have hnext : Upto wo L (j + 1) u6 wr := by
              refine ⟨?_, hup.out.low, hup.out.own⟩
              rw [hs, hfs, hz, Nat.add_zero]
              simpa [intVs] using hup.out.row
            have HN := Lib.hid hnext
            have hap := run_append_nothing0 u6 _ _ wr hup.out.row a cap
            have HAP := Lib.hid hap
            clear hap hs hfs hle hsu hz hl0 hA hvv hnext hup
            go_wp2_with (at_builtin; refine wpList_append_run _ rfl _ _ 22 22 rfl _ _ _ rfl rfl (HAP.out _) ?_)
            exact ⟨⟨j + 1, by go_num, by omega, HN.out⟩, by simp [intOf]; omega⟩
          · have hpos : 0 < L[j].length := by cases h : L[j] with | nil => exact absurd h hz | cons _ _ => simp
            obtain ⟨b, off, rfl, hb, hcz⟩ := hA 0 hpos
            clear hcz
            have hnews : ∀ k u, (intVs L[j])[k]? = some u → wr.cell? ((⟨b, off, none⟩ : Addr).add k) = some u := by
              intro k u hk
              unfold intVs at hk
              rw [List.getElem?_map] at hk
              obtain ⟨x, hx, rfl⟩ := Option.map_eq_some_iff.1 hk
              obtain ⟨hkl, hkx⟩ := List.getElem?_eq_some_iff.1 hx
              obtain ⟨b', o', he, hb', hcell⟩ := hA k hkl
              simp at he
              obtain ⟨rfl, rfl⟩ := he
              rw [padd_off, hup.out.low.cells _ _ hb', hcell, hkx]
            have hone : ∀ u ∈ intVs L[j], u.oneCell' = true := by
              intro u hu
              obtain ⟨x, _, rfl⟩ := List.mem_map.1 hu
              rfl
            have HNW := Lib.hid hnews
            have HON := Lib.hid hone
            have HLE := Lib.hid (intVs_len L[j])
            have h63 : lens (L.take j) + L[j].length ≤ maxLen := by unfold maxLen; omega
            have h64 : (lens (L.take j) + L[j].length) * 8 ≤ 140737488355328 := by omega
            have H63 := Lib.hid h63
            have H64 := Lib.hid h64
            have HP := Lib.hid hpos
            have HS := Lib.hid (And.intro hs hfs)
            clear hnews hone h63 h64 hpos hz hA hvv hb hs hfs hle hsu
            go_wp2_with (at_builtin; refine wpList_append_loose _ rfl _ _ 22 rfl 0 3 i0 _ 1 8 Tryz.underlying22 HI.out HZ0.out HZ1.out HZ2.out rfl (by decide) u6 (lens (L.take j)) (intVs (L.take j).flatten) rfl hup.out.row ⟨b, off, none⟩ L[j].length cap (intVs L[j]) rfl HLE.out HNW.out HON.out HP.out H63.out H64.out (Nat.zero_le _) _ rfl ?_; intro g cap' w7 hown hgrow hat hlt7; have HOWN := Lib.hid hown; have HGROW := Lib.hid hgrow; have HAT := Lib.hid hat; clear hown hgrow hat hlt7)
            have hnext : Upto wo L (j + 1) (.slice (some ⟨g, 0, none⟩) (lens (L.take j) + L[j].length) cap') w7 := by
              refine ⟨?_, ?_, ?_⟩
              · rw [HS.out.1, HS.out.2]; exact HOWN.out
              · exact ⟨HGROW.out.os.trans hup.out.low.os, HGROW.out.tape.trans hup.out.low.tape, HGROW.out.output.trans hup.out.low.output, Nat.le_trans hup.out.low.size HGROW.out.size, fun k hk => by
                  rw [HGROW.out.block k (Nat.lt_of_lt_of_le hk hup.out.low.size) (fun e => by have := hup.out.own k e.symm; omega), hup.out.low.block k hk]⟩
              · intro g' hg'
                simp [Value.ownBlock] at hg'
                subst hg'
                rcases HAT.out with h1 | h1
                · exact hup.out.own _ h1
                · have := hup.out.low.size; omega
            have HN := Lib.hid hnext
            clear hnext
            exact ⟨⟨j + 1, by go_num, by omega, HN.out⟩, by simp [intOf]; omega⟩
        · have hjl : j = L.length := by omega
          subst hjl
          go_wp2_with fail
          go_ret
          refine ⟨u6, rfl, ?_, hup.out.low⟩
          have hrow := hup.out.row
          rw [List.take_length, ← flat_len] at hrow
          refine ⟨hrow.1, hrow.2.imp id ?_⟩
          rintro ⟨g, cap, cur, h1, -, h3⟩
          exact ⟨g, cap, cur, h1, hup.out.own g (by rw [h1]; rfl), h3⟩
end Go.Proofs.YtppjmdanckdobaaGreatDoor

/- The library's functions on integers: Index, Contains, Clone. -/
namespace Go.Proofs.YtppjmdanckdobaaGreatDoor
open Go.RowKit
set_option maxHeartbeats 1000000 in
set_option maxRecDepth 20000 in
theorem indexInt_ok (l : List Int) (x : Int) (W : World) (v : Value) (hl : l.length ≤ reachN) (hR : IntsV W W.heap.size v l) :
    Calls Tryz.prog 38 #[v, .int .i64 x] W fun e W' => e = .returned (.int .i64 (ixOf l fun y => x == y)) ∧ Grew W W' := by
  obtain ⟨a, cap, rfl, hR⟩ := hR
  unfold reachN at hl
  go_enter Tryz.func38, Tryz.ntmps38
  go_wp2
  go_loopw [8] (fun i wr => ∃ (j : Nat), i = .int .i64 j ∧ j ≤ l.length ∧ Hid (NoneTo l (fun y => x == y) j) ∧ Hid (Grew W wr)) (fun i _ => l.length - (intOf i).toNat)
  case atStart =>
    exact ⟨0, rfl, by omega, fun i hi h => absurd h (by omega), Grew.refl W⟩
  case round =>
    obtain ⟨j, rfl, hj, hf, hbw⟩ := hrel
    by_cases hlt : j < l.length
    · obtain ⟨b, off, rfl, hb, hc⟩ := hR j hlt
      have hc' : wr.cell? ⟨b, off + j, none⟩ = some (.int .i64 l[j]) := by rw [hbw.out.cells _ _ hb]; exact hc
      clear hR hc hb
      obtain ⟨t, ht⟩ : ∃ t, (x == l[j]) = t := ⟨_, rfl⟩
      cases t
      · have HQ := Lib.hid ht
        go_wp2_with fail
        exact ⟨⟨j + 1, by go_num, by omega, noneTo_next hf.out hlt HQ.out, hbw.out⟩, by simp [intOf]; omega⟩
      · have HQ := Lib.hid ht
        go_wp2_with fail
        go_ret
        exact ⟨ret_int (ixOf_at hlt hf.out HQ.out).symm, hbw.out⟩
    · go_wp2_with fail
      go_ret
      exact ⟨ret_int (ixOf_none fun i hi => hf.out i hi (by omega)).symm, hbw.out⟩
theorem containsInt_ok (l : List Int) (x : Int) (W : World) (v : Value) (hl : l.length ≤ reachN) (hR : IntsV W W.heap.size v l) :
    Calls Tryz.prog 18 #[v, .int .i64 x] W fun e W' => e = .returned (.bool (l.any fun y => x == y)) ∧ Grew W W' := by
  have HC := Lib.hid (indexInt_ok l x W v hl hR)
  have HA := Lib.hid (ixOf_anyS l fun y => x == y)
  obtain ⟨a, cap, rfl, -⟩ := hR
  go_enter Tryz.func18, Tryz.ntmps18
  go_wp2_with (refine HC.out.mono ?_; rintro e w ⟨rfl, hb⟩; have HB := Lib.hid hb; clear hb)
  go_ret
  exact ⟨ret_bool HA.out, HB.out⟩
def CellsIn (W : World) (lim : Nat) (a : Addr) (cs : List Value) : Prop := ∀ j u, cs[j]? = some u → a.block < lim ∧ W.cell? (a.add j) = some u
def Cloned (W : World) (e : TypeId) (size n : Nat) (cs : List Value) (r : Ending) (W' : World) : Prop := ∃ v', r = .returned v' ∧ looseRow W' W.heap.size e size v' n cs ∧ Grew W W'
theorem cellsIn_int {W : World} {lim : Nat} {l : List Int} {ad : Addr} (h : IntsAt W lim (some ad) l) : CellsIn W lim ad (intVs l) := by
  intro j u hj
  unfold intVs at hj
  rw [List.getElem?_map, Option.map_eq_some_iff] at hj
  obtain ⟨x, hx, rfl⟩ := hj
  obtain ⟨hk, rfl⟩ := List.getElem?_eq_some_iff.1 hx
  obtain ⟨b, o, e, hb, hc⟩ := h j hk
  cases Option.some.inj e
  exact ⟨hb, by rw [padd_off]; exact hc⟩
theorem intVs_one (l : List Int) : ∀ u ∈ intVs l, u.oneCell' = true := by
  intro u hu
  obtain ⟨x, _, rfl⟩ := List.mem_map.1 hu
  rfl
set_option maxHeartbeats 2000000 in
set_option maxRecDepth 20000 in
theorem cloneInt_cells (n c : Nat) (cs : List Value) (hl : cs.length = n * 1) (h1 : ∀ u ∈ cs, u.oneCell' = true) (hn : n ≤ 1048576) (W : World) (a : Addr) (hc : CellsIn W W.heap.size a cs) :
    Calls Tryz.prog 26 #[.slice (some a) n c] W (Cloned W 3 1 n cs) := by
  obtain ⟨i0, hi, hz0, hz1, hz2⟩ := info_parts info_int
  have q : ∀ (w : World) (a : Option Addr) (n c n' c' : Nat), (binOp .eql 22 (.slice a n c) (.slice none n' c')).run Tryz.prog w = .ok (.bool a.isNone) w := fun w a n c n' c' => Lib.run_eql_slice_nil w _ _ a n c n' c' Tryz.underlying22
  have HCS := Lib.hid hc
  have HL := Lib.hid hl
  have H1 := Lib.hid h1
  clear hc hl h1
  go_enter Tryz.func26, Tryz.ntmps26
  go_wp2_with (at_builtin; refine wpList_append_own _ rfl _ _ 22 rfl W.heap.size 3 i0 (.int .i64 0) 1 8 Tryz.underlying22 hi hz0 hz1 hz2 rfl (by decide) _ _ _ rfl (World.ownsRow_made W #[] 0 (Nat.le_refl _) (Nat.zero_le _) rfl) a n c cs rfl ?qc1 ?qc2 ?qc3 ?qc4 ?qc5 ?qc6 ?_)
  case qc1 => exact HL.out
  case qc2 =>
    intro j u hj
    exact Lib.cell?_alloc_some _ (HCS.out j u hj).2
  case qc3 => exact H1.out
  case qc4 => unfold maxLen; omega
  case qc5 => omega
  case qc6 => simp
  intro v' w1 hown hgrow hnil
  go_wp2_with fail
  go_ret
  refine ⟨v', rfl, looseRow_of (by simpa using hown), ?_⟩
  exact ((Below.refl _ W).alloc (Nat.le_refl _) _).grown hgrow (by simp) (by intro k hk; simp [Value.ownBlock] at hk; omega)
theorem cloneInt_nil (n c : Nat) (W : World) : Calls Tryz.prog 26 #[.slice none n c] W fun e W' => e = .returned (.slice none 0 0) ∧ W' = W := by
  have q : ∀ (w : World) (a : Option Addr) (n c n' c' : Nat), (binOp .eql 22 (.slice a n c) (.slice none n' c')).run Tryz.prog w = .ok (.bool a.isNone) w := fun w a n c n' c' => Lib.run_eql_slice_nil w _ _ a n c n' c' Tryz.underlying22
  go_enter Tryz.func26, Tryz.ntmps26
  go_wp2
  go_ret
  exact ⟨rfl, rfl⟩
theorem cloneInt_ok (l : List Int) (W : World) (v : Value) (hl : l.length ≤ 1000000) (hR : IntsV W W.heap.size v l) : Calls Tryz.prog 26 #[v] W (Cloned W 3 1 l.length (intVs l)) := by
  obtain ⟨a, cap, rfl, hA⟩ := hR
  cases a with
  | none =>
    have hz : l = [] := by
      cases l with
      | nil => rfl
      | cons x r => obtain ⟨b, o, e, -⟩ := hA 0 (by simp); cases e
    subst hz
    refine (cloneInt_nil _ _ W).mono ?_
    rintro e W' ⟨rfl, rfl⟩
    exact ⟨_, rfl, ⟨rfl, .inl ⟨rfl, rfl⟩⟩, Grew.refl _⟩
  | some ad => exact cloneInt_cells _ _ _ (intVs_len l) (intVs_one l) (by omega) W ad (cellsIn_int hA)
end Go.Proofs.YtppjmdanckdobaaGreatDoor

/- Has, Least. -/
namespace Go.Proofs.YtppjmdanckdobaaGreatDoor
open Go.RowKit
end Go.Proofs.YtppjmdanckdobaaGreatDoor

/- math/bits.Mul of one and a small number. -/
namespace Go.Proofs.YtppjmdanckdobaaGreatDoor
open Go.RowKit
set_option maxHeartbeats 2000000 in
set_option maxRecDepth 20000 in
theorem mul64_ok (n : Nat) (hn : n ≤ 12) (W : World) : Calls Tryz.prog 77 #[.int .u64 1, .int .u64 (n : Int)] W fun e W' => e = .returned (.tuple #[.int .u64 0, .int .u64 (n : Int)]) ∧ W' = W := by
  have a1 : ∀ n : Nat, n ≤ 12 → bits .and .u64 (n : Int) 4294967295 = (n : Int) := by decide
  have b1 := a1 n hn
  have b2 : bits .and .u64 1 4294967295 = 1 := by decide
  have b3 : bits .and .u64 0 4294967295 = 0 := by decide
  have b4 : (n : Int) / 4294967296 = 0 := by omega
  have b5 : IntKind.u64.wrap (n : Int) = (n : Int) := by
    have : ∀ n : Nat, n ≤ 12 → IntKind.u64.wrap (n : Int) = (n : Int) := by decide
    exact this n hn
  clear a1
  go_enter Tryz.func77, Tryz.ntmps77
  go_wp2_with fail
  go_ret2
  exact ⟨rfl, rfl⟩
theorem mul_ok (n : Nat) (hn : n ≤ 12) (W : World) : Calls Tryz.prog 44 #[.int .u64 1, .int .u64 (n : Int)] W fun e W' => e = .returned (.tuple #[.int .u64 0, .int .u64 (n : Int)]) ∧ W' = W := by
  have HC := Lib.hid (mul64_ok n hn W)
  have b5 : IntKind.u64.wrap (n : Int) = (n : Int) := by
    have : ∀ n : Nat, n ≤ 12 → IntKind.u64.wrap (n : Int) = (n : Int) := by decide
    exact this n hn
  go_enter Tryz.func44, Tryz.ntmps44
  go_wp2_with fail
  refine HC.out.mono ?_
  rintro e w ⟨rfl, rfl⟩
  go_wp2_with fail
  go_ret2
  exact ⟨rfl, rfl⟩
end Go.Proofs.YtppjmdanckdobaaGreatDoor
