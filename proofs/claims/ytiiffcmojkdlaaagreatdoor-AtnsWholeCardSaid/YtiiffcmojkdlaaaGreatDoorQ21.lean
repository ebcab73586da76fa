/- slices.Grow of nil, slices.Concat of integers. -/
import Derived.Deep.CutBlock
import Derived.Deep.DeepCutAuto
import Derived.Deep.LoopGhost
import Derived.Deep.RegionLaw
import Derived.Test.YtiiffcmojkdlaaaGreatDoorQ20
import Derived.Test.YtiiffcmojkdlaaaGreatDoorQ2
namespace Go.Proofs.YtiiffcmojkdlaaaGreatDoor
open Go.RowKit

section
variable {P : Program} (w : World)
/-- an append of which the run is known -/
theorem wpList_append_run {ops : Array Oper} {rest : List Oper} {o : Oper} {a : Act} {Q : Exit → Act → World → Prop} {w' : World} (hgd : o.guard = none) (s x : Operand) (t tn : TypeId)
    (ho : o.op = .call { callee := .builtin .append, args := #[s, x], argTypes := #[t, tn] }) (vs vx v : Value) (hs : a.eval s = vs) (hx : a.eval x = vx)
    (hr : (Builtin.append_ #[t, tn] o.type #[vs, vx]).run P w = .ok v w') (h : wpList P ops Q rest (a.put o.dst v) w') : wpList P ops Q (o :: rest) a w :=
  wpList_plain hgd fun _ hK => by
    unfold Oper.wp execOp
    simp only [ho, resolve, invoke, builtin, Sem.run_bind, Sem.run_pure, Result.andThen_ok, List.map_toArray, List.map_cons, List.map_nil, hs, hx, hr]
    exact hK _ _ h
/-- nothing is appended -/
theorem run_append_nothing (t ty : TypeId) (base : Nat) (e : TypeId) (i : TypeInfo) (size : Nat) (ht : P.underlying t = some (.slice e)) (hi : P.info? e = some i) (hsize : i.size = size)
    (v : Value) (n : Nat) (xs : List Value) (hown : looseRow w base e size v n xs) (ad : Option Addr) (c : Nat) :
    (Builtin.append_ #[t, t] ty #[v, .slice ad 0 c]).run P w = .ok v w := by
  subst hsize
  have hf : (Builtin.firstCells i.size 0 (.slice ad 0 c)).run P w = .ok #[] w := by
    cases ad with
    | none => simp [Builtin.firstCells]
    | some a => simp [Builtin.firstCells, loadCells, loadCellsFrom]
  rcases hown.2 with ⟨rfl, rfl⟩ | ⟨g, cap, cur, rfl, hbg, hg, hnc, hcm, hcs, htake⟩
  · simp [Builtin.append_, run_underlying ht, sizeOf, typeInfo, hi, Builtin.lenOf, hf]
  · simp [Builtin.append_, run_underlying ht, sizeOf, typeInfo, hi, Builtin.lenOf, hf, hnc, storeCells]
end

theorem info_int : (Tryz.prog.info? 3).map (fun i => (i.zero, i.size, i.bytes)) = some (some (.int .i64 0), 1, 8) := by kernel_rfl
def intVs (l : List Int) : List Value := l.map fun i => .int .i64 i
theorem intVs_len (l : List Int) : (intVs l).length = l.length * 1 := by simp [intVs]

set_option maxHeartbeats 1000000 in
set_option maxRecDepth 20000 in
theorem grow_ints (n : Nat) (hn : n ≤ 1000000) (W : World) : Calls Tryz.prog 45 #[.slice none 0 0, .int .i64 n] W fun e W' => ∃ v, e = .returned v ∧ looseRow W' 0 3 1 v 0 [] ∧ Grew W W' ∧ (∀ g, v.ownBlock = some g → W.heap.size ≤ g) := by
  obtain ⟨i0, hi, hz0, hz1, hz2⟩ := info_parts info_int
  by_cases h0 : n = 0
  · subst h0
    clear hi hz0 hz1 hz2
    have e0 : IntKind.i64.wrap 0 = 0 := by decide
    go_enter Tryz.func45, Tryz.ntmps45
    go_wp2_with fail
    go_ret
    exact ⟨_, rfl, ⟨rfl, .inl ⟨rfl, rfl⟩⟩, Grew.refl W, fun g hg => by cases hg⟩
  · have hw : IntKind.i64.wrap (n : Int) = n := by rw [IntKind.wrap_i64]; omega
    have e0 : IntKind.i64.wrap 0 = 0 := by decide
    have h1 : ¬ ((n : Int) < 0) := by omega
    have h2 : (n : Int) > 0 := by omega
    have hap : ∀ ty, (Builtin.append_ #[30, 3] ty #[.slice none 0 0, .int .i64 n]).run Tryz.prog W = .ok (.slice (some ⟨W.heap.size, 0, none⟩) n (grownCap W n 0 3)) (W.drew.alloc (.cells (Builtin.zeroCells (Value.int .i64 0).cells n ++ Builtin.zeroCells (Value.int .i64 0).cells (grownCap W n 0 3 - n)) 3)) := by
      intro ty
      have := Lib.run_append_grow_zeros W 30 3 ty 3 i0 (.int .i64 0) .i64 .i64 Tryz.underlying30 Tryz.underlying3 hi hz0 none 0 0 [] (by rw [hz1]; exact run_firstCells_none W.drew 1 0 0 0) n (by omega) (by omega) (by omega) (by omega) (by rw [hz2]; omega) (by rw [hz2]; exact growslice_fits (by omega) (by omega))
      simpa using this
    have hge := grownCap_ge W n 0 3
    have hle := grownCap_le_maxLen W n 0 3 (by unfold maxLen; omega)
    generalize grownCap W n 0 3 = c at *
    have hsz : (Builtin.zeroCells (Value.int .i64 0).cells n ++ Builtin.zeroCells (Value.int .i64 0).cells (c - n)).size = c := by
      rw [Array.size_append, size_zeroCells, size_zeroCells]
      simp [Value.cells]
      omega
    generalize Builtin.zeroCells (Value.int .i64 0).cells n ++ Builtin.zeroCells (Value.int .i64 0).cells (c - n) = cs at *
    have HSZ := Lib.hid hsz
    clear hi hz0 hz1 hz2 hsz
    go_enter Tryz.func45, Tryz.ntmps45
    go_wp2_with (at_builtin; refine wpList_append_run _ rfl _ _ 30 3 rfl _ _ _ rfl rfl (hap _) ?_)
    go_ret
    refine ⟨_, rfl, ⟨rfl, .inr ⟨W.heap.size, c, cs, rfl, Nat.zero_le _, ?_, by omega, hle, by have := HSZ.out; omega, by simp⟩⟩, ?_, fun g hg => ?_⟩
    · show (W.heap.push _)[W.heap.size]? = _
      simp
    · exact (grew_alloc W (.cells cs 3)).drew
    · simp [Value.ownBlock] at hg
      omega

theorem run_append_nothing0 (v : Value) (n : Nat) (xs : List Value) (w : World) (h : looseRow w 0 3 1 v n xs) (ad : Option Addr) (c : Nat) : ∀ ty, (Builtin.append_ #[30, 30] ty #[v, .slice ad 0 c]).run Tryz.prog w = .ok v w := by
  obtain ⟨i0, hi, hz0, hz1, hz2⟩ := info_parts info_int
  exact fun ty => run_append_nothing w 30 ty 0 3 i0 1 Tryz.underlying30 hi hz1 v n xs h ad c

/-- the sum of some lists' lengths -/
def lens : List (List Int) → Nat
  | [] => 0
  | l :: r => l.length + lens r
theorem lens_take_succ (L : List (List Int)) (j : Nat) (h : j < L.length) : lens (L.take (j + 1)) = lens (L.take j) + L[j].length := by
  induction L generalizing j with
  | nil => exact absurd h (by simp)
  | cons l r ih =>
    cases j with
    | zero => simp [lens]
    | succ j =>
      simp only [List.take_succ_cons, lens, List.getElem_cons_succ]
      rw [ih j (by simpa using h)]
      omega
theorem lens_take_le (L : List (List Int)) : ∀ j, lens (L.take j) ≤ lens L := by
  induction L with
  | nil => intro j; simp [lens]
  | cons l r ih =>
    intro j
    cases j with
    | zero => simp [lens]
    | succ j => simp only [List.take_succ_cons, lens]; have := ih j; omega
theorem intVs_flat_succ (L : List (List Int)) (j : Nat) (h : j < L.length) : intVs (L.take (j + 1)).flatten = intVs (L.take j).flatten ++ intVs L[j] := by
  unfold intVs
  rw [List.take_succ_eq_append_getElem h, List.flatten_append, List.map_append]
  simp
theorem flat_len (L : List (List Int)) : L.flatten.length = lens L := by
  induction L with
  | nil => rfl
  | cons l r ih => simp [lens, ih]

/-- rows of integers, one behind the other -/
structure Upto (W : World) (L : List (List Int)) (j : Nat) (v : Value) (w : World) : Prop where
  row : looseRow w 0 3 1 v (lens (L.take j)) (intVs (L.take j).flatten)
  low : Grew W w
  own : ∀ g, v.ownBlock = some g → W.heap.size ≤ g

set_option maxHeartbeats 1000000 in
set_option maxRecDepth 20000 in
theorem concatInts_ok (L : List (List Int)) (vs : List Value) (hlen : vs.length = L.length) (hsum : lens L ≤ 1000000) (hL : L.length ≤ 1000) (W : World) (rb rc : Nat) (hrb : rb < W.heap.size) (hcell : ∀ k (h : k < vs.length), W.cell? ⟨rb, k, none⟩ = some vs[k])
    (hv : ∀ k (h : k < vs.length) (h2 : k < L.length), IntsV W W.heap.size vs[k] L[k]) :
    Calls Tryz.prog 24 #[.slice (some ⟨rb, 0, none⟩) L.length rc] W fun e W' => ∃ v, e = .returned v ∧ IntsV W' W'.heap.size v L.flatten ∧ Grew W W' := by
  go_enter Tryz.func24, Tryz.ntmps24
  go_wp2_with fail
  go_loopw [3, 11] (fun s c wr => ∃ (j : Nat), c = .int .i64 j ∧ s = .int .i64 (lens (L.take j) : Nat) ∧ j ≤ L.length ∧ wr = W) (fun _ c _ => L.length - (intOf c).toNat)
  case atStart => exact ⟨0, rfl, by simp [lens], by omega, rfl⟩
  case round =>
    obtain ⟨j, rfl, rfl, hj, rfl⟩ := hrel
    by_cases hlt : j < L.length
    · have hlt2 : j < vs.length := by omega
      have hc := hcell j hlt2
      obtain ⟨a, cap, hvv, hA⟩ := hv j hlt2 hlt
      rw [hvv] at hc
      have hs := lens_take_succ L j hlt
      have hs2 := lens_take_le L (j + 1)
      have hwr : IntKind.i64.wrap (((lens (L.take j) : Nat) : Int) + ((L[j].length : Nat) : Int)) = ((lens (L.take (j + 1)) : Nat) : Int) := by rw [IntKind.wrap_i64]; omega
      have hnn : ¬ (((lens (L.take (j + 1)) : Nat) : Int) < 0) := by omega
      have HS := Lib.hid hs
      clear hs hs2 hA hvv hcell hv
      go_wp2_with fail
      exact ⟨⟨j + 1, by go_num, rfl, by omega, trivial⟩, by simp [intOf]; omega⟩
    · have hjl : j = L.length := by omega
      subst hjl
      rw [List.take_length]
      have HG := Lib.hid (grow_ints (lens L) hsum wr)
      go_wp2_with (refine HG.out.mono ?_; rintro e w2 ⟨v0, rfl, hr0, hg0, ho0⟩; have HR0 := Lib.hid hr0; have HG0 := Lib.hid hg0; have HO0 := Lib.hid ho0; clear hr0 hg0 ho0)
      clear hlt hj
      obtain ⟨i0, hi, hz0, hz1, hz2⟩ := info_parts info_int
      have HI := Lib.hid hi
      have HZ0 := Lib.hid hz0
      have HZ1 := Lib.hid hz1
      have HZ2 := Lib.hid hz2
      have HV := Lib.hid hv
      have HC := Lib.hid hcell
      have HLL := Lib.hid hlen
      have HSU := Lib.hid hsum
      obtain ⟨wo, rfl⟩ : ∃ wo : World, wo = wr := ⟨_, rfl⟩
      clear hi hz0 hz1 hz2 hv hcell hsum hlen
      go_loopw [6, 27] (fun v c w => ∃ (j : Nat), c = .int .i64 j ∧ j ≤ L.length ∧ Hid (Upto wo L j v w)) (fun _ c _ => L.length - (intOf c).toNat)
      case atStart => exact ⟨0, rfl, by omega, HR0.out, HG0.out, HO0.out⟩
      case round =>
        obtain ⟨j, rfl, hj, hup⟩ := hrel
        by_cases hlt : j < L.length
        · have hlt2 : j < vs.length := by have := HLL.out; omega
          have hc := (hup.out.low.cells _ _ hrb).trans (HC.out j hlt2)
          obtain ⟨a, cap, hvv, hA⟩ := HV.out j hlt2 hlt
          rw [hvv] at hc
          have hrl : rb < wr.heap.size := by have := hup.out.low.size; omega
          have hs := lens_take_succ L j hlt
          have hfs := intVs_flat_succ L j hlt
          have hle := lens_take_le L (j + 1)
          have hsu := HSU.out
          by_cases hz : L[j] = []
          · have hl0 : L[j].length = 0 := by rw [hz]; rfl
            rw [hl0] at hc hs
            have hnext : Upto wo L (j + 1) u6 wr := by
              refine ⟨?_, hup.out.low, hup.out.own⟩
              rw [hs, hfs, hz, Nat.add_zero]
              simpa [intVs] using hup.out.row
            have HN := Lib.hid hnext
            have hap := run_append_nothing0 u6 _ _ wr hup.out.row a cap
            have HAP := Lib.hid hap
            clear hap hs hfs hle hsu hz hl0 hA hvv hnext hup
            go_wp2_with (at_builtin; refine wpList_append_run _ rfl _ _ 30 30 rfl _ _ _ rfl rfl (HAP.out _) ?_)
            exact ⟨⟨j + 1, by go_num, by omega, HN.out⟩, by simp [intOf]; omega⟩
          · have hpos : 0 < L[j].length := by cases h : L[j] with | nil => exact absurd h hz | cons _ _ => simp
            obtain ⟨b, off, rfl, hb, hcz⟩ := hA 0 hpos
            clear hcz
            have hnews : ∀ k u, (intVs L[j])[k]? = some u → wr.cell? ((⟨b, off, none⟩ : Addr).add k) = some u := by
              intro k u hk
              unfold intVs at hk
              rw [List.getElem?_map] at hk
              obtain ⟨x, hx, rfl⟩ := Option.map_eq_some_iff.1 hk
              obtain ⟨hkl, hkx⟩ := List.getElem?_eq_some_iff.1 hx
              obtain ⟨b', o', he, hb', hcell⟩ := hA k hkl
              simp at he
              obtain ⟨rfl, rfl⟩ := he
              rw [padd_off, hup.out.low.cells _ _ hb', hcell, hkx]
            have hone : ∀ u ∈ intVs L[j], u.oneCell' = true := by
              intro u hu
              obtain ⟨x, _, rfl⟩ := List.mem_map.1 hu
              rfl
            have HNW := Lib.hid hnews
            have HON := Lib.hid hone
            have HLE := Lib.hid (intVs_len L[j])
            have h63 : lens (L.take j) + L[j].length ≤ maxLen := by unfold maxLen; omega
            have h64 : (lens (L.take j) + L[j].length) * 8 ≤ 140737488355328 := by omega
            have H63 := Lib.hid h63
            have H64 := Lib.hid h64
            have HP := Lib.hid hpos
            have HS := Lib.hid (And.intro hs hfs)
            clear hnews hone h63 h64 hpos hz hA hvv hb hs hfs hle hsu
            go_wp2_with (at_builtin; refine wpList_append_loose _ rfl _ _ 30 rfl 0 3 i0 _ 1 8 Tryz.underlying30 HI.out HZ0.out HZ1.out HZ2.out rfl (by decide) u6 (lens (L.take j)) (intVs (L.take j).flatten) rfl hup.out.row ⟨b, off, none⟩ L[j].length cap (intVs L[j]) rfl HLE.out HNW.out HON.out HP.out H63.out H64.out (Nat.zero_le _) _ rfl ?_; intro g cap' w7 hown hgrow hat hlt7; have HOWN := Lib.hid hown; have HGROW := Lib.hid hgrow; have HAT := Lib.hid hat; clear hown hgrow hat hlt7)
            have hnext : Upto wo L (j + 1) (.slice (some ⟨g, 0, none⟩) (lens (L.take j) + L[j].length) cap') w7 := by
              refine ⟨?_, ?_, ?_⟩
              · rw [HS.out.1, HS.out.2]; exact HOWN.out
              · exact ⟨HGROW.out.os.trans hup.out.low.os, HGROW.out.tape.trans hup.out.low.tape, HGROW.out.output.trans hup.out.low.output, Nat.le_trans hup.out.low.size HGROW.out.size, fun k hk => by
                  rw [HGROW.out.block k (Nat.lt_of_lt_of_le hk hup.out.low.size) (fun e => by have := hup.out.own k e.symm; omega), hup.out.low.block k hk]⟩
              · intro g' hg'
                simp [Value.ownBlock] at hg'
                subst hg'
                rcases HAT.out with h1 | h1
                · exact hup.out.own _ h1
                · have := hup.out.low.size; omega
            have HN := Lib.hid hnext
            clear hnext
            exact ⟨⟨j + 1, by go_num, by omega, HN.out⟩, by simp [intOf]; omega⟩
        · have hjl : j = L.length := by omega
          subst hjl
          go_wp2_with fail
          go_ret
          refine ⟨u6, rfl, ?_, hup.out.low⟩
          have hrow := hup.out.row
          rw [List.take_length] at hrow
          rcases hrow.2 with ⟨h1, h2⟩ | ⟨g, cap, cur, h1, h2, h3, h4, h5, h6, h7⟩
          · refine ⟨none, 0, by rw [h1, flat_len, h2], fun k hk => ?_⟩
            rw [flat_len, h2] at hk
            exact absurd hk (by omega)
          · refine ⟨some ⟨g, 0, none⟩, cap, by rw [h1, flat_len], fun k hk => ⟨g, 0, rfl, (Array.getElem?_eq_some_iff.1 h3).1, ?_⟩⟩
            rw [Nat.zero_add]
            exact looseRow_cells hrow (g := g) (by rw [h1]; rfl) k _ (by unfold intVs; rw [List.getElem?_map, List.getElem?_eq_getElem hk]; rfl)
end Go.Proofs.YtiiffcmojkdlaaaGreatDoor

/- Making a net of a grammar, as plain functions: what the program's making does. No program in sight. -/
namespace Go.Proofs.YtiiffcmojkdlaaaGreatDoor

/-- a net that is being made -/
structure Mk where
  rule : Int
  N : Net
  waits : List (Int × Nd)
  many : Nat
  full : Bool
def maxStates : Nat := 4096
def noNd : Nd := .mk 1 ⟨#[]⟩ ⟨#[]⟩ [] []
def Nd.sub1 (n : Nd) : Nd := match n.subs with | [] => noNd | s :: _ => s
def Sta.addEdge (s : Sta) (e : Edg) : Sta := { s with edges := s.edges ++ [e] }
def Sta.addEnd (s : Sta) (i : Int) : Sta := { s with ends := s.ends ++ [i] }
namespace Mk
/-- a state more, and its number -/
def state (m : Mk) : Nat × Mk := if m.full || decide (maxStates ≤ m.N.states.length) then (0, { m with full := true }) else (m.N.states.length, { m with N := { m.N with states := m.N.states ++ [⟨m.rule, [], []⟩] } })
def edge (m : Mk) (a : Nat) (kind what : Int) (b : Nat) : Mk := if m.full then m else { m with N := { m.N with states := m.N.states.modify a fun s => s.addEdge ⟨kind, what, b⟩ } }
def empty (m : Mk) (a b : Nat) : Mk := m.edge a 0 0 b
def alt (m : Mk) (d tt over : Nat) : Mk := if (m.empty d tt).full then m.empty d tt else { m.empty d tt with N := { (m.empty d tt).N with states := (m.empty d tt).N.states.modify d fun s => s.addEnd over } }
def leaving (m : Mk) (d e b : Nat) : Mk := ((m.state.2.alt d m.state.1 e).empty m.state.1 e).empty e b
def wait (m : Mk) (n : Nd) : Mk := { m with many := m.many + 1, waits := m.waits ++ [(m.rule, n)] }
end Mk

/-- who numbers the names: of tokens; of rules -/
structure Nums where
  tok : ByteArray → Int
  rule : ByteArray → Int

mutual
/-- the piece of a node, from a to b -/
def Nd.piece (P : Nums) : Nd → Nat → Nat → Mk → Mk
  | .mk k nm _ _ subs, a, b, m =>
    if m.full then m
    else if k = 6 then m.edge a 1 (P.tok nm) b
    else if k = 5 then m.edge a 2 (P.rule nm) b
    else if k = 7 then (m.edge a 3 m.many b).wait (match subs with | [] => noNd | s :: _ => s)
    else if k = 1 ∧ subs ≠ [] then Nd.pieces P subs a b m
    else if k = 0 then (Nd.palts P subs m.state.2.state.1 m.state.1 (m.state.2.state.2.empty a m.state.1)).empty m.state.2.state.1 b
    else if k = 2 then
      let d := m.state.1
      let e := m.state.2.state.1
      let m1 := m.state.2.state.2.empty a d
      let m2 := Nd.piece1 P subs m1.state.1 e (m1.state.2.alt d m1.state.1 e)
      (if (m2.state.2.alt d m2.state.1 e).full then m2.state.2.alt d m2.state.1 e else (m2.state.2.alt d m2.state.1 e).empty m2.state.1 e).empty e b
    else if k = 3 then
      let d := m.state.1
      let e := m.state.2.state.1
      let m1 := m.state.2.state.2.empty a d
      (Nd.piece1 P subs m1.state.1 d (m1.state.2.alt d m1.state.1 d)).leaving d e b
    else if k = 4 then
      let x := m.state.1
      let d := m.state.2.state.1
      let e := m.state.2.state.2.state.1
      let m1 := m.state.2.state.2.state.2.empty a x
      ((Nd.piece1 P subs x d m1).alt d x d).leaving d e b
    else m.empty a b
/-- the piece of the first of some; of none: of nothing -/
def Nd.piece1 (P : Nums) : List Nd → Nat → Nat → Mk → Mk
  | [], a, b, m => if m.full then m else m.empty a b
  | s :: _, a, b, m => Nd.piece P s a b m
/-- one behind the other -/
def Nd.pieces (P : Nums) : List Nd → Nat → Nat → Mk → Mk
  | [], _, _, m => m
  | s :: r, a, b, m => if r = [] then Nd.piece P s a b m else Nd.pieces P r m.state.1 b (Nd.piece P s a m.state.1 m.state.2)
/-- alternatives of d, over at e -/
def Nd.palts (P : Nums) : List Nd → Nat → Nat → Mk → Mk
  | [], _, _, m => m
  | s :: r, e, d, m => Nd.palts P r e d (Nd.piece P s m.state.1 e (m.state.2.alt d m.state.1 e))
end
end Go.Proofs.YtiiffcmojkdlaaaGreatDoor

/- Two small laws. -/
namespace Go.Proofs.YtiiffcmojkdlaaaGreatDoor
open Go.RowKit
theorem put_heap {w : World} {a : Addr} {v : Value} {i : Nat} (h : a.block ≠ i) : (w.setCell a v).heap[i]? = w.heap[i]? := Below.heap_setCell _ _ _ _ (fun e => h e.symm)

theorem owns_newsO {w : World} {b T : Nat} {cs : List Value} (h : Owns w b cs T) : ∀ j u, cs[j]? = some u → w.cell? ((⟨b, 0, none⟩ : Addr).add j) = some u := by
  intro j u hj
  rw [padd_off, Nat.zero_add, h.cell, hj]
end Go.Proofs.YtiiffcmojkdlaaaGreatDoor
