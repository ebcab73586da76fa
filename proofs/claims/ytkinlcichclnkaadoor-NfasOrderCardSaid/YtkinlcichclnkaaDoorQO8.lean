/- TrailingZeros64: the lowest bit that is set, by its table. -/
import Derived.RangeFuncNested
import Derived.RangeFuncBound
import Derived.RangeFuncCalls
import Derived.RangeFuncLeaves
import Derived.Shelf.Abstract
import Derived.OwnWalkIn
import Derived.TacticsInMore
import Derived.LoopNIn
import Derived.LoopIn
import Derived.BigQuiet
import Derived.Deep.QuietTactic
import Derived.StillTailTactics
import Derived.Deep.RegionHeld3
import Derived.Test.YtkinlcichclnkaaDoorQO7
import Derived.Test.YtkinlcichclnkaaDoorQO5
import Derived.Test.YtkinlcichclnkaaDoorQO2
namespace Go.Proofs.YtkinlcichclnkaaDoor
open Go.RowKit

def bruT : List Int := [0, 1, 56, 2, 57, 49, 28, 3, 61, 58, 42, 50, 38, 29, 17, 4, 62, 47, 59, 36, 45, 43, 51, 22, 53, 39, 33, 30, 24, 18, 12, 5, 63, 55, 48, 27, 60, 41, 37, 16, 46, 35, 44, 21, 52, 32, 23, 11, 54, 26, 40, 15, 34, 20, 31, 10, 25, 14, 19, 9, 13, 8, 7, 6]
/-- the table, as it lies -/
def BruAt (W : World) : Prop := 0 < W.heap.size ∧ ∀ i (_ : i < 64), W.cell? ⟨0, i, none⟩ = some (.int .u8 (bruT.getD i 0))
theorem BruAt.grew {W W' : World} (h : BruAt W) (hg : Grew W W') : BruAt W' := ⟨Nat.lt_of_lt_of_le h.1 hg.size, fun i hi => by rw [hg.cells 0 i h.1]; exact h.2 i hi⟩
theorem BruAt.below {W W' : World} {lim : Nat} (h : BruAt W) (hl : 0 < lim) (hg : Below lim W W') : BruAt W' := ⟨Nat.lt_of_lt_of_le h.1 hg.size, fun i hi => by rw [Below.cell (p := ⟨0, i, none⟩) hg hl]; exact h.2 i hi⟩
theorem bru_at : ∀ t : Nat, t < 64 → (2 ^ t * 285870213051353865 % 18446744073709551616) / 288230376151711744 < 64 ∧ bruT.getD ((2 ^ t * 285870213051353865 % 18446744073709551616) / 288230376151711744) 0 = (t : Int) := by decide +kernel
theorem low_and {w t : Nat} (h : Low w t) (hw : w < 2 ^ 64) (h0 : w ≠ 0) : w &&& (2 ^ 64 - w) = 2 ^ t := by
  apply Nat.eq_of_testBit_eq
  intro i
  have h1 : 2 ^ 64 - w = 2 ^ 64 - ((w - 1) + 1) := by omega
  rw [Nat.testBit_and, h1, Nat.testBit_two_pow_sub_succ (by omega), Nat.testBit_two_pow]
  have h2 := low_next h i
  rw [Nat.testBit_and] at h2
  cases hb : w.testBit i
  · rw [Bool.false_and]
    by_cases e : t = i
    · subst e
      rw [h.set] at hb
      cases hb
    · rw [decide_eq_false e]
  · rw [hb, Bool.true_and, Bool.true_and] at h2
    have hi : i < 64 := by
      rcases Nat.lt_or_ge i 64 with hl | hl
      · exact hl
      · rw [Nat.testBit_lt_two_pow (Nat.lt_of_lt_of_le hw (Nat.pow_le_pow_right (by omega) hl))] at hb
        cases hb
    rw [h2, decide_eq_true hi, Bool.true_and, Bool.true_and]
    by_cases e : t = i
    · subst e
      simp
    · rw [decide_eq_false e, decide_eq_true (show i ≠ t from fun h => e h.symm)]
      rfl
theorem low_lt {w t : Nat} (h : Low w t) (hw : w < 2 ^ 64) : t < 64 := by
  rcases Nat.lt_or_ge t 64 with hl | hl
  · exact hl
  · have := h.set
    rw [Nat.testBit_lt_two_pow (Nat.lt_of_lt_of_le hw (Nat.pow_le_pow_right (by omega) hl))] at this
    cases this
theorem bits_andN {a b : Nat} (ha : a < 2 ^ 64) (hb : b < 2 ^ 64) : bits .and .u64 (a : Int) (b : Int) = ((a &&& b : Nat) : Int) := by
  have hand : a &&& b < 18446744073709551616 := Nat.and_lt_two_pow _ hb
  have e : (BitVec.ofInt 64 (a : Int) &&& BitVec.ofInt 64 (b : Int)).toNat = a &&& b := by
    rw [BitVec.toNat_and, BitVec.ofInt_natCast, BitVec.ofInt_natCast, BitVec.toNat_ofNat, BitVec.toNat_ofNat, Nat.mod_eq_of_lt ha, Nat.mod_eq_of_lt hb]
  have h : bits .and .u64 (a : Int) (b : Int) = IntKind.u64.wrap (((BitVec.ofInt 64 (a : Int) &&& BitVec.ofInt 64 (b : Int)).toNat : Nat) : Int) := rfl
  rw [h, e, wrap_u64 (by omega) (by omega)]
theorem wrap_mod64 (n : Int) : IntKind.u64.wrap n = n % 18446744073709551616 := by
  unfold IntKind.wrap
  simp [IntKind.bits, IntKind.signed]
theorem neg_u64 {w : Nat} (hw : w < 2 ^ 64) (h0 : w ≠ 0) : IntKind.u64.wrap (-(w : Int)) = ((2 ^ 64 - w : Nat) : Int) := by
  rw [wrap_mod64]
  omega
theorem mul_u64 (a b : Nat) : IntKind.u64.wrap ((a : Int) * (b : Int)) = ((a * b % 18446744073709551616 : Nat) : Int) := by
  have e : (a : Int) * (b : Int) = ((a * b : Nat) : Int) := by simp
  rw [wrap_mod64, e]
  generalize a * b = p
  omega
theorem tz_facts {w t : Nat} (hl : Low w t) (hw : w < 2 ^ 64) (h0 : w ≠ 0) : ∃ (n1 n2 M : Int) (v : Nat), IntKind.u64.wrap (-(w : Int)) = n1 ∧ bits .and .u64 (w : Int) n1 = n2 ∧ IntKind.u64.wrap (n2 * 285870213051353865) = M ∧ M / 288230376151711744 = (v : Int) ∧ v < 64 ∧ bruT.getD v 0 = (t : Int) := by
  obtain ⟨hv, hb⟩ := bru_at t (low_lt hl hw)
  have h1 := neg_u64 hw h0
  have h2 := bits_andN (b := 2 ^ 64 - w) hw (by omega)
  rw [low_and hl hw h0] at h2
  have h3 := mul_u64 (2 ^ t) 285870213051353865
  have h4 : ((2 ^ t * 285870213051353865 % 18446744073709551616 : Nat) : Int) / 288230376151711744 = ((2 ^ t * 285870213051353865 % 18446744073709551616 / 288230376151711744 : Nat) : Int) := by
    generalize 2 ^ t * 285870213051353865 % 18446744073709551616 = m
    omega
  exact ⟨_, _, _, _, h1, h2, h3, h4, hv, hb⟩
set_option maxRecDepth 20000 in
theorem tz_ok (w t : Nat) (hl : Low w t) (hw : w < 2 ^ 64) (h0 : w ≠ 0) (W : World) (hT : BruAt W) : Calls Tryd.prog 39 #[.int .u64 (w : Int)] W fun e W' => e = .returned (.int .i64 (t : Int)) ∧ W' = W := by
  obtain ⟨n1, n2, M, v, e1, e2, e3, hv2, hv, hb⟩ := tz_facts hl hw h0
  have hc := hT.2 _ hv
  rw [hb] at hc
  have hs := hT.1
  have htl := low_lt hl hw
  have ht64 : wrap64 (t : Int) = (t : Int) := by unfold wrap64; omega
  have e0 : ((w : Int) == 0) = false := beq_eq_false_iff_ne.2 (by omega)
  clear hT hb hl hw h0
  generalize (w : Int) = x at *
  go_enter Tryd.func39, Tryd.ntmps39
  go_wp2_with fail
  go_ret
  exact ⟨rfl, rfl⟩
end Go.Proofs.YtkinlcichclnkaaDoor

/- all: the places of a set, rising: the contract of the iterator. -/
namespace Go.Proofs.YtkinlcichclnkaaDoor
open Go.RowKit Go.Shelf
attribute [local go_sem] Oper.semAt_some

theorem wpListIn_load_some {F : Fence} {n : Nat} {ops : Array Oper} {rest : List Oper} {o : Oper} {a : Act} {w : World} {Q : Exit → Act → World → Prop} {q b : Nat} (hO : Owns w b (wdL q) 65) (hgd : o.guard = none) (x : Operand) (ho : o.op = .load 65 x)
    (hx : a.eval x = .pointer (some ⟨b, 0, none⟩)) (h : wpListIn F n Tryd.prog ops Q rest (a.put o.dst (wdV q)) w) : wpListIn F n Tryd.prog ops Q (o :: rest) a w := by
  refine wpListIn_plain hgd fun K hK' => ?_
  unfold Oper.wpIn
  refine ⟨?_, ?_⟩
  · simp [Oper.about, ho]
  · rw [Oper.semAt_plain F _ _ (by rw [ho]; intro c hc'; cases hc')]
    unfold execOp
    simp only [ho, hx, Instr.loadAt, Instr.sureAddr, Sem.run_bind, Sem.run_pure, Result.andThen_ok, run_loadVar_row w b 65 65 _ (0, 0) _ hO Tryd.underlying65 rfl (some_size q)]
    exact hK' _ _ h
theorem bits_prefix {m n : Nat} (h : m ≤ n) (s : Nat) : bitsN m s <+: bitsN n s := by
  unfold bitsN
  refine List.IsPrefix.filter _ ?_
  obtain ⟨k, rfl⟩ := Nat.exists_eq_add_of_le h
  rw [List.range_add]
  exact List.prefix_append _ _
theorem bits_word (s j : Nat) : bitsN (64 * (j + 1)) s = bitsN (64 * j) s ++ (bitsN 64 (wd s j)).map (64 * j + ·) := by
  rw [bits_words s (j + 1), bits_words s j, List.range_succ, List.map_append, List.flatten_append]
  simp
/-- a place of a set -/
structure PlS (s : Nat) where
  p : Nat
  on : s.testBit p = true
def encP {s : Nat} (x : PlS s) : Array Value := #[.int .i64 (x.p : Int)]
theorem sub_u64 {x : Nat} (hx : x < 2 ^ 64) (h0 : x ≠ 0) : IntKind.u64.wrap ((x : Int) - 1) = ((x - 1 : Nat) : Int) := by
  rw [wrap_mod64]
  omega
set_option maxHeartbeats 4000000 in
set_option maxRecDepth 20000 in
/-- **all hands back a value that yields the set's places, rising** -/
theorem nall_stops (m Bn s : Nat) (w : World) (hs : s < 2 ^ 4096) (hB : Owns w Bn (wdL s) 65) (hT : BruAt w) (Kp : World → World → Prop) (hKB : ∀ A B, Kp A B → BruAt A → BruAt B) :
    SeqStopsK Fence.wide m Tryd.prog 38 #[.pointer (some ⟨Bn, 0, none⟩)] (encP (s := s)) Kp (fun q => q.map PlS.p = bitsN 4096 s) (fun q => q.map PlS.p <+: bitsN 4096 s) (bitsN 4096 s).length w := by
  intro l J Jx W hW hJ _ hY h0
  have hBo : Owns W Bn (wdL s) 65 := hB.keep hW
  have hTW := Lib.hid (hT.grew hW)
  have HY := Lib.hid hY
  have H0 := Lib.hid h0
  have HKB := Lib.hid hKB
  have HS := Lib.hid hs
  have HBO := Lib.hid hBo
  clear hY h0 hJ hB hT hW hKB hs hBo
  simp only [List.append_toArray, List.cons_append, List.nil_append]
  refine callsIn_of_wp Tryd.func38 rfl trivial ?_ rfl
  simp only [Tryd.ntmps38, List.size_toArray, List.length_cons, List.length_nil, Nat.reduceAdd, Nat.reduceSub, Array.replicate_succ, Array.replicate_zero, List.push_toArray, List.append_toArray, List.nil_append, List.cons_append]
  gi_wp2_with (refine wpListIn_load_some HBO.out rfl _ rfl rfl ?_; simp only [Act.put, List.setIfInBounds_toArray, List.set_cons_zero, List.set_cons_succ])
  unfold wdV
  obtain ⟨sq, hsq⟩ : ∃ sq, (wdL s).toArray = sq := ⟨_, rfl⟩
  have HSQ := Lib.hid hsq
  rw [hsq]
  clear hsq
  gi_loopw [6] (fun i wr => ∃ (j : Nat) (pre : List (PlS s)), i = .int .i64 j ∧ j ≤ 64 ∧ Hid (pre.map PlS.p = bitsN (64 * j) s) ∧ Hid (J pre wr) ∧ Hid (BruAt wr)) (fun i _ => 64 - (intOf i).toNat)
  case atStart => exact ⟨0, [], rfl, by omega, rfl, H0.out, hTW.out⟩
  case round =>
    obtain ⟨j, pr1, rfl, hj, hpr1, hJ1, hT1⟩ := hrel
    by_cases hlt : j < 64
    · have hj2 : (j : Int) < 64 := by omega
      have hix : sq[j]? = some (.int .u64 ((wd s j : Nat) : Int)) := by rw [← HSQ.out]; simpa using wdL_get s hlt
      have hidx := index_some hlt hix
      have HW0 := Lib.hid (wd_lt s j)
      have HB0 := Lib.hid (bits_word s j)
      have HPX := Lib.hid (bits_prefix (show 64 * (j + 1) ≤ 4096 by omega) s)
      obtain ⟨c, hc⟩ : ∃ c, wd s j = c := ⟨_, rfl⟩
      rw [hc] at hidx HW0 HB0
      clear hix hc
      obtain ⟨wo, rfl⟩ : ∃ wo : World, wo = wr := ⟨_, rfl⟩
      gi_wp2_with fail
      gi_loopw [4] (fun v wr => ∃ (x : Nat) (pre : List (PlS s)), v = .int .u64 (x : Int) ∧ Hid (x < 2 ^ 64) ∧ Hid (bitsN (64 * (j + 1)) s = pre.map PlS.p ++ (bitsN 64 x).map (64 * j + ·)) ∧ Hid (J pre wr) ∧ Hid (BruAt wr)) (fun v _ => (intOf v).toNat)
      case atStart => exact ⟨c, pr1, rfl, HW0.out, by rw [hpr1.out]; exact HB0.out, hJ1.out, hT1.out⟩
      case round =>
        obtain ⟨x, pre, rfl, hx, hpre, hJ2, hT2⟩ := hrel
        by_cases hx0 : x = 0
        · subst hx0
          have hend := hpre.out
          rw [bits_zero, List.map_nil, List.append_nil] at hend
          have HEND := Lib.hid hend
          clear hend
          gi_wp2_with fail
          exact ⟨⟨j + 1, pre, by go_num, by omega, HEND.out.symm, hJ2.out, hT2.out⟩, by simp [intOf]; omega⟩
        · obtain ⟨t, hl⟩ := low_there hx0
          have ht64 := low_lt hl hx.out
          have HTZ := Lib.hid (tz_ok x t hl hx.out hx0 wr hT2.out)
          have hnx := bits_next hl ht64
          have HPRE := Lib.hid (show bitsN (64 * (j + 1)) s = (pre.map PlS.p ++ [64 * j + t]) ++ (bitsN 64 (x &&& (x - 1))).map (64 * j + ·) by
            rw [hpre.out, hnx, List.map_cons, List.append_assoc]
            rfl)
          have HPFX := Lib.hid (show pre.map PlS.p ++ [64 * j + t] <+: bitsN 4096 s from List.IsPrefix.trans ⟨_, HPRE.out.symm⟩ HPX.out)
          have hon : s.testBit (64 * j + t) = true := (bits_mem.1 (HPFX.out.subset (List.mem_append_right _ (List.mem_singleton.2 rfl)))).2
          obtain ⟨pt, hpt⟩ : ∃ pt : PlS s, pt = ⟨64 * j + t, hon⟩ := ⟨_, rfl⟩
          have hpp : pt.p = 64 * j + t := by rw [hpt]
          have HPP := Lib.hid (show (pre ++ [pt]).map PlS.p = pre.map PlS.p ++ [64 * j + t] by rw [List.map_append, List.map_cons, List.map_nil, hpp])
          have hlen : pre.length < (bitsN 4096 s).length := by
            have := HPFX.out.length_le
            rw [List.length_append, List.length_map] at this
            simp at this
            omega
          obtain ⟨fn, tmps, assign, body, hy, hR⟩ := HY.out pre pt wr hJ2.out hlen
          unfold encP at hy
          rw [hpp] at hy
          have HR := Lib.hid hR
          have hsub := sub_u64 hx.out hx0
          have hand := bits_andN (b := x - 1) hx.out (by have := hx.out; omega)
          have hne : ((x : Int) != 0) = true := by
            rw [bne_iff_ne]
            omega
          have hxl : x &&& (x - 1) < x := Nat.lt_of_le_of_lt Nat.and_le_right (by omega)
          have HXL := Lib.hid (Nat.lt_trans hxl hx.out)
          rw [show ((64 * j + t : Nat) : Int) = 64 * (j : Int) + (t : Int) by omega] at hy
          obtain ⟨y, hyy⟩ : ∃ y, x &&& (x - 1) = y := ⟨_, rfl⟩
          rw [hyy] at hand HPRE HXL hxl
          clear hR hnx hl hx hyy hpt hpp hon
          gi_wp2_with ((try refine ⟨trivial, fun h => (by cases h), ?_⟩); (try refine ⟨fun h => (by cases h), ?_⟩); first
            | (gi_at_call 39; refine (callsIn_wide.2 HTZ.out).mono ?_; rintro e w5 ⟨rfl, rfl⟩)
            | (refine HR.out.mono ?_; rintro e W2 (⟨rfl, hj3, hk3⟩ | ⟨rfl, hx3⟩)))
          · exact ⟨⟨y, pre ++ [pt], rfl, HXL.out, by rw [HPP.out]; exact HPRE.out, hj3, HKB.out _ _ hk3 hT2.out⟩, by simp only [intOf, Int.toNat_natCast]; exact hxl⟩
          · exact bodyPost_ret (results_none rfl _ _ _) rfl ⟨⟨_, rfl⟩, .inr ⟨_, by rw [HPP.out]; exact HPFX.out, hx3⟩⟩
    · have hj64 : j = 64 := by omega
      subst hj64
      gi_wp2_with fail
      go_end0
      exact ⟨⟨_, rfl⟩, .inl ⟨_, hpr1.out, hJ1.out⟩⟩
theorem nall_in (m s : Nat) (w : World) : CallsIn Fence.wide m Tryd.prog 20 #[wdV s] w fun e w' => e = .returned (.func (.func 38) #[] #[.pointer (some ⟨w.heap.size, 0, none⟩)]) ∧ w' = w.alloc (.cells (wdL s).toArray 65) := by
  unfold wdV
  refine callsIn_of_wp Tryd.func20 rfl trivial ?_ rfl
  simp only [Tryd.ntmps20, List.size_toArray, List.length_cons, List.length_nil, Nat.reduceAdd, Nat.reduceSub, Array.replicate_succ, Array.replicate_zero, List.push_toArray, List.append_toArray, List.nil_append, List.cons_append]
  gi_wp2
  go_ret
  exact ⟨rfl, rfl⟩
theorem nall_ok (s : Nat) (w : World) : Calls Tryd.prog 20 #[wdV s] w fun e w' => e = .returned (.func (.func 38) #[] #[.pointer (some ⟨w.heap.size, 0, none⟩)]) ∧ w' = w.alloc (.cells (wdL s).toArray 65) := callsIn_wide.1 (nall_in 9 s w)
end Go.Proofs.YtkinlcichclnkaaDoor

/- What is asked of a grammar's rules, and the rule that a node names. -/
namespace Go.Proofs.YtkinlcichclnkaaDoor
open Go.RowKit

/-- asking, in memory: block ab; what is known, in block eb -/
structure AskAt (W : World) (ab eb : Nat) (g : Gr) (es : List Bool) : Prop where
  ga : ∃ v0 v1 v2 v3, W.cell? ⟨ab, 0, none⟩ = some v0 ∧ W.cell? ⟨ab, 1, none⟩ = some v1 ∧ W.cell? ⟨ab, 2, none⟩ = some v2 ∧ W.cell? ⟨ab, 3, none⟩ = some v3 ∧ GrAt W W.heap.size (some v0) (some v1) (some v2) (some v3) g
  ea : W.cell? ⟨ab, 4, none⟩ = some (.slice (some ⟨eb, 0, none⟩) g.rules.length g.rules.length)
  el : es.length = g.rules.length
  ec : ∀ i (h : i < es.length), W.cell? ⟨eb, i, none⟩ = some (.bool es[i])
  al : ab < W.heap.size
  bl : eb < W.heap.size
  nl : g.rules.length ≤ reachN

theorem AskAt.keep {W W' : World} {ab eb : Nat} {g : Gr} {es : List Bool} (h : AskAt W ab eb g es) (hb : Below W.heap.size W W') : AskAt W' ab eb g es := by
  obtain ⟨⟨v0, v1, v2, v3, h0, h1, h2, h3, h4⟩, h5, h6, h7, h8, h9, h10⟩ := h
  have e : ∀ o, W'.cell? ⟨ab, o, none⟩ = W.cell? ⟨ab, o, none⟩ := fun o => hb.cell (p := ⟨ab, o, none⟩) h8
  have e' : ∀ o, W'.cell? ⟨eb, o, none⟩ = W.cell? ⟨eb, o, none⟩ := fun o => hb.cell (p := ⟨eb, o, none⟩) h9
  refine ⟨⟨v0, v1, v2, v3, by rw [e]; exact h0, by rw [e]; exact h1, by rw [e]; exact h2, by rw [e]; exact h3, (h4.keep hb).mono hb.size⟩, by rw [e]; exact h5, h6, fun i hi => by rw [e']; exact h7 i hi, by have := hb.size; omega, by have := hb.size; omega, h10⟩

/-- the sort of a rule, by its place -/
def Gr.sortAt (g : Gr) (i : Int) : Int := match g.rules[i.toNat]? with | some r => r.sort | none => 0

/-- the rule that a node names; below 0: none -/
def Gr.named (g : Gr) (token : Bool) (n : Nd) : Int :=
  let i := g.find n.name
  if i < 0 then -1 else if !((g.sortAt i == 0) == (n.kind == 5)) then -1 else if (n.kind == 6) && !token then -1 else i


theorem sortAt_nat (g : Gr) (j : Nat) (hj : j < g.rules.length) : g.sortAt (j : Int) = g.rules[j].sort := by
  simp [Gr.sortAt, hj]

set_option maxHeartbeats 1000000 in
set_option maxRecDepth 20000 in
theorem named_ok (g : Gr) (es : List Bool) (token : Bool) (n : Nd) (W : World) (ab eb : Nat) (v0 v1 v2 v3 v4 : Value) (hA : AskAt W ab eb g es) (hN : NodeAt W W.heap.size (some v0) (some v1) (some v2) (some v3) (some v4) n) :
    Calls Tryd.prog 69 #[.pointer (some ⟨ab, 0, none⟩), .bool token, .agg #[v0, v1, v2, v3, v4]] W fun e W' => e = .returned (.int .i64 (g.named token n)) ∧ Below W.heap.size W W' := by
  obtain ⟨k, nm, tx, set, subs⟩ := n
  rw [NodeAt] at hN
  obtain ⟨hk, h1, h2, h3, h4, h5, h6, h7⟩ := hN
  obtain rfl := Option.some.inj h3
  obtain rfl := Option.some.inj h4
  clear h3 h4 h5 h6 h7
  unfold reachN at h1 h2
  have hgr := grew_alloc W (.cells #[.int .u8 k, .string nm, v2, v3, v4] 34)
  obtain ⟨⟨g0, g1, g2, g3, c0, c1, c2, c3, hG⟩, h5, h6, h7, h8, h9, h10⟩ := hA.keep hgr
  have hS := Lib.hid (fun W' => find_ok g nm W' g0 g1 g2 g3)
  have b1 : (W.alloc (.cells #[.int .u8 k, .string nm, v2, v3, v4] 34)).cell? ⟨W.heap.size, 1, none⟩ = some (.string nm) := by simp [go_sem]
  have b0 : (W.alloc (.cells #[.int .u8 k, .string nm, v2, v3, v4] 34)).cell? ⟨W.heap.size, 0, none⟩ = some (.int .u8 k) := by simp [go_sem]
  have hsz : W.heap.size < (W.alloc (.cells #[.int .u8 k, .string nm, v2, v3, v4] 34)).heap.size := by simp
  clear h5 h6 h7 h9
  rcases ixOf_cases g.rules (fun r => sameB r.name nm) with ⟨hi, _⟩ | ⟨j, hj, hi, _, _⟩
  · have hfin : Hid (g.named token (.mk k nm tx set subs) = -1) := by
      unfold Hid Gr.named Gr.find
      simp [Nd.name, hi]
    change g.find nm = -1 at hi
    rw [hi] at hS
    clear hi
    go_enter Tryd.func69, Tryd.ntmps69
    go_wp2_with fail
    generalize W.alloc (.cells #[.int .u8 k, .string nm, v2, v3, v4] 34) = w1 at *
    refine wp_region_hav_lit follows (by kernel_rfl) ?_
    repeat (first
      | (refine HavG.skip (fun _ => rfl) ?_; simp only [Act.put, List.setIfInBounds_toArray, List.set_cons_zero, List.set_cons_succ])
      | (refine HavG.val (fun _ => rfl) ?_ (fun x w hw _ => ?_) ?_; rotate_left; (focus (have hc := hw.cells; clear hw; go_simp; first | done | rfl)); simp only [Act.put, List.setIfInBounds_toArray, List.set_cons_zero, List.set_cons_succ]))
    refine HavG.tail (by kernel_rfl) (by kernel_rfl) (fun x w hw _ => ?_)
    have hc := hw.cells
    have HW := Lib.hid hw
    clear hw
    go_wp2_with (go_at_call 26; refine (hS.out _ ((hG.keep HW.out).mono HW.out.size)).mono ?_; rintro e w' ⟨rfl, hb2⟩)
    have hw' : Grew w1 w' := HW.out.trans hb2
    clear hc hb2 HW
    refine wp_region_hav_lit follows (by kernel_rfl) ?_
    repeat (first
      | (refine HavG.skip (fun _ => rfl) ?_; simp only [Act.put, List.setIfInBounds_toArray, List.set_cons_zero, List.set_cons_succ])
      | (refine HavG.val (fun _ => rfl) ?_ (fun x w hw _ => ?_) ?_; rotate_left; (focus (have hc := (hw'.trans hw).cells; clear hw; go_simp; first | done | rfl)); simp only [Act.put, List.setIfInBounds_toArray, List.set_cons_zero, List.set_cons_succ]))
    refine HavG.tail (by kernel_rfl) (by kernel_rfl) (fun x w hw _ => ?_)
    go_wp2
    go_ret
    exact ⟨ret_int hfin.out.symm, hgr.trans (hw'.trans hw)⟩
  · change g.find nm = (j : Int) at hi
    have hfin : Hid (g.named token (.mk k nm tx set subs) = if !((g.rules[j].sort == 0) == (k == 5)) then (-1 : Int) else if (k == 6) && !token then -1 else (j : Int)) := by
      unfold Hid Gr.named
      have hn : ¬ ((j : Int) < 0) := by omega
      simp only [Nd.name, Nd.kind, hi, hn, if_false, sortAt_nat g j hj]
    rw [hi] at hS
    clear hi
    have hG' := hG
    obtain ⟨q1, q2, q3, q4, q5, q6, ra, rc, q7, q8, q9⟩ := hG'
    obtain rfl := Option.some.inj q1
    obtain rfl := Option.some.inj q3
    obtain rfl := Option.some.inj q4
    obtain rfl := Option.some.inj q7
    obtain ⟨rb, ro, rfl, hrb, hrule⟩ := q9.get hj
    simp only [Nat.zero_add] at hrule
    obtain ⟨-, -, e1, hs, -⟩ := hrule
    generalize g.rules[j].sort = srt at *
    unfold reachN at q8
    clear q1 q2 q3 q4 q5 q6 q7 q9 h10
    go_enter Tryd.func69, Tryd.ntmps69
    go_wp2_with fail
    generalize W.alloc (.cells #[.int .u8 k, .string nm, v2, v3, v4] 34) = w1 at *
    refine wp_region_hav_lit follows (by kernel_rfl) ?_
    repeat (first
      | (refine HavG.skip (fun _ => rfl) ?_; simp only [Act.put, List.setIfInBounds_toArray, List.set_cons_zero, List.set_cons_succ])
      | (refine HavG.val (fun _ => rfl) ?_ (fun x w hw _ => ?_) ?_; rotate_left; (focus (have hc := hw.cells; clear hw; go_simp; first | done | rfl)); simp only [Act.put, List.setIfInBounds_toArray, List.set_cons_zero, List.set_cons_succ]))
    refine HavG.tail (by kernel_rfl) (by kernel_rfl) (fun x w hw _ => ?_)
    have hc := hw.cells
    have HW := Lib.hid hw
    clear hw
    go_wp2_with (go_at_call 26; refine (hS.out _ ((hG.keep HW.out).mono HW.out.size)).mono ?_; rintro e w' ⟨rfl, hb2⟩)
    have hw' : Grew w1 w' := HW.out.trans hb2
    clear hc hb2 HW
    refine wp_region_hav_lit follows (by kernel_rfl) ?_
    repeat (first
      | (refine HavG.skip (fun _ => rfl) ?_; simp only [Act.put, List.setIfInBounds_toArray, List.set_cons_zero, List.set_cons_succ])
      | (refine HavG.val (fun _ => rfl) ?_ (fun x w hw _ => ?_) ?_; rotate_left; (focus (have hc := (hw'.trans hw).cells; clear hw; go_simp; first | done | rfl)); simp only [Act.put, List.setIfInBounds_toArray, List.set_cons_zero, List.set_cons_succ]))
    refine HavG.tail (by kernel_rfl) (by kernel_rfl) (fun x w hw _ => ?_)
    have hc := (hw'.trans hw).cells
    have HW := Lib.hid (hgr.trans (hw'.trans hw))
    clear hw hw' hgr
    go_wp2
    all_goals
      go_ret
      refine ⟨ret_int ?_, HW.out⟩
      rw [hfin.out]
      have hjn : ¬ ((j : Int) < 0) := by omega
      clear hS hfin HW hc b0 b1 c0 c1 c2 c3 hG hA
      simp_all
end Go.Proofs.YtkinlcichclnkaaDoor
