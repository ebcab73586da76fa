/- all: the places of a set, rising: the contract of the iterator. -/
import Derived.RangeFuncNested
import Derived.RangeFuncBound
import Derived.RangeFuncCalls
import Derived.RangeFuncLeaves
import Derived.Shelf.Abstract
import Derived.OwnWalkIn
import Derived.TacticsInMore
import Derived.LoopNIn
import Derived.LoopIn
import Derived.Test.YtkinlcichclnkaaDoorQT13
import Derived.Test.YtkinlcichclnkaaDoorQT12
import Derived.Test.YtkinlcichclnkaaDoorQT9
import Derived.Test.YtkinlcichclnkaaDoorQT3
namespace Go.Proofs.YtkinlcichclnkaaDoor
open Go.RowKit Go.Shelf
attribute [local go_sem] Oper.semAt_some

theorem wpListIn_load_some {F : Fence} {n : Nat} {ops : Array Oper} {rest : List Oper} {o : Oper} {a : Act} {w : World} {Q : Exit → Act → World → Prop} {q b : Nat} (hO : Owns w b (wdL q) 65) (hgd : o.guard = none) (x : Operand) (ho : o.op = .load 65 x)
    (hx : a.eval x = .pointer (some ⟨b, 0, none⟩)) (h : wpListIn F n Tryd.prog ops Q rest (a.put o.dst (wdV q)) w) : wpListIn F n Tryd.prog ops Q (o :: rest) a w := by
  refine wpListIn_plain hgd fun K hK' => ?_
  unfold Oper.wpIn
  refine ⟨?_, ?_⟩
  · simp [Oper.about, ho]
  · rw [Oper.semAt_plain F _ _ (by rw [ho]; intro c hc'; cases hc')]
    unfold execOp
    simp only [ho, hx, Instr.loadAt, Instr.sureAddr, Sem.run_bind, Sem.run_pure, Result.andThen_ok, run_loadVar_row w b 65 65 _ (0, 0) _ hO Tryd.underlying65 rfl (some_size q)]
    exact hK' _ _ h
theorem bits_prefix {m n : Nat} (h : m ≤ n) (s : Nat) : bitsN m s <+: bitsN n s := by
  unfold bitsN
  refine List.IsPrefix.filter _ ?_
  obtain ⟨k, rfl⟩ := Nat.exists_eq_add_of_le h
  rw [List.range_add]
  exact List.prefix_append _ _
theorem bits_word (s j : Nat) : bitsN (64 * (j + 1)) s = bitsN (64 * j) s ++ (bitsN 64 (wd s j)).map (64 * j + ·) := by
  rw [bits_words s (j + 1), bits_words s j, List.range_succ, List.map_append, List.flatten_append]
  simp
/-- a place of a set -/
structure PlS (s : Nat) where
  p : Nat
  on : s.testBit p = true
def encP {s : Nat} (x : PlS s) : Array Value := #[.int .i64 (x.p : Int)]
theorem sub_u64 {x : Nat} (hx : x < 2 ^ 64) (h0 : x ≠ 0) : IntKind.u64.wrap ((x : Int) - 1) = ((x - 1 : Nat) : Int) := by
  rw [wrap_mod64]
  omega
set_option maxHeartbeats 4000000 in
set_option maxRecDepth 20000 in
/-- **all hands back a value that yields the set's places, rising** -/
theorem nall_stops (m Bn s : Nat) (w : World) (hs : s < 2 ^ 4096) (hB : Owns w Bn (wdL s) 65) (hT : BruAt w) (Kp : World → World → Prop) (hKB : ∀ A B, Kp A B → BruAt A → BruAt B) :
    SeqStopsK Fence.wide m Tryd.prog 38 #[.pointer (some ⟨Bn, 0, none⟩)] (encP (s := s)) Kp (fun q => q.map PlS.p = bitsN 4096 s) (fun q => q.map PlS.p <+: bitsN 4096 s) (bitsN 4096 s).length w := by
  intro l J Jx W hW hJ _ hY h0
  have hBo : Owns W Bn (wdL s) 65 := hB.keep hW
  have hTW := Lib.hid (hT.grew hW)
  have HY := Lib.hid hY
  have H0 := Lib.hid h0
  have HKB := Lib.hid hKB
  have HS := Lib.hid hs
  have HBO := Lib.hid hBo
  clear hY h0 hJ hB hT hW hKB hs hBo
  simp only [List.append_toArray, List.cons_append, List.nil_append]
  refine callsIn_of_wp Tryd.func38 rfl trivial ?_ rfl
  simp only [Tryd.ntmps38, List.size_toArray, List.length_cons, List.length_nil, Nat.reduceAdd, Nat.reduceSub, Array.replicate_succ, Array.replicate_zero, List.push_toArray, List.append_toArray, List.nil_append, List.cons_append]
  gi_wp2_with (refine wpListIn_load_some HBO.out rfl _ rfl rfl ?_; simp only [Act.put, List.setIfInBounds_toArray, List.set_cons_zero, List.set_cons_succ])
  unfold wdV
  obtain ⟨sq, hsq⟩ : ∃ sq, (wdL s).toArray = sq := ⟨_, rfl⟩
  have HSQ := Lib.hid hsq
  rw [hsq]
  clear hsq
  gi_loopw [6] (fun i wr => ∃ (j : Nat) (pre : List (PlS s)), i = .int .i64 j ∧ j ≤ 64 ∧ Hid (pre.map PlS.p = bitsN (64 * j) s) ∧ Hid (J pre wr) ∧ Hid (BruAt wr)) (fun i _ => 64 - (intOf i).toNat)
  case atStart => exact ⟨0, [], rfl, by omega, rfl, H0.out, hTW.out⟩
  case round =>
    obtain ⟨j, pr1, rfl, hj, hpr1, hJ1, hT1⟩ := hrel
    by_cases hlt : j < 64
    · have hj2 : (j : Int) < 64 := by omega
      have hix : sq[j]? = some (.int .u64 ((wd s j : Nat) : Int)) := by rw [← HSQ.out]; simpa using wdL_get s hlt
      have hidx := index_some hlt hix
      have HW0 := Lib.hid (wd_lt s j)
      have HB0 := Lib.hid (bits_word s j)
      have HPX := Lib.hid (bits_prefix (show 64 * (j + 1) ≤ 4096 by omega) s)
      obtain ⟨c, hc⟩ : ∃ c, wd s j = c := ⟨_, rfl⟩
      rw [hc] at hidx HW0 HB0
      clear hix hc
      obtain ⟨wo, rfl⟩ : ∃ wo : World, wo = wr := ⟨_, rfl⟩
      gi_wp2_with fail
      gi_loopw [4] (fun v wr => ∃ (x : Nat) (pre : List (PlS s)), v = .int .u64 (x : Int) ∧ Hid (x < 2 ^ 64) ∧ Hid (bitsN (64 * (j + 1)) s = pre.map PlS.p ++ (bitsN 64 x).map (64 * j + ·)) ∧ Hid (J pre wr) ∧ Hid (BruAt wr)) (fun v _ => (intOf v).toNat)
      case atStart => exact ⟨c, pr1, rfl, HW0.out, by rw [hpr1.out]; exact HB0.out, hJ1.out, hT1.out⟩
      case round =>
        obtain ⟨x, pre, rfl, hx, hpre, hJ2, hT2⟩ := hrel
        by_cases hx0 : x = 0
        · subst hx0
          have hend := hpre.out
          rw [bits_zero, List.map_nil, List.append_nil] at hend
          have HEND := Lib.hid hend
          clear hend
          gi_wp2_with fail
          exact ⟨⟨j + 1, pre, by go_num, by omega, HEND.out.symm, hJ2.out, hT2.out⟩, by simp [intOf]; omega⟩
        · obtain ⟨t, hl⟩ := low_there hx0
          have ht64 := low_lt hl hx.out
          have HTZ := Lib.hid (tz_ok x t hl hx.out hx0 wr hT2.out)
          have hnx := bits_next hl ht64
          have HPRE := Lib.hid (show bitsN (64 * (j + 1)) s = (pre.map PlS.p ++ [64 * j + t]) ++ (bitsN 64 (x &&& (x - 1))).map (64 * j + ·) by
            rw [hpre.out, hnx, List.map_cons, List.append_assoc]
            rfl)
          have HPFX := Lib.hid (show pre.map PlS.p ++ [64 * j + t] <+: bitsN 4096 s from List.IsPrefix.trans ⟨_, HPRE.out.symm⟩ HPX.out)
          have hon : s.testBit (64 * j + t) = true := (bits_mem.1 (HPFX.out.subset (List.mem_append_right _ (List.mem_singleton.2 rfl)))).2
          obtain ⟨pt, hpt⟩ : ∃ pt : PlS s, pt = ⟨64 * j + t, hon⟩ := ⟨_, rfl⟩
          have hpp : pt.p = 64 * j + t := by rw [hpt]
          have HPP := Lib.hid (show (pre ++ [pt]).map PlS.p = pre.map PlS.p ++ [64 * j + t] by rw [List.map_append, List.map_cons, List.map_nil, hpp])
          have hlen : pre.length < (bitsN 4096 s).length := by
            have := HPFX.out.length_le
            rw [List.length_append, List.length_map] at this
            simp at this
            omega
          obtain ⟨fn, tmps, assign, body, hy, hR⟩ := HY.out pre pt wr hJ2.out hlen
          unfold encP at hy
          rw [hpp] at hy
          have HR := Lib.hid hR
          have hsub := sub_u64 hx.out hx0
          have hand := bits_andN (b := x - 1) hx.out (by have := hx.out; omega)
          have hne : ((x : Int) != 0) = true := by
            rw [bne_iff_ne]
            omega
          have hxl : x &&& (x - 1) < x := Nat.lt_of_le_of_lt Nat.and_le_right (by omega)
          have HXL := Lib.hid (Nat.lt_trans hxl hx.out)
          rw [show ((64 * j + t : Nat) : Int) = 64 * (j : Int) + (t : Int) by omega] at hy
          obtain ⟨y, hyy⟩ : ∃ y, x &&& (x - 1) = y := ⟨_, rfl⟩
          rw [hyy] at hand HPRE HXL hxl
          clear hR hnx hl hx hyy hpt hpp hon
          gi_wp2_with ((try refine ⟨trivial, fun h => (by cases h), ?_⟩); (try refine ⟨fun h => (by cases h), ?_⟩); first
            | (gi_at_call 39; refine (callsIn_wide.2 HTZ.out).mono ?_; rintro e w5 ⟨rfl, rfl⟩)
            | (refine HR.out.mono ?_; rintro e W2 (⟨rfl, hj3, hk3⟩ | ⟨rfl, hx3⟩)))
          · exact ⟨⟨y, pre ++ [pt], rfl, HXL.out, by rw [HPP.out]; exact HPRE.out, hj3, HKB.out _ _ hk3 hT2.out⟩, by simp only [intOf, Int.toNat_natCast]; exact hxl⟩
          · exact bodyPost_ret (results_none rfl _ _ _) rfl ⟨⟨_, rfl⟩, .inr ⟨_, by rw [HPP.out]; exact HPFX.out, hx3⟩⟩
    · have hj64 : j = 64 := by omega
      subst hj64
      gi_wp2_with fail
      go_end0
      exact ⟨⟨_, rfl⟩, .inl ⟨_, hpr1.out, hJ1.out⟩⟩
theorem nall_in (m s : Nat) (w : World) : CallsIn Fence.wide m Tryd.prog 20 #[wdV s] w fun e w' => e = .returned (.func (.func 38) #[] #[.pointer (some ⟨w.heap.size, 0, none⟩)]) ∧ w' = w.alloc (.cells (wdL s).toArray 65) := by
  unfold wdV
  refine callsIn_of_wp Tryd.func20 rfl trivial ?_ rfl
  simp only [Tryd.ntmps20, List.size_toArray, List.length_cons, List.length_nil, Nat.reduceAdd, Nat.reduceSub, Array.replicate_succ, Array.replicate_zero, List.push_toArray, List.append_toArray, List.nil_append, List.cons_append]
  gi_wp2
  go_ret
  exact ⟨rfl, rfl⟩
theorem nall_ok (s : Nat) (w : World) : Calls Tryd.prog 20 #[wdV s] w fun e w' => e = .returned (.func (.func 38) #[] #[.pointer (some ⟨w.heap.size, 0, none⟩)]) ∧ w' = w.alloc (.cells (wdL s).toArray 65) := callsIn_wide.1 (nall_in 9 s w)
end Go.Proofs.YtkinlcichclnkaaDoor

/- checks.all: a node and all that lie below it, one by one: the contract of the iterator. -/
namespace Go.Proofs.YtkinlcichclnkaaDoor
open Go.RowKit Go.Shelf
attribute [local go_sem] Oper.semAt_some

/-- a node, as it lies in a first world -/
structure NV (W0 : World) (lim : Nat) where
  n : Nd
  v0 : Value
  v1 : Value
  v2 : Value
  v3 : Value
  v4 : Value
  lies : NodeAt W0 lim (some v0) (some v1) (some v2) (some v3) (some v4) n
def NV.enc {W0 : World} {lim : Nat} (x : NV W0 lim) : Array Value := #[.agg #[x.v0, x.v1, x.v2, x.v3, x.v4]]

/-- what a round keeps: what lay below lim, and the boxes of nodes and of functions over nodes -/
structure KpN (lim : Nat) (W W' : World) : Prop where
  low : Below lim W W'
  box : ∀ (b : Nat) (cs : Array Value) (T : Nat) (f : Nat × Nat), W.heap[b]? = some (.cells cs T f) → (T = 34 ∨ T = 51) → W'.heap[b]? = some (.cells cs T f)
theorem KpN.refl (lim : Nat) (W : World) : KpN lim W W := ⟨Below.refl _ _, fun _ _ _ _ h _ => h⟩
theorem KpN.trans {lim : Nat} {A B C : World} (h : KpN lim A B) (k : KpN lim B C) : KpN lim A C := ⟨h.low.trans k.low, fun b cs T f hb hT => k.box b cs T f (h.box b cs T f hb hT) hT⟩
theorem KpN.grew {lim : Nat} {A B : World} (h : Grew A B) (hl : lim ≤ A.heap.size) : KpN lim A B :=
  ⟨h.mono hl, fun b cs T f hb _ => by rw [h.block b (Array.getElem?_eq_some_iff.1 hb).1]; exact hb⟩

/-- every element of a list of nodes, one by one, in a state that each turns, until one says yes -/
def IdxPost (l : List Nd) (Inv St : Nat → World → Prop) (e : Ending) (W' : World) : Prop :=
  (e = .returned (.int .i64 (-1)) ∧ Inv l.length W') ∨ ∃ j, j < l.length ∧ e = .returned (.int .i64 (j : Int)) ∧ St j W'
def CntPost (l : List Nd) (Inv St : Nat → World → Prop) (e : Ending) (W' : World) : Prop :=
  (e = .returned (.bool false) ∧ Inv l.length W') ∨ ∃ j, j < l.length ∧ e = .returned (.bool true) ∧ St j W'
def ElPost (Inv St : Nat → World → Prop) (j : Nat) (e : Ending) (W' : World) : Prop :=
  (e = .returned (.bool false) ∧ Inv (j + 1) W') ∨ (e = .returned (.bool true) ∧ St j W')

set_option maxHeartbeats 1000000 in
set_option maxRecDepth 20000 in
theorem indexNodesI_ok (F : Fence) (hd : F.depth = none) (hfn : ∀ k, F.fn k) (hro : F.round = none) (n : Nat) (l : List Nd) (G : Nat) (cp : Array Value) (hF : Enters G) (W0 : World) (lim : Nat) (a : Option Addr) (cap : Nat) (hl : l.length ≤ reachN) (hR : NodesAt W0 lim a 0 l)
    (Inv St : Nat → World → Prop) (hI : ∀ j W, Inv j W → Below lim W0 W)
    (HF : ∀ (j : Nat) (hj : j < l.length) (m : Nat) (W : World) (v0 v1 v2 v3 v4 : Value), Inv j W → NodeAt W0 lim (some v0) (some v1) (some v2) (some v3) (some v4) l[j] → CallsIn F m Tryd.prog G (#[.agg #[v0, v1, v2, v3, v4]] ++ cp) W (ElPost Inv St j))
    (W : World) (h0 : Inv 0 W) : CallsIn F n Tryd.prog 76 #[.slice a l.length cap, .func (.func G) #[] cp] W (IdxPost l Inv St) := by
  have hdd : ∀ k : Nat, (F.depth.isSome = true → 1 ≤ k) := fun k h => by rw [hd] at h; cases h
  unfold reachN at hl
  refine callsIn_of_wp Tryd.func76 rfl (hfn _) ?_ hro
  simp only [Tryd.ntmps76, List.size_toArray, List.length_cons, List.length_nil, Nat.reduceAdd, Nat.reduceSub, Array.replicate_succ, Array.replicate_zero, List.push_toArray, List.append_toArray, List.nil_append, List.cons_append]
  gi_wp2
  gi_loopw [8] (fun i wr => ∃ (j : Nat), i = .int .i64 j ∧ j ≤ l.length ∧ Hid (Inv j wr)) (fun i _ => l.length - (intOf i).toNat)
  case atStart =>
    exact ⟨0, rfl, by omega, h0⟩
  case round =>
    obtain ⟨j, rfl, hj, hf⟩ := hrel
    by_cases hlt : j < l.length
    · obtain ⟨b, off, rfl, hb, hnode⟩ := hR.get hlt
      simp only [Nat.zero_add] at hnode
      obtain ⟨u0, u1, u2, u3, u4, e0, e1, e2, e3, e4, hnode⟩ := hnode.vals
      obtain ⟨k0, k1, k2, k3, k4, k5, k6, k7, k8, rfl, rfl, rfl, rfl, rfl⟩ := hnode.forms
      have HS := Lib.hid (fun m => HF j hlt m wr _ _ _ _ _ hf.out hnode)
      have hlo := hI j wr hf.out
      rw [← hlo.cell (p := ⟨b, off + j * 5, none⟩) hb] at e0
      rw [← hlo.cell (p := ⟨b, off + j * 5 + 1, none⟩) hb] at e1
      rw [← hlo.cell (p := ⟨b, off + j * 5 + 2, none⟩) hb] at e2
      rw [← hlo.cell (p := ⟨b, off + j * 5 + 3, none⟩) hb] at e3
      rw [← hlo.cell (p := ⟨b, off + j * 5 + 4, none⟩) hb] at e4
      clear hnode hR HF hlo hI
      have hFx := hF
      unfold Enters at hFx
      clear hF
      gi_wp2_with ((try refine ⟨hdd _, ?_⟩); refine (HS.out _).mono ?_; rintro e w2 (⟨rfl, h2⟩ | ⟨rfl, h2⟩))
      · go_roundw
        case rel => exact ⟨j + 1, by go_num, by omega, h2⟩
        case measure => simp [intOf]; omega
      · go_ret
        exact .inr ⟨j, hlt, rfl, h2⟩
    · have hjl : j = l.length := by omega
      subst hjl
      gi_wp2_with fail
      go_ret
      exact .inl ⟨rfl, hf.out⟩

theorem contNodesI_ok (F : Fence) (hd : F.depth = none) (hfn : ∀ k, F.fn k) (hro : F.round = none) (n : Nat) (l : List Nd) (G : Nat) (cp : Array Value) (hF : Enters G) (W0 : World) (lim : Nat) (a : Option Addr) (cap : Nat) (hl : l.length ≤ reachN) (hR : NodesAt W0 lim a 0 l)
    (Inv St : Nat → World → Prop) (hI : ∀ j W, Inv j W → Below lim W0 W)
    (HF : ∀ (j : Nat) (hj : j < l.length) (m : Nat) (W : World) (v0 v1 v2 v3 v4 : Value), Inv j W → NodeAt W0 lim (some v0) (some v1) (some v2) (some v3) (some v4) l[j] → CallsIn F m Tryd.prog G (#[.agg #[v0, v1, v2, v3, v4]] ++ cp) W (ElPost Inv St j))
    (W : World) (h0 : Inv 0 W) : CallsIn F n Tryd.prog 73 #[.slice a l.length cap, .func (.func G) #[] cp] W (CntPost l Inv St) := by
  have hdd : ∀ k : Nat, (F.depth.isSome = true → 1 ≤ k) := fun k h => by rw [hd] at h; cases h
  have hS := Lib.hid (fun m => indexNodesI_ok F hd hfn hro m l G cp hF W0 lim a cap hl hR Inv St hI HF W h0)
  clear HF hR hF hI
  refine callsIn_of_wp Tryd.func73 rfl (hfn _) ?_ hro
  simp only [Tryd.ntmps73, List.size_toArray, List.length_cons, List.length_nil, Nat.reduceAdd, Nat.reduceSub, Array.replicate_succ, Array.replicate_zero, List.push_toArray, List.append_toArray, List.nil_append, List.cons_append]
  gi_wp2_with ((try refine ⟨hdd _, ?_⟩); gi_at_call 76; refine (hS.out _).mono ?_; rintro e w' (⟨rfl, h2⟩ | ⟨j, hj, rfl, h2⟩))
  · go_ret
    exact .inl ⟨rfl, h2⟩
  · go_ret
    exact .inr ⟨j, hj, by simp, h2⟩

/-- it says yes, and then A; or no, and then B -/
def YesNo (A B : World → Prop) (e : Ending) (W' : World) : Prop := (e = .returned (.bool true) ∧ A W') ∨ (e = .returned (.bool false) ∧ B W')
theorem enters_walk1 : Enters 75 := fun _ _ => by kernel_rfl

theorem walk1_in (F : Fence) (hd : F.depth = none) (hfn : ∀ k, F.fn k) (hro : F.round = none) (l pb : Nat) (v0 v1 v2 v3 v4 : Value) (A B : World → Prop) (n : Nat) (W : World) (hc : W.cell? ⟨pb, 0, none⟩ = some (.func (.yield l) #[] #[]))
    (H : ∀ m W1, Grew W W1 → CallsIn F m Tryd.prog 71 #[.agg #[v0, v1, v2, v3, v4], .func (.yield l) #[] #[]] W1 (YesNo A B)) :
    CallsIn F n Tryd.prog 75 (#[.agg #[v0, v1, v2, v3, v4]] ++ #[.pointer (some ⟨pb, 0, none⟩)]) W (YesNo B A) := by
  have hdd : ∀ k : Nat, (F.depth.isSome = true → 1 ≤ k) := fun k h => by rw [hd] at h; cases h
  have hgr := grew_alloc W (.cells #[v0, v1, v2, v3, v4] 34)
  have hl := lt_of_cell hc
  have hS := Lib.hid (fun m => H m _ hgr)
  clear H hgr
  simp only [List.append_toArray, List.cons_append, List.nil_append]
  refine callsIn_of_wp Tryd.func75 rfl (hfn _) ?_ hro
  simp only [Tryd.ntmps75, List.size_toArray, List.length_cons, List.length_nil, Nat.reduceAdd, Nat.reduceSub, Array.replicate_succ, Array.replicate_zero, List.push_toArray, List.append_toArray, List.nil_append, List.cons_append]
  gi_wp2_with ((try refine ⟨hdd _, ?_⟩); gi_at_call 71; refine (hS.out _).mono ?_; rintro e w' (⟨rfl, h2⟩ | ⟨rfl, h2⟩))
  · go_ret
    exact .inr ⟨rfl, h2⟩
  · go_ret
    exact .inl ⟨rfl, h2⟩

/-- all of these have come, and what a round keeps is kept; or a first part of them, and it was said that it is enough -/
def AllCame {W0 : World} {lim : Nat} (J : List (NV W0 lim) → World → Prop) (pre : List (NV W0 lim)) (L : List Nd) (W W' : World) : Prop := ∃ q : List (NV W0 lim), q.map NV.n = L ∧ J (pre ++ q) W' ∧ KpN lim W W'
def PartCame {W0 : World} {lim : Nat} (Jx : List (NV W0 lim) → World → Prop) (pre : List (NV W0 lim)) (L : List Nd) (W' : World) : Prop := ∃ q : List (NV W0 lim), q.map NV.n <+: L ∧ Jx (pre ++ q) W'

theorem allL_take (l : List Nd) (j : Nat) (hj : j < l.length) : Nd.allL (l.take (j + 1)) = Nd.allL (l.take j) ++ l[j].all := by
  induction l generalizing j with
  | nil => exact absurd hj (by simp)
  | cons a r ih =>
    cases j with
    | zero => simp [Nd.allL]
    | succ j =>
      have := ih j (by simpa using hj)
      simp only [List.take_succ_cons, List.getElem_cons_succ, Nd.allL]
      rw [this, List.append_assoc]
theorem allL_take_le (l : List Nd) (j : Nat) (hj : j < l.length) : Nd.allL (l.take j) ++ l[j].all <+: Nd.allL l := by
  rw [← allL_take l j hj]
  have : ∀ (l : List Nd) k, Nd.allL (l.take k) <+: Nd.allL l := by
    intro l
    induction l with
    | nil => intro k; simp [Nd.allL]
    | cons a r ih =>
      intro k
      cases k with
      | zero => simp [Nd.allL]
      | succ k =>
        obtain ⟨t, ht⟩ := ih k
        exact ⟨t, by simp only [List.take_succ_cons, Nd.allL, List.append_assoc, ht]⟩
  exact this l _

set_option maxHeartbeats 4000000 in
set_option maxRecDepth 20000 in
theorem walkN_ok (F : Fence) (hd : F.depth = none) (hfn : ∀ k, F.fn k) (hro : F.round = none) (l lim N : Nat) (W0 : World) (hlim : lim ≤ W0.heap.size) (J Jx : List (NV W0 lim) → World → Prop) (hJ : ∀ s A B, J s A → Grew A B → J s B)
    (hY : ∀ m pre (x : NV W0 lim) W, J pre W → Below lim W0 W → pre.length < N → YieldAt F m Tryd.prog l x.enc W (YesNo (fun W' => J (pre ++ [x]) W' ∧ KpN lim W W') (Jx (pre ++ [x])))) :
    ∀ n : Nd, ∀ (m : Nat) (v0 v1 v2 v3 v4 : Value) (_ : NodeAt W0 lim (some v0) (some v1) (some v2) (some v3) (some v4) n) (pre : List (NV W0 lim)) (W : World), J pre W → Below lim W0 W → pre.length + n.all.length ≤ N →
      CallsIn F m Tryd.prog 71 #[.agg #[v0, v1, v2, v3, v4], .func (.yield l) #[] #[]] W (YesNo (AllCame J pre n.all W) (PartCame Jx pre n.all)) := by
  have hdd : ∀ k : Nat, (F.depth.isSome = true → 1 ≤ k) := fun k h => by rw [hd] at h; cases h
  refine Nd.ind ?_
  intro k nm tx set subs ih m v0 v1 v2 v3 v4 hN pre W hj hb hlen
  obtain ⟨x, hx⟩ : ∃ x : NV W0 lim, x = ⟨_, _, _, _, _, _, hN⟩ := ⟨_, rfl⟩
  have hxe : x.enc = #[.agg #[v0, v1, v2, v3, v4]] := by rw [hx]; rfl
  have hxn : x.n = .mk k nm tx set subs := by rw [hx]
  clear hx
  rw [NodeAt] at hN
  obtain ⟨hk, h1, h2, h3, h4, h5, ⟨sa, sc, h6, h6', h7⟩, na, nc, h8, h8', h9⟩ := hN
  obtain rfl := Option.some.inj h3
  obtain rfl := Option.some.inj h4
  obtain rfl := Option.some.inj h5
  obtain rfl := Option.some.inj h6
  obtain rfl := Option.some.inj h8
  clear h3 h4 h5 h6 h7 h8
  rw [Nd.all, List.length_cons] at hlen
  have hg1 := grew_alloc W (.cells #[.int .u8 k, .string nm, .string tx, .slice sa set.length sc, .slice na subs.length nc] 34)
  have hg2 := grew_alloc (W.alloc (.cells #[.int .u8 k, .string nm, .string tx, .slice sa set.length sc, .slice na subs.length nc] 34)) (.cells #[.func (.yield l) #[] #[]] 51)
  have ho1 := (Owns.alloc W [.int .u8 k, .string nm, .string tx, .slice sa set.length sc, .slice na subs.length nc] 34).keep hg2
  have ho2 := Owns.alloc (W.alloc (.cells #[.int .u8 k, .string nm, .string tx, .slice sa set.length sc, .slice na subs.length nc] 34)) [.func (.yield l) #[] #[]] 51
  have e1 : (W.alloc (.cells #[.int .u8 k, .string nm, .string tx, .slice sa set.length sc, .slice na subs.length nc] 34)).heap.size = W.heap.size + 1 := by simp
  rw [e1] at ho2
  clear e1
  have hg := hg1.trans hg2
  have hsz := hb.size
  have hbA := hb.trans (hg.mono (show lim ≤ W.heap.size by omega))
  have hYA := hY (m - 1) pre x _ (hJ _ _ _ hj hg) hbA (by omega)
  obtain ⟨fn, tmps, assign, body, hy, hR⟩ := hYA
  rw [hxe] at hy
  have HKG := Lib.hid (KpN.grew hg (show lim ≤ W.heap.size by omega))
  have hR' := hR.mono (R' := fun e W2 => (e = .returned (.bool true) ∧ Hid (J (pre ++ [x]) W2) ∧ Hid (KpN lim W W2) ∧ Hid (Below lim W0 W2) ∧ W2.cell? ⟨W.heap.size, 4, none⟩ = some (.slice na subs.length nc) ∧ Hid (W2.cell? ⟨W.heap.size + 1, 0, none⟩ = some (.func (.yield l) #[] #[])) ∧
      Hid (W2.heap[W.heap.size + 1]? = some (.cells #[.func (.yield l) #[] #[]] 51 (0, 0)))) ∨ (e = .returned (.bool false) ∧ Jx (pre ++ [x]) W2)) (by
    rintro e W2 (⟨rfl, hj2, hk2⟩ | ⟨rfl, hx2⟩)
    · have o1 : Owns W2 W.heap.size _ 34 := hk2.box _ _ _ _ ho1 (.inl rfl)
      have o2 : Owns W2 (W.heap.size + 1) _ 51 := hk2.box _ _ _ _ ho2 (.inr rfl)
      exact .inl ⟨rfl, hj2, (KpN.grew hg (show lim ≤ W.heap.size by omega)).trans hk2, hbA.trans hk2.low, o1.cell_at rfl, o2.cell_at rfl, o2⟩
    · exact .inr ⟨rfl, hx2⟩)
  have HR := Lib.hid hR'
  have HIH := Lib.hid ih
  have HJ := Lib.hid hJ
  have H9 := Lib.hid h9
  clear hY hg1 hg2 ho1 ho2 hg hR hR' hbA ih hJ hb h9 hxe hj hsz
  unfold reachN at h1 h2 h6' h8'
  refine callsIn_of_wp Tryd.func71 rfl (hfn _) ?_ hro
  simp only [Tryd.ntmps71, List.size_toArray, List.length_cons, List.length_nil, Nat.reduceAdd, Nat.reduceSub, Array.replicate_succ, Array.replicate_zero, List.push_toArray, List.append_toArray, List.nil_append, List.cons_append]
  gi_wp2_with ((try refine ⟨hdd _, ?_⟩); refine HR.out.mono ?_; rintro e W2 (⟨rfl, hj2, hk2, hb2, hc2, hy2, ho2⟩ | ⟨rfl, hx2⟩))
  · have hC : ∀ m, CallsIn F m Tryd.prog 73 #[.slice na subs.length nc, .func (.func 75) #[] #[.pointer (some ⟨W.heap.size + 1, 0, none⟩)]] W2
        (CntPost subs (fun j W' => AllCame J (pre ++ [x]) (Nd.allL (subs.take j)) W2 W') (fun _ W' => PartCame Jx (pre ++ [x]) (Nd.allL subs) W')) := by
      intro m
      refine contNodesI_ok F hd hfn hro m subs 75 _ enters_walk1 W0 lim na nc (by unfold reachN; omega) H9.out _ _ (fun j W' ⟨q, _, _, h⟩ => hb2.out.trans h.low) ?_ W2 ⟨[], by simp [Nd.allL], by simpa using hj2.out, KpN.refl _ _⟩
      rintro j hj m W' u0 u1 u2 u3 u4 ⟨q, hq1, hq2, hq3⟩ hnode
      have hty : W'.cell? ⟨W.heap.size + 1, 0, none⟩ = some (.func (.yield l) #[] #[]) := Owns.cell_at (hq3.box _ _ _ _ ho2.out (.inr rfl)) rfl
      have hql := congrArg List.length hq1
      have hal := (allL_take_le subs j hj).length_le
      simp only [List.length_map, List.length_append] at hql hal
      refine (walk1_in F hd hfn hro l _ u0 u1 u2 u3 u4 (AllCame J (pre ++ [x] ++ q) subs[j].all W') (PartCame Jx (pre ++ [x] ++ q) subs[j].all) m W' hty (fun m W1 hg => ?_)).mono ?_
      · have hb' := hb2.out.trans hq3.low
        refine (HIH.out j hj m u0 u1 u2 u3 u4 hnode (pre ++ [x] ++ q) W1 (HJ.out _ _ _ hq2 hg) (hb'.trans (hg.mono (by have := hb'.size; omega))) (by simp only [List.length_append, List.length_singleton]; omega)).mono ?_
        rintro e W3 (⟨rfl, q', r1, r2, r3⟩ | h)
        · exact .inl ⟨rfl, q', r1, r2, (KpN.grew hg (by have := hb'.size; omega)).trans r3⟩
        · exact .inr h
      · rintro e W3 (⟨rfl, q', r1, r2⟩ | ⟨rfl, q', r1, r2, r3⟩)
        · refine .inr ⟨rfl, q ++ q', ?_, by simpa using r2⟩
          rw [List.map_append, hq1]
          exact (List.prefix_append_right_inj _).2 r1 |>.trans (allL_take_le subs j hj)
        · refine .inl ⟨rfl, q ++ q', ?_, by simpa using r2, hq3.trans r3⟩
          rw [List.map_append, hq1, r1, allL_take subs j hj]
    have HC := Lib.hid hC
    clear hC HIH HJ H9 hy HR
    gi_wp2_with ((try refine ⟨hdd _, ?_⟩); gi_at_call 73; refine (HC.out _).mono ?_; rintro e W3 (⟨rfl, q, hq1, hq2, hq3⟩ | ⟨j, hj, rfl, q, hq1, hq2⟩))
    · go_ret
      refine .inl ⟨rfl, x :: q, ?_, by simpa using hq2, hk2.out.trans hq3⟩
      rw [List.map_cons, hxn, Nd.all, hq1, List.take_length]
    · go_ret
      refine .inr ⟨rfl, x :: q, ?_, by simpa using hq2⟩
      rw [List.map_cons, hxn, Nd.all]
      obtain ⟨t, ht⟩ := hq1
      exact ⟨t, by simp [ht]⟩
  · go_ret
    refine .inr ⟨rfl, [x], ?_, hx2⟩
    rw [List.map_singleton, hxn, Nd.all]
    exact ⟨_, rfl⟩

theorem grew_abides {β : Type} {B : Nat} {J : β → World → Prop} (h : AbidesFrom B J) : ∀ s A C, J s A → Grew A C → J s C := fun s A C hs hg =>
  h s A C none hs ⟨hg.os, hg.tape, hg.output, hg.size, fun k hk _ => hg.block k hk⟩ (fun r e => by cases e)

/-- **all(n) hands back a value that yields n's nodes, each ahead of its subs** -/
theorem all_stops (F : Fence) (hd : F.depth = none) (hfn : ∀ k, F.fn k) (hro : F.round = none) (m lim Bn : Nat) (W0 w : World) (hlim : lim ≤ W0.heap.size) (hw : KpN lim W0 w) (n : Nd) (v0 v1 v2 v3 v4 : Value)
    (hN : NodeAt W0 lim (some v0) (some v1) (some v2) (some v3) (some v4) n) (hB : Owns w Bn [v0, v1, v2, v3, v4] 34) :
    SeqStopsK F m Tryd.prog 70 #[.pointer (some ⟨Bn, 0, none⟩)] (NV.enc (W0 := W0) (lim := lim)) (KpN lim) (fun q => q.map NV.n = n.all) (fun q => q.map NV.n <+: n.all) n.all.length w := by
  have hdd : ∀ k : Nat, (F.depth.isSome = true → 1 ≤ k) := fun k h => by rw [hd] at h; cases h
  intro l J Jx W hW hJ _ hY h0
  have hwz := hw.low.size
  have hbl : Below lim W0 W := hw.low.trans (hW.mono (by omega))
  have hBo : Owns W Bn [v0, v1, v2, v3, v4] 34 := hB.keep hW
  have hY' : ∀ m' pre (x : NV W0 lim) W, J pre W → Below lim W0 W → pre.length < n.all.length → YieldAt F m' Tryd.prog l x.enc W (YesNo (fun W' => J (pre ++ [x]) W' ∧ KpN lim W W') (Jx (pre ++ [x]))) := fun m' pre x W hj _ hl => by
    obtain ⟨fn, tmps, assign, body, hy, hR⟩ := hY pre x W hj hl
    exact ⟨fn, tmps, assign, body, hy, hR.1, fun c cs _ => hR.2 c cs (fun d h => by rw [hd] at h; cases h)⟩
  have hS := Lib.hid (fun m' => walkN_ok F hd hfn hro l lim n.all.length W0 hlim J Jx (grew_abides hJ) hY' n m' v0 v1 v2 v3 v4 hN [] W h0 hbl (by simp))
  obtain ⟨k0, k1, k2, k3, k4, k5, k6, k7, k8, rfl, rfl, rfl, rfl, rfl⟩ := hN.forms
  have c0 := hBo.cell_at (i := 0) rfl
  have c1 := hBo.cell_at (i := 1) rfl
  have c2 := hBo.cell_at (i := 2) rfl
  have c3 := hBo.cell_at (i := 3) rfl
  have c4 := hBo.cell_at (i := 4) rfl
  have hbl := hBo.lt
  clear hY hY' hJ hN hB hBo hW hw
  simp only [List.append_toArray, List.cons_append, List.nil_append]
  refine callsIn_of_wp Tryd.func70 rfl (hfn _) ?_ hro
  simp only [Tryd.ntmps70, List.size_toArray, List.length_cons, List.length_nil, Nat.reduceAdd, Nat.reduceSub, Array.replicate_succ, Array.replicate_zero, List.push_toArray, List.append_toArray, List.nil_append, List.cons_append]
  gi_wp2_with ((try refine ⟨hdd _, ?_⟩); gi_at_call 71; refine (hS.out _).mono ?_; rintro e w' (⟨rfl, q, h1, h2, h3⟩ | ⟨rfl, q, h1, h2⟩))
  · go_end0
    exact ⟨⟨_, rfl⟩, .inl ⟨q, h1, by simpa using h2⟩⟩
  · go_end0
    exact ⟨⟨_, rfl⟩, .inr ⟨q, h1, by simpa using h2⟩⟩

theorem all_in (F : Fence) (hfn : ∀ k, F.fn k) (hro : F.round = none) (m : Nat) (v0 v1 v2 v3 v4 : Value) (w : World) :
    CallsIn F m Tryd.prog 59 #[.agg #[v0, v1, v2, v3, v4]] w fun e w' => e = .returned (.func (.func 70) #[] #[.pointer (some ⟨w.heap.size, 0, none⟩)]) ∧ w' = w.alloc (.cells #[v0, v1, v2, v3, v4] 34) := by
  refine callsIn_of_wp Tryd.func59 rfl (hfn _) ?_ hro
  simp only [Tryd.ntmps59, List.size_toArray, List.length_cons, List.length_nil, Nat.reduceAdd, Nat.reduceSub, Array.replicate_succ, Array.replicate_zero, List.push_toArray, List.append_toArray, List.nil_append, List.cons_append]
  gi_wp2
  go_ret
  exact ⟨rfl, rfl⟩
end Go.Proofs.YtkinlcichclnkaaDoor
