/- The library's functions on integers, and on edges, that atns.May asks. -/
import Derived.Test.YtgdcnndmdgcjlaaPReachA
import Derived.Test.YtgdcnndmdgcjlaaFind
import Derived.Lib.AppendZerosOnto
namespace Go.Proofs.Ytgdcnndmdgcjlaa
open Go.RowKit

theorem pixOf_any {α : Type} (l : List α) (q : α → Bool) : decide (0 ≤ ixOf l q) = l.any q := by
  rcases ixOf_cases l q with ⟨h, hn⟩ | ⟨j, hj, h, hq, _⟩
  · rw [h]
    symm
    have : l.any q = false := by
      rw [List.any_eq_false]
      intro x hx
      obtain ⟨i, hi, rfl⟩ := List.mem_iff_getElem.1 hx
      simp [hn i hi]
    rw [this]; rfl
  · rw [h]
    have : l.any q = true := List.any_eq_true.2 ⟨l[j], List.getElem_mem hj, hq⟩
    rw [this]
    simp

/-- what is asked of each number -/
def AskInts (F : Nat) (cp : Array Value) (W : World) (l : List Int) (q : Int → Bool) : Prop :=
  ∀ (i : Nat) (hi : i < l.length) (W' : World), Grew W W' → Calls Try.prog F (#[.int .i64 l[i]] ++ cp) W' fun e W2 => e = .returned (.bool (q l[i])) ∧ Grew W' W2

set_option maxHeartbeats 1000000 in
set_option maxRecDepth 20000 in
theorem indexInts_ok (l : List Int) (q : Int → Bool) (F : Nat) (cp : Array Value) (hF : Enters F) (W : World) (v : Value) (hl : l.length ≤ reachN) (hR : IntsV W W.heap.size v l) (HF : AskInts F cp W l q) :
    Calls Try.prog 48 #[v, .func (.func F) #[] cp] W fun e W' => e = .returned (.int .i64 (ixOf l q)) ∧ Grew W W' := by
  obtain ⟨a, cap, rfl, hR⟩ := hR
  unfold reachN at hl
  go_enter Try.func48, Try.ntmps48
  go_wp2
  go_loopw [8] (fun i wr => ∃ (j : Nat), i = .int .i64 j ∧ j ≤ l.length ∧ Hid (NoneTo l q j) ∧ Hid (Grew W wr)) (fun i _ => l.length - (intOf i).toNat)
  case atStart =>
    exact ⟨0, rfl, by omega, fun i hi h => absurd h (by omega), Grew.refl W⟩
  case round =>
    obtain ⟨j, rfl, hj, hf, hbw⟩ := hrel
    by_cases hlt : j < l.length
    · obtain ⟨b, off, rfl, hb, hc⟩ := hR j hlt
      have hc' : wr.cell? ⟨b, off + j, none⟩ = some (.int .i64 l[j]) := by rw [hbw.out.cells _ _ hb]; exact hc
      have HS := Lib.hid (HF j hlt wr hbw.out)
      clear hR HF hc hb
      have hFx := hF
      unfold Enters at hFx
      clear hF
      obtain ⟨t, ht⟩ : ∃ t, t = q l[j] := ⟨_, rfl⟩
      rw [← ht] at HS
      have HQ := Lib.hid ht
      clear ht
      cases t
      · go_wp2_with (refine HS.out.mono ?_; rintro e w2 ⟨rfl, hb2⟩)
        exact ⟨⟨j + 1, by go_num, by omega, noneTo_next hf.out hlt HQ.out.symm, hbw.out.trans hb2⟩, by simp [intOf]; omega⟩
      · go_wp2_with (refine HS.out.mono ?_; rintro e w2 ⟨rfl, hb2⟩)
        go_ret
        exact ⟨ret_int (ixOf_at hlt hf.out HQ.out.symm).symm, hbw.out.trans hb2⟩
    · go_wp2_with fail
      go_ret
      exact ⟨ret_int (ixOf_none fun i hi => hf.out i hi (by omega)).symm, hbw.out⟩
theorem contInts_ok (l : List Int) (q : Int → Bool) (F : Nat) (cp : Array Value) (hF : Enters F) (W : World) (v : Value) (hl : l.length ≤ reachN) (hR : IntsV W W.heap.size v l) (HF : AskInts F cp W l q) :
    Calls Try.prog 34 #[v, .func (.func F) #[] cp] W fun e W' => e = .returned (.bool (l.any q)) ∧ Grew W W' := by
  have hS := Lib.hid (indexInts_ok l q F cp hF W v hl hR HF)
  clear HF hR hF
  go_enter Try.func34, Try.ntmps34
  go_wp2_with (go_at_call 48; refine hS.out.mono ?_; rintro e w' ⟨rfl, hb2⟩)
  go_ret
  exact ⟨ret_bool (pixOf_any l q), hb2⟩

def Edg.vals (e : Edg) : Array Value := #[.int .u8 e.kind, .int .i64 e.what, .int .i64 e.to]
def AskEdges (F : Nat) (cp : Array Value) (W : World) (l : List Edg) (q : Edg → Bool) : Prop :=
  ∀ (i : Nat) (hi : i < l.length) (W' : World), Grew W W' → Calls Try.prog F (#[.agg #[.int .u8 l[i].kind, .int .i64 l[i].what, .int .i64 l[i].to]] ++ cp) W' fun e W2 => e = .returned (.bool (q l[i])) ∧ Grew W' W2
set_option maxHeartbeats 1000000 in
set_option maxRecDepth 20000 in
theorem indexEdges_ok (l : List Edg) (q : Edg → Bool) (F : Nat) (cp : Array Value) (hF : Enters F) (W : World) (a : Option Addr) (cap : Nat) (hl : l.length ≤ reachN) (hR : EdgesAt W W.heap.size a l) (HF : AskEdges F cp W l q) :
    Calls Try.prog 69 #[.slice a l.length cap, .func (.func F) #[] cp] W fun e W' => e = .returned (.int .i64 (ixOf l q)) ∧ Grew W W' := by
  unfold reachN at hl
  go_enter Try.func69, Try.ntmps69
  go_wp2
  go_loopw [8] (fun i wr => ∃ (j : Nat), i = .int .i64 j ∧ j ≤ l.length ∧ Hid (NoneTo l q j) ∧ Hid (Grew W wr)) (fun i _ => l.length - (intOf i).toNat)
  case atStart =>
    exact ⟨0, rfl, by omega, fun i hi h => absurd h (by omega), Grew.refl W⟩
  case round =>
    obtain ⟨j, rfl, hj, hf, hbw⟩ := hrel
    by_cases hlt : j < l.length
    · obtain ⟨b, off, rfl, hb, hc0, hc1, hc2⟩ := hR j hlt
      have d0 : wr.cell? ⟨b, off + j * 3, none⟩ = some (.int .u8 l[j].kind) := by rw [hbw.out.cells _ _ hb]; exact hc0
      have d1 : wr.cell? ⟨b, off + j * 3 + 1, none⟩ = some (.int .i64 l[j].what) := by rw [hbw.out.cells _ _ hb]; exact hc1
      have d2 : wr.cell? ⟨b, off + j * 3 + 2, none⟩ = some (.int .i64 l[j].to) := by rw [hbw.out.cells _ _ hb]; exact hc2
      have HS := Lib.hid (HF j hlt wr hbw.out)
      clear hR HF hc0 hc1 hc2 hb
      have hFx := hF
      unfold Enters at hFx
      clear hF
      obtain ⟨t, ht⟩ : ∃ t, t = q l[j] := ⟨_, rfl⟩
      rw [← ht] at HS
      have HQ := Lib.hid ht
      clear ht
      cases t
      · go_wp2_with (refine HS.out.mono ?_; rintro e w2 ⟨rfl, hb2⟩)
        exact ⟨⟨j + 1, by go_num, by omega, noneTo_next hf.out hlt HQ.out.symm, hbw.out.trans hb2⟩, by simp [intOf]; omega⟩
      · go_wp2_with (refine HS.out.mono ?_; rintro e w2 ⟨rfl, hb2⟩)
        go_ret
        exact ⟨ret_int (ixOf_at hlt hf.out HQ.out.symm).symm, hbw.out.trans hb2⟩
    · go_wp2_with fail
      go_ret
      exact ⟨ret_int (ixOf_none fun i hi => hf.out i hi (by omega)).symm, hbw.out⟩
theorem contEdges_ok (l : List Edg) (q : Edg → Bool) (F : Nat) (cp : Array Value) (hF : Enters F) (W : World) (a : Option Addr) (cap : Nat) (hl : l.length ≤ reachN) (hR : EdgesAt W W.heap.size a l) (HF : AskEdges F cp W l q) :
    Calls Try.prog 52 #[.slice a l.length cap, .func (.func F) #[] cp] W fun e W' => e = .returned (.bool (l.any q)) ∧ Grew W W' := by
  have hS := Lib.hid (indexEdges_ok l q F cp hF W a cap hl hR HF)
  clear HF hR hF
  go_enter Try.func52, Try.ntmps52
  go_wp2_with (go_at_call 69; refine hS.out.mono ?_; rintro e w' ⟨rfl, hb2⟩)
  go_ret
  exact ⟨ret_bool (pixOf_any l q), hb2⟩

set_option maxHeartbeats 1000000 in
set_option maxRecDepth 20000 in
theorem equalInts_ok (l m : List Int) (W : World) (v u : Value) (hl : l.length ≤ reachN) (hm : m.length ≤ reachN) (hv : IntsV W W.heap.size v l) (hu : IntsV W W.heap.size u m) :
    Calls Try.prog 38 #[v, u] W fun e W' => e = .returned (.bool (decide (l = m))) ∧ Grew W W' := by
  obtain ⟨a, cap, rfl, hA⟩ := hv
  obtain ⟨b, cap', rfl, hB⟩ := hu
  unfold reachN at hl hm
  go_enter Try.func38, Try.ntmps38
  by_cases hlen : l.length = m.length
  · have hne : ((l.length : Int) != (m.length : Int)) = false := by rw [hlen]; simp
    have HLN := Lib.hid hlen
    rw [hlen]
    rw [hlen] at hne
    clear hlen
    go_wp2
    go_loopw [13] (fun i wr => ∃ (j : Nat), i = .int .i64 j ∧ j ≤ m.length ∧ Hid (∀ i (h1 : i < l.length) (h2 : i < m.length), i < j → l[i] = m[i]) ∧ Hid (Grew W wr)) (fun i _ => m.length - (intOf i).toNat)
    case atStart => exact ⟨0, rfl, by omega, fun i _ _ h => absurd h (by omega), Grew.refl W⟩
    case round =>
      obtain ⟨j, rfl, hj, hf, hbw⟩ := hrel
      by_cases hlt : j < m.length
      · have hlt' : j < l.length := by rw [HLN.out]; exact hlt
        obtain ⟨b1, o1, rfl, hb1, hc1⟩ := hA j hlt'
        obtain ⟨b2, o2, rfl, hb2, hc2⟩ := hB j hlt
        have hz := hbw.out.size
        have d1 : wr.cell? ⟨b1, o1 + j, none⟩ = some (.int .i64 l[j]) := by rw [hbw.out.cells _ _ hb1]; exact hc1
        have d2 : wr.cell? ⟨b2, o2 + j, none⟩ = some (.int .i64 m[j]) := by rw [hbw.out.cells _ _ hb2]; exact hc2
        have l1 : b1 < wr.heap.size := by omega
        have l2 : b2 < wr.heap.size := by omega
        clear hA hB hc1 hc2 hb1 hb2 hz
        by_cases heq : l[j] = m[j]
        · have hne2 : (l[j] != m[j]) = false := by rw [heq]; simp
          have HEQ := Lib.hid heq
          rw [heq] at d1
          clear heq hne2
          go_wp2_with fail
          refine wp_region_hav_lit follows (by kernel_rfl) ?_
          repeat (first
            | (refine HavG.skip (fun _ => rfl) ?_; simp only [Act.put, List.setIfInBounds_toArray, List.set_cons_zero, List.set_cons_succ])
            | (refine HavG.val (fun _ => rfl) ?_ (fun x w hw _ => ?_) ?_; rotate_left; (focus (have hc := hw.cells; clear hw; go_simp; first | done | rfl)); simp only [Act.put, List.setIfInBounds_toArray, List.set_cons_zero, List.set_cons_succ]))
          refine HavG.tail (by kernel_rfl) (by kernel_rfl) (fun x w2 hw _ => ?_)
          have HW := Lib.hid hw
          clear hw
          go_wp2_with fail
          exact ⟨⟨j + 1, by go_num, by omega, fun i h1 h2 h3 => by
            by_cases e : i = j
            · subst e; exact HEQ.out
            · exact hf.out i h1 h2 (by omega), hbw.out.trans HW.out⟩, by simp [intOf]; omega⟩
        · have hne2 : (l[j] != m[j]) = true := by simpa using heq
          have HEQ := Lib.hid heq
          clear heq
          go_wp2_with fail
          refine wp_region_hav_lit follows (by kernel_rfl) ?_
          repeat (first
            | (refine HavG.skip (fun _ => rfl) ?_; simp only [Act.put, List.setIfInBounds_toArray, List.set_cons_zero, List.set_cons_succ])
            | (refine HavG.val (fun _ => rfl) ?_ (fun x w hw _ => ?_) ?_; rotate_left; (focus (have hc := hw.cells; clear hw; go_simp; first | done | rfl)); simp only [Act.put, List.setIfInBounds_toArray, List.set_cons_zero, List.set_cons_succ]))
          refine HavG.tail (by kernel_rfl) (by kernel_rfl) (fun x w2 hw _ => ?_)
          have HW := Lib.hid hw
          clear hw
          go_wp2_with fail
          go_ret
          refine ⟨ret_bool ?_, hbw.out.trans HW.out⟩
          symm
          rw [decide_eq_false_iff_not]
          intro e
          subst e
          exact HEQ.out rfl
      · go_wp2_with fail
        go_ret
        refine ⟨ret_bool ?_, hbw.out⟩
        symm
        rw [decide_eq_true_eq]
        exact List.ext_getElem HLN.out fun i h1 h2 => hf.out i h1 h2 (by omega)
  · have hne : ((l.length : Int) != (m.length : Int)) = true := by simp; omega
    have HLN := Lib.hid hlen
    clear hlen
    go_wp2
    go_ret
    refine ⟨ret_bool ?_, Grew.refl W⟩
    symm
    rw [decide_eq_false_iff_not]
    exact fun e => HLN.out (by rw [e])
end Go.Proofs.Ytgdcnndmdgcjlaa
