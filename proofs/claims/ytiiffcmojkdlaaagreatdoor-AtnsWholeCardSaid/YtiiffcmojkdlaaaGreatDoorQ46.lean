/- leads: a state is reached from another one, over edges. -/
import Derived.Test.YtiiffcmojkdlaaaGreatDoorQ33
import Derived.Test.YtiiffcmojkdlaaaGreatDoorQ31
import Derived.Test.YtiiffcmojkdlaaaGreatDoorQ45
import Derived.Test.YtiiffcmojkdlaaaGreatDoorQ14
namespace Go.Proofs.YtiiffcmojkdlaaaGreatDoor
open Go.RowKit

/-- a net's states are the making's; its edges go to states -/
structure Sees (m : Mk) (N : Net) : Prop where
  states : N.states = m.N.states
  goes : ∀ q, q < m.len → ∀ e ∈ (m.st q).edges, ∃ j : Nat, e.to = (j : Int) ∧ j < m.len
  few : m.len ≤ 1000000
  edges : ∀ q, q < m.len → (m.st q).edges.length ≤ 1000000000

def bcs (M : List Bool) : List Value := M.map .bool
theorem bcs_get {M : List Bool} {k : Nat} (h : k < M.length) : (bcs M)[k]? = some (.bool (M.getD k false)) := by
  unfold bcs
  rw [List.getElem?_map, List.getElem?_eq_getElem h, List.getD_eq_getElem?_getD, List.getElem?_eq_getElem h]
  rfl
theorem bcs_set (M : List Bool) (k : Nat) : (bcs M).set k (.bool true) = bcs (M.set k true) := by
  unfold bcs
  rw [List.map_set]
theorem bcs_none (L : Nat) : List.replicate L (Value.bool false) = bcs (List.replicate L false) := by
  unfold bcs
  rw [List.map_replicate]
/-- the net's box, the marks' block -/
structure InAt (W : World) (nb ib : Nat) (cs : List Value) (M : List Bool) (w : World) : Prop where
  net : Owns w nb cs 32
  ins : Owns w ib (bcs M) 4
  low : Below W.heap.size W w
theorem InAt.put {W w : World} {nb ib : Nat} {cs : List Value} {M : List Bool} (h : InAt W nb ib cs M w) (hn : nb ≠ ib) (hl : W.heap.size ≤ ib) (k : Nat) : InAt W nb ib cs (M.set k true) (w.setCell ⟨ib, k, none⟩ (.bool true)) :=
  ⟨h.net.other (a := ⟨ib, k, none⟩) (fun e => hn e.symm) _, by rw [← bcs_set]; exact h.ins.set k _, h.low.setCell (p := ⟨ib, k, none⟩) hl _⟩

set_option maxHeartbeats 8000000 in
set_option maxRecDepth 20000 in
theorem leads_ok (m : Mk) (N : Net) (hS : Sees m N) (W : World) (n0 n1 n2 n3 n4 : Value) (hN : NetAt W W.heap.size n0 n1 n2 n3 n4 N) (x y : Nat) (hx : x < m.len) (hy : y < m.len) (hp : Path m x y) :
    Calls Tryz.prog 9 #[.agg #[n0, n1, n2, n3, n4], .int .i64 x, .int .i64 y] W fun e W' => e = .returned (.bool true) ∧ Grew W W' := by
  obtain ⟨na, nc, rfl, hN0⟩ := hN.states
  rw [hS.states] at hN0 ⊢
  have hlen : m.N.states.length = m.len := rfl
  rw [hlen]
  have hfew := hS.few
  obtain ⟨L, hL⟩ : ∃ L, m.len = L := ⟨_, rfl⟩
  rw [hL] at hx hy hfew ⊢
  have hmb := make_bools L (by unfold reachN; omega)
  have HMB := Lib.hid hmb
  clear hmb
  obtain ⟨w1, hw1⟩ : ∃ w1, W.alloc (.cells #[.slice na L nc, n1, n2, n3, n4] 32) = w1 := ⟨_, rfl⟩
  have z1 : w1.heap.size = W.heap.size + 1 := by rw [← hw1]; exact World.size_alloc W _
  have g1 : Grew W w1 := hw1 ▸ grew_alloc W _
  have o1 : Owns w1 W.heap.size [.slice na L nc, n1, n2, n3, n4] 32 := hw1 ▸ Owns.alloc W _ _
  obtain ⟨w2, hw2⟩ : ∃ w2, w1.alloc (.cells (List.replicate L (Value.bool false)).toArray 4) = w2 := ⟨_, rfl⟩
  have g2 : Grew w1 w2 := hw2 ▸ grew_alloc w1 _
  have o2 : Owns w2 w1.heap.size (List.replicate L (Value.bool false)) 4 := hw2 ▸ Owns.alloc w1 _ _
  have o1' := o1.keep g2
  obtain ⟨nb, hnb⟩ : ∃ nb, W.heap.size = nb := ⟨_, rfl⟩
  obtain ⟨ib, hib⟩ : ∃ ib, w1.heap.size = ib := ⟨_, rfl⟩
  rw [hib, bcs_none] at o2
  have h2 : InAt W nb ib [.slice na L nc, n1, n2, n3, n4] (List.replicate L false) w2 := ⟨by rw [← hnb]; exact o1', o2, g1.trans g2⟩
  have e0 := o1.cell_at (i := 0) rfl
  have el := o1.lt
  rw [hnb] at e0 el
  have hne : nb ≠ ib := by omega
  have hnl : W.heap.size ≤ ib := by omega
  have h3 := h2.put hne hnl x
  have c0 := h2.ins.cell_at (bcs_get (k := x) (by simpa using hx))
  have f0 := h2.ins.free x
  have l0 := h2.ins.lt
  have H3 := Lib.hid h3
  clear g1 o1 g2 o2 o1' h2 h3
  go_enter Tryz.func9, Tryz.ntmps9
  go_wp2_with fail
  rw [HMB.out, hib, hw2]
  simp only [Result.andThen]
  go_wp2_with fail
  generalize w2.setCell ⟨ib, x, none⟩ (.bool true) = w3 at *
  clear c0 f0 l0 e0 el hw1 hw2 hnb hib HMB z1
  have HN0 := Lib.hid hN0
  have HSS := Lib.hid hS
  have HL := Lib.hid hL
  have HPP := Lib.hid hp
  clear hN0 hS hL hp hN hlen
  have hst0 : Hid (((List.replicate L false).set x true).length = L ∧ ((List.replicate L false).set x true).getD x false = true ∧ 0 < ((List.replicate L false).set x true).count true) := by
    refine ⟨by simp, by rw [List.getD_eq_getElem?_getD, List.getElem?_set_self (by simpa using hx)]; rfl, ?_⟩
    rw [count_setB _ _ (by simpa using hx) (by rw [List.getD_eq_getElem?_getD, List.getElem?_replicate, if_pos hx]; rfl)]
    omega
  generalize (List.replicate L false).set x true = M0 at *
  go_loopw [8] (fun v wr => ∃ (r : Nat) (M : List Bool), v = .int .i64 r ∧ r ≤ L ∧ M.length = L ∧ Hid (M.getD x false = true) ∧ Hid (r < M.count true) ∧ Hid (InAt W nb ib [.slice na L nc, n1, n2, n3, n4] M wr)) (fun v _ => L - (intOf v).toNat)
  case atStart => exact ⟨0, M0, rfl, Nat.zero_le _, hst0.out.1, hst0.out.2.1, hst0.out.2.2, H3⟩
  case round =>
    obtain ⟨r, M, rfl, hr, hM, HMx, HMc, HI⟩ := hrel
    have e0 := HI.out.net.cell_at (i := 0) rfl
    have el := HI.out.net.lt
    obtain ⟨wo, rfl⟩ : ∃ wo : World, wo = wr := ⟨_, rfl⟩
    by_cases hlt : r < L
    · go_wp2_with fail
      go_loopw [9, 10] (fun vc vi w => ∃ (c : Bool) (i : Nat) (M2 : List Bool), vc = .bool c ∧ vi = .int .i64 i ∧ i ≤ L ∧ Hid (MarkRound m M M2 c i) ∧ Hid (InAt W nb ib [.slice na L nc, n1, n2, n3, n4] M2 w)) (fun _ vi _ => L - (intOf vi).toNat)
      case atStart => exact ⟨false, 0, M, rfl, rfl, Nat.zero_le _, MarkRound.start m M, HI⟩
      case round =>
        obtain ⟨c, i, M2, rfl, rfl, hi, HR, HI2⟩ := hrel
        clear e0 el
        have e0 := HI2.out.net.cell_at (i := 0) rfl
        have el := HI2.out.net.lt
        have hM2 : M2.length = L := by rw [HR.out.len, hM]
        by_cases hil : i < L
        · obtain ⟨wi, rfl⟩ : ∃ wi : World, wi = wr := ⟨_, rfl⟩
          obtain ⟨b, off, rfl, hb, h1, ⟨ea, ec, h2, h3⟩, -⟩ := HN0.out i (by have : m.N.states.length = L := HL.out; omega)
          have hst : m.N.states[i]'(by have : m.N.states.length = L := HL.out; omega) = m.st i := (st_get (by have : m.N.states.length = L := HL.out; omega)).symm
          rw [hst] at h2 h3
          obtain ⟨n, hn⟩ : ∃ n, (m.st i).edges.length = n := ⟨_, rfl⟩
          have hnf : n ≤ 1000000000 := by rw [← hn]; exact HSS.out.edges i (by have := HL.out; omega)
          rw [hn] at h2
          have HE3 := Lib.hid h3
          have HEN := Lib.hid hn
          have HB1 := Lib.hid h2
          clear h1 h2 h3 hst hn
          go_wp2_with fail
          go_loopw [9, 11] (fun vc vk w => ∃ (c : Bool) (k : Nat) (M3 : List Bool), vc = .bool c ∧ vk = .int .i64 k ∧ k ≤ n ∧ Hid (MarkRound m M M3 c i) ∧ Hid (c = false → M3.getD i false = true → ∀ k', k' < k → ∀ (hk : k' < (m.st i).edges.length) (j : Nat), (m.st i).edges[k'].to = (j : Int) → M3.getD j false = true) ∧ Hid (InAt W nb ib [.slice (some ⟨b, off, none⟩) L nc, n1, n2, n3, n4] M3 w)) (fun _ vk _ => n - (intOf vk).toNat)
          case atStart => exact ⟨c, 0, M2, rfl, rfl, Nat.zero_le _, HR, fun _ _ k' h => by omega, HI2⟩
          case round =>
            obtain ⟨c3, k, M3, rfl, rfl, hk, HR3, HD3, HI3⟩ := hrel
            clear e0 el
            have e0 := HI3.out.net.cell_at (i := 0) rfl
            have el := HI3.out.net.lt
            have hM3 : M3.length = L := by rw [HR3.out.len, hM]
            have hbl : b < wr.heap.size := by have := HI3.out.low.size; omega
            have e1 := (HI3.out.low.cell (p := ⟨b, off + i * 3 + 1, none⟩) hb).trans HB1.out
            have m0 := HI3.out.ins.cell_at (bcs_get (k := i) (by omega))
            have il := HI3.out.ins.lt
            by_cases hkn : k < n
            · obtain ⟨eb, eoff, rfl, heb, -, -, q3⟩ := HE3.out k (by rw [HEN.out]; exact hkn)
              have hebl : eb < wr.heap.size := by have := HI3.out.low.size; omega
              have e2 := (HI3.out.low.cell (p := ⟨eb, eoff + k * 3 + 2, none⟩) heb).trans q3
              obtain ⟨j, hj, hjl⟩ := HSS.out.goes i (by have := HL.out; omega) _ (List.getElem_mem (by rw [HEN.out]; exact hkn : k < (m.st i).edges.length))
              rw [hj] at e2
              have hjl : j < L := by have := HL.out; omega
              have HJ := Lib.hid hj
              clear q3 hj
              cases hmi : M3.getD i false with
              | false =>
                rw [hmi] at m0
                have HMI := Lib.hid hmi
                clear hmi
                go_wp2_with fail
                exact ⟨⟨c3, i + 1, M3, rfl, by go_num, by omega, HR3.out.next (fun _ hg => absurd hg (by rw [HMI.out]; simp)), HI3⟩, by simp [intOf]; omega⟩
              | true =>
                rw [hmi] at m0
                have HMI := Lib.hid hmi
                clear hmi
                have m1 := HI3.out.ins.cell_at (bcs_get (k := j) (by omega))
                cases hmj : M3.getD j false with
                | true =>
                  rw [hmj] at m1
                  have HMJ := Lib.hid hmj
                  clear hmj
                  go_wp2_with fail
                  refine ⟨⟨c3, k + 1, M3, rfl, by go_num, by omega, HR3, fun hc hg k' hk' hkl j' hj' => ?_, HI3⟩, by simp [intOf]; omega⟩
                  by_cases hkk : k' = k
                  · subst hkk
                    rw [HJ.out] at hj'
                    have : j = j' := by omega
                    subst this
                    exact HMJ.out
                  · exact HD3.out hc hg k' (by omega) hkl j' hj'
                | false =>
                  rw [hmj] at m1
                  have HMJ := Lib.hid hmj
                  have fj := HI3.out.ins.free j
                  clear hmj
                  go_wp2_with fail
                  exact ⟨⟨true, k + 1, M3.set j true, rfl, by go_num, by omega, HR3.out.mark (by omega) HMJ.out, fun h => (by cases h), HI3.out.put hne hnl j⟩, by simp [intOf]; omega⟩
            · have hkn2 : k = n := by omega
              subst hkn2
              go_wp2_with fail
              refine ⟨⟨c3, i + 1, M3, rfl, by go_num, by omega, HR3.out.next (fun hc hg e he j hj => ?_), HI3⟩, by simp [intOf]; omega⟩
              obtain ⟨k', hk', rfl⟩ := List.mem_iff_getElem.1 he
              exact HD3.out hc hg k' (by rw [← HEN.out]; exact hk') hk' j hj
        · have hil2 : i = L := by omega
          subst hil2
          cases c with
          | true =>
            go_wp2_with fail
            refine ⟨⟨r + 1, M2, by go_num, by omega, hM2, HR.out.up _ HMx.out, ?_, HI2⟩, by simp [intOf]; omega⟩
            have h1 := HR.out.more rfl
            have h2 := HMc.out
            show r + 1 < M2.count true
            omega
          | false =>
            have m1 := HI2.out.ins.cell_at (bcs_get (k := y) (by omega))
            have hyt : M2.getD y false = true := by
              refine closed_path (fun q hq e he j hj => ?_) HPP.out (HR.out.up _ HMx.out)
              by_cases hqi : q < i
              · exact HR.out.done rfl q hqi hq e he j hj
              · rw [List.getD_eq_getElem?_getD, List.getElem?_eq_none (by omega)] at hq
                cases hq
            rw [hyt] at m1
            have il := HI2.out.ins.lt
            clear hyt
            go_wp2_with fail
            go_ret
            exact ⟨rfl, HI2.out.low⟩
    · exfalso
      have h1 := HMc.out
      have h2 := List.count_le_length (a := true) (l := M)
      omega
end Go.Proofs.YtiiffcmojkdlaaaGreatDoor

/- What the walk of AtnsWhole asks of the net that Build makes. No program in sight. -/
namespace Go.Proofs.YtiiffcmojkdlaaaGreatDoor
open Go.RowKit

/-- the net, its beginnings, and what is asked of it -/
structure Nice (m : Mk) (N : Net) (bs : List Nat) (J : Nat) : Prop where
  sees : Sees m N
  may : N.mayB = true
  lens : N.starts.length = J ∧ N.stops.length = J
  ss : ∀ i < J, ∃ b ∈ bs, N.starts[i]? = some (b : Int) ∧ N.stops[i]? = some ((b + 1 : Nat) : Int) ∧ (m.st b).rule = i ∧ (m.st (b + 1)).rule = i
  pp : ∀ p ∈ N.preds, ∃ b ∈ bs, p = (b : Int)
  all : ∀ b ∈ bs, (b : Int) ∈ N.starts ∨ (b : Int) ∈ N.preds
  path : ∀ b ∈ bs, b + 1 < m.len ∧ Path m b (b + 1)
  over : ∀ q, q < m.len → ((m.st q).edges = [] ↔ ∃ b ∈ bs, q = b + 1)
  fwd : ∀ q, q < m.len → ∀ e ∈ (m.st q).edges, Fwd m bs q e.to
  few : N.starts.length ≤ 1000 ∧ N.preds.length ≤ 2050 ∧ N.decisions.length ≤ 4096
  ends : ∀ s ∈ N.states, s.edges.length ≤ 1000000000 ∧ s.ends.length ≤ 1000000000
theorem nice_of {P : Nums} {J : Nat} {bs : List Nat} {m : Mk} (h : Whole P J J bs m) (hw : m.waits = []) (hs : m.Slim 0) (hp : m.N.preds.length ≤ 2050) (hJ : J ≤ 1000) : Nice m (m.decsTo m.N.states.length).N bs J := by
  obtain ⟨d1, d2, d3, d4, d5⟩ := mk_decsTo m h.decs m.N.states.length (Nat.le_refl _)
  have hcap := hs.cap
  have hlen : m.len = m.N.states.length := rfl
  have he : ∀ q, (m.st q).edges.length ≤ 1000000000 ∧ (m.st q).ends.length ≤ 1000000000 := fun q => by
    have h1 := hs.edges q
    have h2 := hs.ends q
    unfold Net.edges at h1
    unfold Net.ends at h2
    unfold Mk.st
    cases hq : m.N.states[q]? with
    | none => simp
    | some s =>
      rw [hq] at h1 h2
      simp only [Option.map_some, Option.getD_some] at h1 h2 ⊢
      omega
  refine ⟨⟨d2, fun q hq e hem => ?_, by omega, fun q _ => (he q).1⟩, whole_may h hw, by rw [d3, d4]; exact h.lens, fun i hi => ?_, by rw [d5]; exact h.pp, by rw [d3, d5]; exact h.all, fun b hb => ⟨(h.glob.path b hb).1, (h.glob.path b hb).2.1⟩, h.glob.over, fun q hq e hem => ((h.glob.part q hq).edges e hem).2, ⟨by rw [d3, h.lens.1]; exact hJ, by rw [d5]; exact hp, ?_⟩, fun s hsm => ?_⟩
  · obtain ⟨j, j1, j2, -⟩ := ((h.glob.part q hq).edges e hem).2
    exact ⟨j, j1, j2⟩
  · obtain ⟨b, b1, b2, b3, b4⟩ := h.ss i hi
    rw [d3, d4]
    exact ⟨b, b1, b2, b3, b4, by rw [(h.glob.path b b1).2.2]; exact b4⟩
  · rw [d1]
    have := decsTo_len m.N.states m.N.states.length
    omega
  · rw [d2] at hsm
    obtain ⟨q, hq, rfl⟩ := List.mem_iff_getElem.1 hsm
    have := he q
    rw [st_get hq] at this
    exact this
end Go.Proofs.YtiiffcmojkdlaaaGreatDoor

/- The chapter's example: its grammar, and what is so of it. -/
namespace Go.Proofs.YtiiffcmojkdlaaaGreatDoor
open Go.RowKit

def g0n (k : Int) (nm : ByteArray) (subs : List Nd) : Nd := .mk k nm { data := #[] } [] subs
def g0a : Nd := g0n 0 { data := #[] } [g0n 1 { data := #[] } [g0n 2 { data := #[] } [g0n 5 { data := #[98] } []], g0n 6 { data := #[67] } []], g0n 1 { data := #[] } []]
def g0b : Nd := g0n 1 { data := #[] } [g0n 5 { data := #[97] } [], g0n 6 { data := #[68] } []]
def g0 : Gr := ⟨{ data := #[] }, 0, 0, [⟨{ data := #[97] }, 0, g0a, 0, 0, 0⟩, ⟨{ data := #[98] }, 0, g0b, 0, 0, 0⟩]⟩

theorem g0_empty {es : List Bool} (h : g0.IsEmpty es) : es = [true, false] := by
  refine h.unique ⟨?_, fun i hi hm => ?_⟩
  · have h0 := (Gr.Sound.start g0).next (i := 0) (by decide) (by kernel_rfl)
    exact h0
  · have hi' : i < 2 := hi
    match i, hi' with
    | 0, _ => rfl
    | 1, _ =>
      have hf : g0.may [true, false] (Rl.token ⟨{ data := #[98] }, 0, g0b, 0, 0, 0⟩) g0b = false := by kernel_rfl
      exact absurd (hf.symm.trans hm) (by decide)
theorem g0_reach {M : List (List Bool)} (h : IsReach (g0.Once [true, false]) 2 M) : at2 M 0 0 = true ∧ at2 M 0 1 = true ∧ at2 M 1 0 = true ∧ at2 M 1 1 = true := by
  have a : g0.Once [true, false] 0 1 := by show at2 _ _ _ = true; kernel_rfl
  have b : g0.Once [true, false] 1 0 := by show at2 _ _ _ = true; kernel_rfl
  exact ⟨(h.tc _ _).2 (.more a (.one b)), (h.tc _ _).2 (.one a), (h.tc _ _).2 (.one b), (h.tc _ _).2 (.more b (.one a))⟩
theorem g0_findb : g0.find { data := #[98] } = 1 := by kernel_rfl
theorem g0_findc : g0.find { data := #[99] } = -1 := by kernel_rfl

/-- the world in which it lies -/
def g0W (W : World) : World :=
  ((((((((W.alloc (.cells #[.int .u8 5, .string { data := #[98] }, .string { data := #[] }, .slice none 0 0, .slice none 0 0] 51)).alloc (.cells #[.int .u8 5, .string { data := #[98] }, .string { data := #[] }, .slice none 0 0, .slice none 0 0] 51)).alloc
    (.cells #[.int .u8 2, .string { data := #[] }, .string { data := #[] }, .slice none 0 0, .slice (some ⟨W.heap.size + 1, 0, none⟩) 1 1, .int .u8 6, .string { data := #[67] }, .string { data := #[] }, .slice none 0 0, .slice none 0 0] 51)).alloc
    (.cells #[.int .u8 1, .string { data := #[] }, .string { data := #[] }, .slice none 0 0, .slice (some ⟨W.heap.size + 1 + 1, 0, none⟩) 2 2, .int .u8 1, .string { data := #[] }, .string { data := #[] }, .slice none 0 0, .slice none 0 0] 51)).alloc
    (.cells #[.int .u8 0, .string { data := #[] }, .string { data := #[] }, .slice none 0 0, .slice (some ⟨W.heap.size + 1 + 1 + 1, 0, none⟩) 2 2] 51)).alloc
    (.cells #[.int .u8 5, .string { data := #[97] }, .string { data := #[] }, .slice none 0 0, .slice none 0 0, .int .u8 6, .string { data := #[68] }, .string { data := #[] }, .slice none 0 0, .slice none 0 0] 51)).alloc
    (.cells #[.int .u8 1, .string { data := #[] }, .string { data := #[] }, .slice none 0 0, .slice (some ⟨W.heap.size + 1 + 1 + 1 + 1 + 1, 0, none⟩) 2 2] 51)).alloc
    (.cells #[.string { data := #[97] }, .int .u8 0, .int .u8 0, .string { data := #[] }, .string { data := #[] }, .slice none 0 0, .slice (some ⟨W.heap.size + 1 + 1 + 1, 0, none⟩) 2 2, .int .i64 0, .int .i64 0, .int .i64 0,
      .string { data := #[98] }, .int .u8 0, .int .u8 1, .string { data := #[] }, .string { data := #[] }, .slice none 0 0, .slice (some ⟨W.heap.size + 1 + 1 + 1 + 1 + 1, 0, none⟩) 2 2, .int .i64 0, .int .i64 0, .int .i64 0] 55)).alloc
    (.cells #[.string { data := #[] }, .int .i64 0, .int .i64 0, .slice (some ⟨W.heap.size + 1 + 1 + 1 + 1 + 1 + 1 + 1, 0, none⟩) 2 2] 26)

theorem g0W_grew (W : World) : Grew W (g0W W) := by
  unfold g0W
  repeat (first | exact Grew.refl _ | refine Grew.trans ?_ (grew_alloc _ _))

set_option maxHeartbeats 4000000 in
set_option maxRecDepth 40000 in
theorem g0W_at (W : World) : GrAt (g0W W) (g0W W).heap.size (some (.string { data := #[] })) (some (.int .i64 0)) (some (.int .i64 0)) (some (.slice (some ⟨W.heap.size + 1 + 1 + 1 + 1 + 1 + 1 + 1, 0, none⟩) 2 2)) g0 := by
  simp [GrAt, g0, g0a, g0b, g0n, RulesAt, RuleAt, NodesAt, NodeAt, RangesAt, reachN, InI64, g0W, go_sem, ByteArray.size, and_assoc]
end Go.Proofs.YtiiffcmojkdlaaaGreatDoor

/- The chapter's example of nets: its grammar, what is told of it, and its net. -/
namespace Go.Proofs.YtiiffcmojkdlaaaGreatDoor
open Go.RowKit

def g12x : Nd := .mk 8 { data := #[] } { data := #[120] } [] []
def g12a : Nd := g0n 0 { data := #[] } [g0n 6 { data := #[66] } [], g0n 6 { data := #[67] } []]
def g12 : Gr := ⟨{ data := #[] }, 0, 0, [⟨{ data := #[97] }, 0, g12a, 0, 0, 0⟩, ⟨{ data := #[66] }, 1, g12x, 0, 0, 0⟩, ⟨{ data := #[67] }, 1, g12x, 0, 0, 0⟩]⟩
def P12 : Nums := ⟨fun nm => ixOf [1, 2] fun y => g12.find nm == y, fun nm => ixOf [0] fun y => g12.find nm == y⟩
def m12 : Mk := Mk.rulesTo P12 g12 [0] 1
def n12 : Net := ⟨[⟨0, [⟨0, 0, 2⟩], []⟩, ⟨0, [], []⟩, ⟨0, [⟨0, 0, 4⟩, ⟨0, 0, 5⟩], [3, 3]⟩, ⟨0, [⟨0, 0, 1⟩], []⟩, ⟨0, [⟨1, 0, 3⟩], []⟩, ⟨0, [⟨1, 1, 3⟩], []⟩], [0], [1], [], [2]⟩
theorem g12_of0 : g12.of [0] = [0] := by kernel_rfl
theorem g12_of13 : g12.of [1, 3] = [1, 2] := by kernel_rfl
theorem m12_full : m12.full = false := by kernel_rfl
theorem m12_waits : m12.waits = [] := by kernel_rfl
theorem m12_net : (m12.decsTo m12.N.states.length).N = n12 := by kernel_rfl
theorem g12_built {E : MkE} {m : Mk} (hr : E.rules = g12.of [0]) (ht : E.tokens = g12.of [1, 3]) (hb : Built (E.nums g12) g12 (g12.of [0]) m) : m = m12 := by
  have hP : E.nums g12 = P12 := by
    unfold MkE.nums
    rw [hr, ht, g12_of0, g12_of13]
    rfl
  rw [hP, g12_of0] at hb
  obtain ⟨h, -⟩ := hb
  have : ∀ {m}, Mk.Wts P12 m12 m → m = m12 := by
    intro m h
    induction h with
    | refl => rfl
    | step _ _ hw ih => rw [ih, m12_waits] at hw; exact absurd rfl hw
  exact this h
theorem g12_empty {es : List Bool} (h : g12.IsEmpty es) : es = [false, false, false] := by
  refine h.unique ⟨Gr.Sound.start g12, fun i hi hm => ?_⟩
  have hi' : i < 3 := hi
  match i, hi' with
  | 0, _ =>
    have hf : g12.may [false, false, false] (Rl.token ⟨{ data := #[97] }, 0, g12a, 0, 0, 0⟩) g12a = false := by kernel_rfl
    exact absurd (hf.symm.trans hm) (by decide)
  | 1, _ =>
    have hf : g12.may [false, false, false] (Rl.token ⟨{ data := #[66] }, 1, g12x, 0, 0, 0⟩) g12x = false := by kernel_rfl
    exact absurd (hf.symm.trans hm) (by decide)
  | 2, _ =>
    have hf : g12.may [false, false, false] (Rl.token ⟨{ data := #[67] }, 1, g12x, 0, 0, 0⟩) g12x = false := by kernel_rfl
    exact absurd (hf.symm.trans hm) (by decide)
theorem no_tc {O : Nat → Nat → Prop} (hn : ∀ i k, ¬ O i k) {n : Nat} {M : List (List Bool)} (h : IsReach O n M) (i k : Nat) : at2 M i k = false := by
  cases hh : at2 M i k
  · rfl
  · have := (h.tc _ _).1 hh
    cases this with
    | one h => exact absurd h (hn _ _)
    | more h _ => exact absurd h (hn _ _)
theorem g12_once (i k : Nat) : ¬ g12.Once [false, false, false] i k := by
  unfold Gr.Once
  have hM : g12.onceM [false, false, false] = [[false, false, false], [false, false, false], [false, false, false]] := by kernel_rfl
  rw [hM]
  unfold at2
  rcases i with _ | _ | _ | i <;> rcases k with _ | _ | _ | k <;> simp
theorem g12_rd0 (i k : Nat) : ¬ g12.rd0 i k := by
  rintro ⟨hi, hk, h, _, m, hm, h3, _⟩
  have hi' : i < 3 := hi
  have hall : g12x.all = [g12x] := by kernel_rfl
  match i, hi' with
  | 0, _ => cases h
  | 1, _ =>
    replace hm : m ∈ [g12x] := Eq.mp (congrArg (m ∈ ·) hall) hm
    obtain rfl := List.mem_singleton.1 hm
    exact absurd h3 (by decide)
  | 2, _ =>
    replace hm : m ∈ [g12x] := Eq.mp (congrArg (m ∈ ·) hall) hm
    obtain rfl := List.mem_singleton.1 hm
    exact absurd h3 (by decide)
theorem g12_told {es : List Bool} {M N : List (List Bool)} (he : g12.IsEmpty es) (hM : IsReach (g12.Once es) g12.rules.length M) (hN : IsReach g12.rd0 g12.rules.length N) : g12.told es (at2 M) (at2 N) = [] := by
  obtain rfl := g12_empty he
  have h1 : at2 M = fun _ _ => false := by funext i k; exact no_tc g12_once hM i k
  have h2 : at2 N = fun _ _ => false := by funext i k; exact no_tc g12_rd0 hN i k
  rw [h1, h2]
  have : (g12.told [false, false, false] (fun _ _ => false) (fun _ _ => false)).isEmpty = true := by kernel_rfl
  exact List.isEmpty_iff.1 this
theorem g12_good : ¬ BuildBad g12 := by
  rintro (⟨es, M, N, h1, h2, h3, h4⟩ | ⟨E, m, h1, h2, h3, h4⟩)
  · exact h4 (g12_told h1 h2 h3)
  · rw [g12_built h1 h2 h3, m12_full] at h4
    cases h4
theorem g12_fair : g12.Fair := by
  refine ⟨by decide, by decide, fun i hi => ?_, by decide⟩
  have hi' : i < 3 := hi
  match i, hi' with
  | 0, _ => exact ⟨show g12a.total ≤ 3000 by decide, show (ByteArray.mk #[97]).size ≤ 200 by decide⟩
  | 1, _ => exact ⟨show g12x.total ≤ 3000 by decide, show (ByteArray.mk #[66]).size ≤ 200 by decide⟩
  | 2, _ => exact ⟨show g12x.total ≤ 3000 by decide, show (ByteArray.mk #[67]).size ≤ 200 by decide⟩
/-- the world in which it lies -/
def g12W (W : World) : World :=
  ((((W.alloc (.cells #[.int .u8 6, .string { data := #[66] }, .string { data := #[] }, .slice none 0 0, .slice none 0 0, .int .u8 6, .string { data := #[67] }, .string { data := #[] }, .slice none 0 0, .slice none 0 0] 51)).alloc
    (.cells #[.int .u8 0, .string { data := #[] }, .string { data := #[] }, .slice none 0 0, .slice (some ⟨W.heap.size, 0, none⟩) 2 2] 51)).alloc
    (.cells #[.int .u8 8, .string { data := #[] }, .string { data := #[120] }, .slice none 0 0, .slice none 0 0] 51)).alloc
    (.cells #[.string { data := #[97] }, .int .u8 0, .int .u8 0, .string { data := #[] }, .string { data := #[] }, .slice none 0 0, .slice (some ⟨W.heap.size, 0, none⟩) 2 2, .int .i64 0, .int .i64 0, .int .i64 0,
      .string { data := #[66] }, .int .u8 1, .int .u8 8, .string { data := #[] }, .string { data := #[120] }, .slice none 0 0, .slice none 0 0, .int .i64 0, .int .i64 0, .int .i64 0,
      .string { data := #[67] }, .int .u8 1, .int .u8 8, .string { data := #[] }, .string { data := #[120] }, .slice none 0 0, .slice none 0 0, .int .i64 0, .int .i64 0, .int .i64 0] 55)).alloc
    (.cells #[.string { data := #[] }, .int .i64 0, .int .i64 0, .slice (some ⟨W.heap.size + 1 + 1 + 1, 0, none⟩) 3 3] 26)
theorem g12W_grew (W : World) : Grew W (g12W W) := by
  unfold g12W
  repeat (first | exact Grew.refl _ | refine Grew.trans ?_ (grew_alloc _ _))

set_option maxHeartbeats 4000000 in
set_option maxRecDepth 40000 in
theorem g12W_at (W : World) : GrAt (g12W W) (g12W W).heap.size (some (.string { data := #[] })) (some (.int .i64 0)) (some (.int .i64 0)) (some (.slice (some ⟨W.heap.size + 1 + 1 + 1, 0, none⟩) 3 3)) g12 := by
  simp [GrAt, g12, g12a, g12x, g0n, RulesAt, RuleAt, NodesAt, NodeAt, RangesAt, reachN, InI64, g12W, go_sem, ByteArray.size, and_assoc]
end Go.Proofs.YtiiffcmojkdlaaaGreatDoor
