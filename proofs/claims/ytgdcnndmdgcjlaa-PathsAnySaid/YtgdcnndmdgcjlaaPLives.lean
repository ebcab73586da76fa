/- lives: the chapter's examples. -/
import Derived.Test.YtgdcnndmdgcjlaaPNet
namespace Go.Proofs.Ytgdcnndmdgcjlaa
open Go.RowKit

theorem exN_edge {s : Nat} {e : Edg} (h : e ∈ exN.edges s) : (s = 0 ∧ e = ⟨0, 0, 2⟩) ∨ (s = 2 ∧ (e = ⟨0, 0, 4⟩ ∨ e = ⟨0, 0, 5⟩)) ∨ (s = 3 ∧ e = ⟨0, 0, 1⟩) ∨ (s = 4 ∧ e = ⟨1, 0, 3⟩) ∨ (s = 5 ∧ e = ⟨1, 1, 3⟩) := by
  match s with
  | 0 => exact .inl ⟨rfl, List.mem_singleton.1 h⟩
  | 1 => exact absurd h (by simp [exN, Net.edges])
  | 2 => exact .inr (.inl ⟨rfl, by simpa [exN, Net.edges] using h⟩)
  | 3 => exact .inr (.inr (.inl ⟨rfl, List.mem_singleton.1 h⟩))
  | 4 => exact .inr (.inr (.inr (.inl ⟨rfl, List.mem_singleton.1 h⟩)))
  | 5 => exact .inr (.inr (.inr (.inr ⟨rfl, List.mem_singleton.1 h⟩)))
  | n + 6 => exact absurd h (by simp [exN, Net.edges])
theorem exN_kind {s : Nat} {e : Edg} (h : e ∈ exN.edges s) : e.kind ≠ 2 := by
  rcases exN_edge h with ⟨_, rfl⟩ | ⟨_, rfl | rfl⟩ | ⟨_, rfl⟩ | ⟨_, rfl⟩ | ⟨_, rfl⟩ <;> decide
theorem ex_a {κ : Key} {p : Pl} (h : Lv exN [0] (0, 0) (-1) κ p) : κ = none ∧ (p.2 = 0 → p.1 = 0 ∨ p.1 = 2 ∨ p.1 = 4 ∨ p.1 = 5) := by
  induction h with
  | root => exact ⟨rfl, fun _ => .inl rfl⟩
  | begin _ _ he hk => exact absurd hk (exN_kind he)
  | eps _ _ he hk hk' ih =>
    refine ⟨ih.1, fun h0 => ?_⟩
    rcases exN_edge he with ⟨_, rfl⟩ | ⟨_, rfl | rfl⟩ | ⟨hs, rfl⟩ | ⟨_, rfl⟩ | ⟨_, rfl⟩
    · exact .inr (.inl rfl)
    · exact .inr (.inr (.inl rfl))
    · exact .inr (.inr (.inr rfl))
    · have := ih.2 h0
      simp only at this
      omega
    · exact absurd rfl hk'
    · exact absurd rfl hk'
  | tok _ _ _ _ _ ih => exact ⟨ih.1, fun h0 => absurd h0 (by simp)⟩
  | back _ _ he hk => exact absurd hk (exN_kind he)
theorem ex_b : Lv exN [0] (0, 0) (-1) none (1, 1) := by
  have h0 : Lv exN [0] (0, 0) (-1) none (0, 0) := .root
  have h1 : Lv exN [0] (0, 0) (-1) none (2, 0) := .eps (e := ⟨0, 0, 2⟩) h0 (fun _ => by decide) (by simp [exN, Net.edges]) (by decide) (by decide)
  have h2 : Lv exN [0] (0, 0) (-1) none (4, 0) := .eps (e := ⟨0, 0, 4⟩) h1 (fun _ => by decide) (by simp [exN, Net.edges]) (by decide) (by decide)
  have h3 : Lv exN [0] (0, 0) (-1) none (3, 1) := .tok (e := ⟨1, 0, 3⟩) h2 (fun _ => by decide) (by simp [exN, Net.edges]) (by decide) rfl
  exact .eps (e := ⟨0, 0, 1⟩) h3 (fun _ => by decide) (by simp [exN, Net.edges]) (by decide) (by decide)
theorem ex_c : AlongIs exN [0, 1] (4, 0) 3 :=
  .inr ⟨1, by decide, .tok (e := ⟨1, 0, 3⟩) .root (fun _ => by decide) (by simp [exN, Net.edges]) (by decide) rfl⟩
theorem ex_d {κ : Key} {p : Pl} (h : Lv exN [1] (4, 0) 3 κ p) : κ = none ∧ p = (4, 0) := by
  induction h with
  | root => exact ⟨rfl, rfl⟩
  | begin _ _ he hk => exact absurd hk (exN_kind he)
  | eps _ _ he hk hk' ih =>
    obtain ⟨ih1, ih2⟩ := ih
    rw [Prod.mk.injEq] at ih2
    obtain ⟨rfl, rfl⟩ := ih2
    rw [List.mem_singleton.1 he] at hk'
    exact absurd rfl hk'
  | tok _ _ he _ hw ih =>
    obtain ⟨ih1, ih2⟩ := ih
    rw [Prod.mk.injEq] at ih2
    obtain ⟨rfl, rfl⟩ := ih2
    rw [List.mem_singleton.1 he] at hw
    simp at hw
  | back _ _ he hk => exact absurd hk (exN_kind he)
theorem ex_e : ¬ AlongIs exN [1] (4, 0) 3 := by
  rintro (⟨κ, p, h, hp⟩ | ⟨i, _, h⟩)
  · rw [(ex_d h).2] at hp; simp at hp
  · have := (ex_d h).2; simp at this

theorem intsV_one {W : World} {b n : Nat} {l : List Int} (hn : n = l.length) (h : Owns W b (l.map fun i => .int .i64 i) 3) : IntsV W W.heap.size (.slice (some ⟨b, 0, none⟩) n n) l := ⟨_, _, by rw [hn], ints_one h.lt h⟩
theorem NetAt.forms {W : World} {lim : Nat} {n0 n1 n2 n3 n4 : Value} {N : Net} (h : NetAt W lim n0 n1 n2 n3 n4 N) : ∃ a0 k0 a1 k1 a2 k2 a3 k3 a4 k4, n0 = .slice a0 N.states.length k0 ∧ n1 = .slice a1 N.starts.length k1 ∧ n2 = .slice a2 N.stops.length k2 ∧ n3 = .slice a3 N.preds.length k3 ∧ n4 = .slice a4 N.decisions.length k4 := by
  obtain ⟨a0, k0, e0, _⟩ := h.states
  obtain ⟨a1, k1, e1, _⟩ := h.starts
  obtain ⟨a2, k2, e2, _⟩ := h.stops
  obtain ⟨a3, k3, e3, _⟩ := h.preds
  obtain ⟨a4, k4, e4, _⟩ := h.decisions
  exact ⟨a0, k0, a1, k1, a2, k2, a3, k3, a4, k4, e0, e1, e2, e3, e4⟩

set_option maxHeartbeats 4000000 in
set_option maxRecDepth 40000 in
theorem lives13_ok (W : World) : Calls Try.prog 7 #[] W fun e W' => e = .returned (.bool true) ∧ Grew W W' := by
  go_enter Try.func7, Try.ntmps7
  go_wp2_with fail
  refine (net13_ok _).mono ?_
  rintro e w1 ⟨n0, n1, n2, n3, n4, rfl, hN, hg1⟩
  obtain ⟨w2, hw2⟩ : ∃ w2, w1.alloc (.cells #[.int .i64 0] 3) = w2 := ⟨_, rfl⟩
  have g2 : Grew w1 w2 := hw2 ▸ grew_alloc w1 _
  have o2 : Owns w2 w1.heap.size [.int .i64 0] 3 := hw2 ▸ Owns.alloc w1 _ _
  have HC := Lib.hid (show Calls Try.prog 9 #[.agg #[n0, n1, n2, n3, n4], .int .i64 0, .int .i64 1, .slice (some ⟨w1.heap.size, 0, none⟩) 1 1] w2 (WaysAt exN [0] 0 1 w2) from ways_ok exN exN_small exN_may [0] (by decide) 0 1 (by decide) (by decide) w2 n0 n1 n2 n3 n4 (.slice (some ⟨w1.heap.size, 0, none⟩) 1 1) ((hN.keep g2).mono g2.size) (intsV_one rfl o2))
  have HG := Lib.hid (hg1.trans g2)
  clear hN hg1 g2 o2
  go_wp2_with fail
  refine HC.out.mono ?_
  rintro e w3 ⟨ob, g, rfl, hgv, hob, hlo, hg3⟩
  have q0 : g 0 = false := by
    cases hq : g 0
    · rfl
    · have := (ex_a ((hgv 0).1 hq)).2 rfl
      simp at this
  have q1 : g 1 = true := (hgv 1).2 ex_b
  have o3 : Owns w3 ob [.bool (g 0), .bool (g 1)] 4 := hob
  rw [q0, q1] at o3
  have x0 := o3.cell_at (i := 0) rfl
  have x1 := o3.cell_at (i := 1) rfl
  have HG3 := Lib.hid (HG.out.trans hg3)
  have HN3 := Lib.hid (net13_ok w3)
  clear hgv hob hlo hg3 o3 HC HG q0 q1 hw2
  go_wp2_with fail
  refine HN3.out.mono ?_
  rintro e w4 ⟨m0, m1, m2, m3, m4, rfl, hN, hg4⟩
  obtain ⟨w5, hw5⟩ : ∃ w5, w4.alloc (.cells #[.int .i64 0, .int .i64 1] 3) = w5 := ⟨_, rfl⟩
  have g5 : Grew w4 w5 := hw5 ▸ grew_alloc w4 _
  have o5 : Owns w5 w4.heap.size [.int .i64 0, .int .i64 1] 3 := hw5 ▸ Owns.alloc w4 _ _
  have HC := Lib.hid (show Calls Try.prog 13 #[.agg #[m0, m1, m2, m3, m4], .int .i64 2, .int .i64 0, .slice (some ⟨w4.heap.size, 0, none⟩) 2 2] w5 (AlongAt exN [0, 1] 4 3 w5) from
    along_ok exN exN_small exN_may [0, 1] (by decide) 2 0 (by decide) (by decide) (by decide) w5 m0 m1 m2 m3 m4 (.slice (some ⟨w4.heap.size, 0, none⟩) 2 2) ((hN.keep g5).mono g5.size) (intsV_one rfl o5))
  have HG5 := Lib.hid ((HG3.out.trans hg4).trans g5)
  clear hN hg4 g5 o5 HN3 HG3 x0 x1
  go_wp2_with fail
  refine HC.out.mono ?_
  rintro e w6 ⟨c, rfl, hc, hg6⟩
  have hct : c = true := hc.2 ex_c
  subst hct
  have HG6 := Lib.hid (HG5.out.trans hg6)
  have HN6 := Lib.hid (net13_ok w6)
  clear hc hg6 HC HG5 hw5
  go_wp2_with fail
  refine HN6.out.mono ?_
  rintro e w7 ⟨l0, l1, l2, l3, l4, rfl, hN, hg7⟩
  obtain ⟨w8, hw8⟩ : ∃ w8, w7.alloc (.cells #[.int .i64 1] 3) = w8 := ⟨_, rfl⟩
  have g8 : Grew w7 w8 := hw8 ▸ grew_alloc w7 _
  have o8 : Owns w8 w7.heap.size [.int .i64 1] 3 := hw8 ▸ Owns.alloc w7 _ _
  have HC := Lib.hid (show Calls Try.prog 13 #[.agg #[l0, l1, l2, l3, l4], .int .i64 2, .int .i64 0, .slice (some ⟨w7.heap.size, 0, none⟩) 1 1] w8 (AlongAt exN [1] 4 3 w8) from
    along_ok exN exN_small exN_may [1] (by decide) 2 0 (by decide) (by decide) (by decide) w8 l0 l1 l2 l3 l4 (.slice (some ⟨w7.heap.size, 0, none⟩) 1 1) ((hN.keep g8).mono g8.size) (intsV_one rfl o8))
  have HG8 := Lib.hid ((HG6.out.trans hg7).trans g8)
  clear hN hg7 g8 o8 HN6 HG6
  go_wp2_with fail
  refine HC.out.mono ?_
  rintro e w9 ⟨c, rfl, hc, hg9⟩
  have hcf : c = false := by
    cases c
    · rfl
    · exact absurd (hc.1 rfl) ex_e
  subst hcf
  have HG9 := Lib.hid (HG8.out.trans hg9)
  clear hc hg9 HC HG8 hw8
  go_wp2_with fail
  go_ret
  exact ⟨rfl, HG9.out⟩
end Go.Proofs.Ytgdcnndmdgcjlaa
