/- checks.parser, names, sorted, Start: what they answer. -/
import Derived.Test.YtnopnihdobedcaaCheckLaw
import Derived.Test.YtnopnihdobedcaaFind
namespace Go.Proofs.Ytnopnihdobedcaa
open Go.RowKit

theorem parser_ok (r : Rl) (W : World) (v0 v1 v2 v3 v4 v5 v6 v7 v8 v9 : Value) (hR : v1 = .int .u8 r.sort) :
    Calls Try.prog 43 #[.agg #[v0, v1, v2, v3, v4, v5, v6, v7, v8, v9]] W fun e W' => e = .returned (.bool r.parser) ∧ Below W.heap.size W W' := by
  subst hR
  go_enter Try.func43, Try.ntmps43
  go_wp2
  go_ret
  exact ⟨rfl, (Below.refl _ _).alloc (Nat.le_refl _) _⟩

theorem names_ok (n : Nd) (W : World) (v0 v1 v2 v3 v4 : Value) (h : v0 = .int .u8 n.kind) :
    Calls Try.prog 72 #[.agg #[v0, v1, v2, v3, v4]] W fun e W' => e = .returned (.bool n.isName) ∧ Below W.heap.size W W' := by
  subst h
  unfold Nd.isName
  by_cases h5 : n.kind = 5
  · rw [h5]
    go_enter Try.func72, Try.ntmps72
    go_wp2
    go_ret
    exact ⟨rfl, (Below.refl _ _).alloc (Nat.le_refl _) _⟩
  · have e5 : (n.kind == 5) = false := beq_eq_false_iff_ne.2 h5
    go_enter Try.func72, Try.ntmps72
    go_wp2
    go_ret
    exact ⟨by rw [e5]; first | rfl | simp, (Below.refl _ _).alloc (Nat.le_refl _) _⟩

theorem enters_parser : Enters 43 := fun _ _ => by kernel_rfl

theorem start_ok (g : Gr) (W : World) (v0 v1 v2 v3 : Value) (hG : GrAt W W.heap.size (some v0) (some v1) (some v2) (some v3) g) :
    Calls Try.prog 19 #[.agg #[v0, v1, v2, v3]] W fun e W' => e = .returned (.int .i64 g.start) ∧ Below W.heap.size W W' := by
  obtain ⟨h1, hs, h2, h3, h4, h5, ra, rc, h6, h7, h8⟩ := hG
  obtain rfl := Option.some.inj h1
  obtain rfl := Option.some.inj h2
  obtain rfl := Option.some.inj h3
  obtain rfl := Option.some.inj h6
  clear h1 h2 h3 h4 h5 h6
  have hB : Below W.heap.size W (W.alloc (.cells #[.string g.name, .int .i64 g.bound, .int .i64 g.states, .slice ra g.rules.length rc] 26)) := (Below.refl _ _).alloc (Nat.le_refl _) _
  have hS := Lib.hid (indexRules_ok g.rules (fun r => r.parser) 43 #[] enters_parser _ ra rc h7 ((h8.keep hB).mono hB.size)
    (fun i hi W' v0 v1 v2 v3 v4 v5 v6 v7 v8 v9 hb hr => by
      obtain ⟨_, _, _, _, _, _, e1, _⟩ := hr.vals
      exact parser_ok _ W' _ _ _ _ _ _ _ _ _ _ (Option.some.inj e1)))
  have HB := Lib.hid hB
  clear hB h8
  unfold reachN at h7 hs
  go_enter Try.func19, Try.ntmps19
  go_wp2_with (go_at_call 41; refine hS.out.mono ?_; rintro e w' ⟨rfl, hb2⟩)
  go_ret
  exact ⟨rfl, HB.out.trans (hb2.mono (by simp))⟩

set_option maxRecDepth 20000 in
theorem sorted_ok (r : Rl) (n : Nd) (o : Int) (W : World) (v0 v1 v2 v3 v4 v5 v6 v7 v8 v9 u0 u1 u2 u3 u4 : Value) (hR : v1 = .int .u8 r.sort) (hN : u0 = .int .u8 n.kind) :
    Calls Try.prog 76 #[.agg #[v0, v1, v2, v3, v4, v5, v6, v7, v8, v9], .agg #[u0, u1, u2, u3, u4], .int .u8 o] W fun e W' => e = .returned (.bool (sortedB r n o)) ∧ Below W.heap.size W W' := by
  subst hN
  have HP := Lib.hid (fun w => parser_ok r w v0 v1 v2 v3 v4 v5 v6 v7 v8 v9 hR)
  clear hR
  unfold sortedB
  generalize r.parser = p at *
  by_cases h5 : n.kind = 5
  · rw [h5]
    cases p
    · go_enter Try.func76, Try.ntmps76
      go_wp2_with fail
      refine (HP.out _).mono ?_
      rintro e w1 ⟨rfl, hb1⟩
      go_wp2_with fail
      go_ret
      have s1 := hb1.size
      exact ⟨rfl, (((Below.refl W.heap.size W).alloc (Nat.le_refl _) _).alloc (by simp) _).trans (hb1.mono (by simp; omega))⟩
    · go_enter Try.func76, Try.ntmps76
      go_wp2_with fail
      refine (HP.out _).mono ?_
      rintro e w1 ⟨rfl, hb1⟩
      go_wp2_with fail
      go_ret
      have s1 := hb1.size
      exact ⟨rfl, (((Below.refl W.heap.size W).alloc (Nat.le_refl _) _).alloc (by simp) _).trans (hb1.mono (by simp; omega))⟩
  · rw [show (n.kind == 5) = false from beq_eq_false_iff_ne.2 h5]
    cases p
    · go_enter Try.func76, Try.ntmps76
      go_wp2_with fail
      refine (HP.out _).mono ?_
      rintro e w1 ⟨rfl, hb1⟩
      go_wp2_with fail
      go_ret
      have s1 := hb1.size
      exact ⟨rfl, (((Below.refl W.heap.size W).alloc (Nat.le_refl _) _).alloc (by simp) _).trans (hb1.mono (by simp; omega))⟩
    · go_enter Try.func76, Try.ntmps76
      go_wp2_with fail
      refine (HP.out _).mono ?_
      rintro e w1 ⟨rfl, hb1⟩
      go_wp2_with fail
      go_ret
      have s1 := hb1.size
      exact ⟨rfl, (((Below.refl W.heap.size W).alloc (Nat.le_refl _) _).alloc (by simp) _).trans (hb1.mono (by simp; omega))⟩
end Go.Proofs.Ytnopnihdobedcaa
