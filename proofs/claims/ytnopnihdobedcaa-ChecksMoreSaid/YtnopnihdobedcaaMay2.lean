/- Whether a node may be empty: the function itself. -/
import Derived.Test.YtnopnihdobedcaaMay
namespace Go.Proofs.Ytnopnihdobedcaa
open Go.RowKit

mutual
def Gr.may (g : Gr) (es : List Bool) (token : Bool) : Nd → Bool
  | .mk k nm tx set subs =>
    if k == 1 then Gr.mayAll g es token subs
    else if k == 0 || k == 4 then Gr.mayAny g es token subs
    else if k == 2 || k == 3 || k == 7 then true
    else if k == 8 then tx.toList.isEmpty
    else if k == 5 || k == 6 then decide (0 ≤ g.named token (.mk k nm tx set subs)) && es.getD (g.named token (.mk k nm tx set subs)).toNat false
    else false
def Gr.mayAll (g : Gr) (es : List Bool) (token : Bool) : List Nd → Bool
  | [] => true
  | n :: r => Gr.may g es token n && Gr.mayAll g es token r
def Gr.mayAny (g : Gr) (es : List Bool) (token : Bool) : List Nd → Bool
  | [] => false
  | n :: r => Gr.may g es token n || Gr.mayAny g es token r
end

theorem mayAll_eq (g : Gr) (es : List Bool) (token : Bool) (l : List Nd) : Gr.mayAll g es token l = !l.any (fun n => !g.may es token n) := by
  induction l with
  | nil => simp [Gr.mayAll]
  | cons n r ih => simp [Gr.mayAll, ih]
theorem mayAny_eq (g : Gr) (es : List Bool) (token : Bool) (l : List Nd) : Gr.mayAny g es token l = l.any (fun n => g.may es token n) := by
  induction l with
  | nil => simp [Gr.mayAny]
  | cons n r ih => simp [Gr.mayAny, ih]

theorem named_range (g : Gr) (token : Bool) (n : Nd) : g.named token n = -1 ∨ ∃ j, ∃ _ : j < g.rules.length, g.named token n = (j : Int) := by
  unfold Gr.named
  rcases ixOf_cases g.rules (fun r => sameB r.name n.name) with ⟨hi, _⟩ | ⟨j, hj, hi, _, _⟩
  · change g.find n.name = -1 at hi
    left; simp [hi]
  · change g.find n.name = (j : Int) at hi
    simp only [hi]
    have : ¬ ((j : Int) < 0) := by omega
    simp only [this, if_false]
    split
    · exact .inl rfl
    · split
      · exact .inl rfl
      · exact .inr ⟨j, hj, rfl⟩

set_option maxHeartbeats 4000000 in
set_option maxRecDepth 20000 in
theorem may_ok (g : Gr) (es : List Bool) (token : Bool) (n : Nd) : ∀ (W : World) (ab eb : Nat) (v0 v1 v2 v3 v4 : Value), AskAt W ab eb g es → NodeAt W W.heap.size (some v0) (some v1) (some v2) (some v3) (some v4) n →
    Calls Try.prog 40 #[.pointer (some ⟨ab, 0, none⟩), .bool token, .agg #[v0, v1, v2, v3, v4]] W fun e W' => e = .returned (.bool (g.may es token n)) ∧ Below W.heap.size W W' := by
  induction n using Nd.ind with
  | h k nm tx set subs ih =>
  intro W ab eb v0 v1 v2 v3 v4 hA hN
  have hN' := hN
  rw [NodeAt] at hN
  obtain ⟨hk, h1, h2, h3, h4, h5, ⟨sa, sc, h6, h6', h7⟩, na, nc, h8, h8', h9⟩ := hN
  obtain rfl := Option.some.inj h3
  obtain rfl := Option.some.inj h4
  obtain rfl := Option.some.inj h5
  obtain rfl := Option.some.inj h6
  obtain rfl := Option.some.inj h8
  clear h3 h4 h5 h6 h8 h7
  have hk' : k = 0 ∨ k = 1 ∨ k = 2 ∨ k = 3 ∨ k = 4 ∨ k = 5 ∨ k = 6 ∨ k = 7 ∨ k = 8 ∨ 9 ≤ k := by omega
  have hnr := Lib.hid (named_range g token (.mk k nm tx set subs))
  have hgr : Grew W ((((W.alloc (.cells #[.pointer (some ⟨ab, 0, none⟩)] 87)).alloc (.cells #[.bool token] 4)).alloc (.cells #[.int .u8 k, .string nm, .string tx, .slice sa set.length sc, .slice na subs.length nc] 36)).alloc (.cells #[.func (.func 68) #[] #[.pointer (some ⟨W.heap.size, 0, none⟩), .pointer (some ⟨W.heap.size + 1, 0, none⟩)]] 134)) :=
    (((grew_alloc _ _).trans (grew_alloc _ _)).trans (grew_alloc _ _)).trans (grew_alloc _ _)
  have hmw : ∃ w1, w1 = ((((W.alloc (.cells #[.pointer (some ⟨ab, 0, none⟩)] 87)).alloc (.cells #[.bool token] 4)).alloc (.cells #[.int .u8 k, .string nm, .string tx, .slice sa set.length sc, .slice na subs.length nc] 36)).alloc (.cells #[.func (.func 68) #[] #[.pointer (some ⟨W.heap.size, 0, none⟩), .pointer (some ⟨W.heap.size + 1, 0, none⟩)]] 134)) := ⟨_, rfl⟩
  obtain ⟨w1, hw1⟩ := hmw
  rw [← hw1] at hgr
  have f0 : w1.cell? ⟨W.heap.size, 0, none⟩ = some (.pointer (some ⟨ab, 0, none⟩)) := by rw [hw1]; simp [go_sem]
  have f1 : w1.cell? ⟨W.heap.size + 1, 0, none⟩ = some (.bool token) := by rw [hw1]; simp [go_sem]
  have f3 : w1.cell? ⟨W.heap.size + 1 + 1 + 1, 0, none⟩ = some (.func (.func 68) #[] #[.pointer (some ⟨W.heap.size, 0, none⟩), .pointer (some ⟨W.heap.size + 1, 0, none⟩)]) := by rw [hw1]; simp [go_sem]
  have hA1 := hA.keep hgr
  have hM1 : AskEach 68 #[.pointer (some ⟨W.heap.size, 0, none⟩), .pointer (some ⟨W.heap.size + 1, 0, none⟩)] w1 subs (fun n => g.may es token n) := by
    intro i hi W' u0 u1 u2 u3 u4 hg hn
    exact may1_ok _ token ab _ _ u0 u1 u2 u3 u4 W' (by rw [hg.cells _ _ (lt_of_cell f0)]; exact f0) (by rw [hg.cells _ _ (lt_of_cell f1)]; exact f1)
      (fun W1 h => ih i hi W1 ab eb u0 u1 u2 u3 u4 (hA1.keep (hg.trans h)) ((hn.keep h).mono h.size))
  have hM2 : AskEach 70 #[.pointer (some ⟨W.heap.size + 1 + 1 + 1, 0, none⟩)] w1 subs (fun n => !g.may es token n) := by
    intro i hi W' u0 u1 u2 u3 u4 hg hn
    exact may2_ok _ token ab _ _ _ u0 u1 u2 u3 u4 W' (by rw [hg.cells _ _ (lt_of_cell f0)]; exact f0) (by rw [hg.cells _ _ (lt_of_cell f1)]; exact f1) (by rw [hg.cells _ _ (lt_of_cell f3)]; exact f3)
      (fun W1 h => ih i hi W1 ab eb u0 u1 u2 u3 u4 (hA1.keep (hg.trans h)) ((hn.keep h).mono h.size))
  have hC1 := Lib.hid (contNodes_ok subs _ 68 _ enters68 w1 na nc h8' ((h9.keep hgr).mono hgr.size) hM1)
  have hC2 := Lib.hid (contNodes_ok subs _ 70 _ enters70 w1 na nc h8' ((h9.keep hgr).mono hgr.size) hM2)
  have hNm := Lib.hid (named_ok g es token _ w1 ab eb _ _ _ _ _ hA1 ((hN'.keep hgr).mono hgr.size))
  have HA := Lib.hid hA1
  have HG := Lib.hid hgr
  rw [hw1] at hC1 hC2 hNm HA HG
  clear hgr f0 f1 f3 hA1 hM1 hM2 hN' h9 ih hA hw1 w1
  unfold reachN at h1 h2 h6' h8'
  rcases hk' with rfl | rfl | rfl | rfl | rfl | rfl | rfl | rfl | rfl | hk9
  · go_enter Try.func40, Try.ntmps40
    go_wp2_with (go_at_call 69; refine hC1.out.mono ?_; rintro e w' ⟨rfl, hb2⟩)
    go_ret
    exact ⟨ret_bool (by simp [Gr.may, mayAny_eq]), HG.out.trans hb2⟩
  · go_enter Try.func40, Try.ntmps40
    go_wp2_with (go_at_call 69; refine hC2.out.mono ?_; rintro e w' ⟨rfl, hb2⟩)
    go_ret
    exact ⟨ret_bool (by simp [Gr.may, mayAll_eq]), HG.out.trans hb2⟩
  · go_enter Try.func40, Try.ntmps40
    go_wp2_with fail
    go_ret
    exact ⟨ret_bool (by simp [Gr.may]), HG.out⟩
  · go_enter Try.func40, Try.ntmps40
    go_wp2_with fail
    go_ret
    exact ⟨ret_bool (by simp [Gr.may]), HG.out⟩
  · go_enter Try.func40, Try.ntmps40
    go_wp2_with (go_at_call 69; refine hC1.out.mono ?_; rintro e w' ⟨rfl, hb2⟩)
    go_ret
    exact ⟨ret_bool (by simp [Gr.may, mayAny_eq]), HG.out.trans hb2⟩
  · rcases hnr.out with hi | ⟨j, hj, hi⟩
    · have hfin : Hid (g.may es token (.mk 5 nm tx set subs) = false) := by simp [Hid, Gr.may, hi]
      rw [hi] at hNm
      clear hi hnr HA hC1 hC2
      go_enter Try.func40, Try.ntmps40
      go_wp2_with (go_at_call 67; refine hNm.out.mono ?_; rintro e w' ⟨rfl, hb2⟩; have HB := Lib.hid hb2; clear hb2)
      go_ret
      exact ⟨ret_bool hfin.out.symm, HG.out.trans HB.out⟩
    · obtain ⟨-, ea, el, ec, al, bl, nl⟩ := HA.out
      have hjl : j < es.length := by omega
      have hfin : Hid (g.may es token (.mk 5 nm tx set subs) = es[j]) := by simp [Hid, Gr.may, hi, hjl]
      have ej := ec j hjl
      rw [hi] at hNm
      generalize es[j] = bj at *
      have HL := Lib.hid el
      unfold reachN at nl
      simp at al bl
      clear hi hnr HA hC1 hC2 ec el
      go_enter Try.func40, Try.ntmps40
      go_wp2_with (go_at_call 67; refine hNm.out.mono ?_; rintro e w' ⟨rfl, hb2⟩; have hc := Grew.cells hb2; have HB := Lib.hid hb2; clear hb2)
      go_ret
      exact ⟨ret_bool (by rw [hfin.out]), HG.out.trans HB.out⟩
  · rcases hnr.out with hi | ⟨j, hj, hi⟩
    · have hfin : Hid (g.may es token (.mk 6 nm tx set subs) = false) := by simp [Hid, Gr.may, hi]
      rw [hi] at hNm
      clear hi hnr HA hC1 hC2
      go_enter Try.func40, Try.ntmps40
      go_wp2_with (go_at_call 67; refine hNm.out.mono ?_; rintro e w' ⟨rfl, hb2⟩; have HB := Lib.hid hb2; clear hb2)
      go_ret
      exact ⟨ret_bool hfin.out.symm, HG.out.trans HB.out⟩
    · obtain ⟨-, ea, el, ec, al, bl, nl⟩ := HA.out
      have hjl : j < es.length := by omega
      have hfin : Hid (g.may es token (.mk 6 nm tx set subs) = es[j]) := by simp [Hid, Gr.may, hi, hjl]
      have ej := ec j hjl
      rw [hi] at hNm
      generalize es[j] = bj at *
      have HL := Lib.hid el
      unfold reachN at nl
      simp at al bl
      clear hi hnr HA hC1 hC2 ec el
      go_enter Try.func40, Try.ntmps40
      go_wp2_with (go_at_call 67; refine hNm.out.mono ?_; rintro e w' ⟨rfl, hb2⟩; have hc := Grew.cells hb2; have HB := Lib.hid hb2; clear hb2)
      go_ret
      exact ⟨ret_bool (by rw [hfin.out]), HG.out.trans HB.out⟩
  · go_enter Try.func40, Try.ntmps40
    go_wp2_with fail
    go_ret
    exact ⟨ret_bool (by simp [Gr.may]), HG.out⟩
  · go_enter Try.func40, Try.ntmps40
    go_wp2_with fail
    go_ret
    exact ⟨ret_bool (by simp [Gr.may]), HG.out⟩
  · go_enter Try.func40, Try.ntmps40
    go_wp2_with fail
    go_ret
    have e0 : ∀ c : Int, c ≤ 8 → (k == c) = false := fun c hc => by simp; omega
    exact ⟨ret_bool (by simp only [Gr.may, e0 0 (by omega), e0 1 (by omega), e0 2 (by omega), e0 3 (by omega), e0 4 (by omega), e0 5 (by omega), e0 6 (by omega), e0 7 (by omega), e0 8 (by omega)]; rfl), HG.out⟩
end Go.Proofs.Ytnopnihdobedcaa
