/- Whether a node may be empty. -/
import Derived.Laws.EntriesVeiled
import Derived.Test.YtkinlcichclnkaaDoorQT8
import Derived.Test.YtkinlcichclnkaaDoorQT3
namespace Go.Proofs.YtkinlcichclnkaaDoor
open Go.RowKit

theorem enters72 : Enters 72 := fun _ _ => by kernel_rfl
theorem enters74 : Enters 74 := fun _ _ => by kernel_rfl

theorem ixOf_any {α : Type} (l : List α) (q : α → Bool) : decide (0 ≤ ixOf l q) = l.any q := by
  rcases ixOf_cases l q with ⟨h, hn⟩ | ⟨j, hj, h, hq, _⟩
  · rw [h]
    symm
    have : l.any q = false := by
      rw [List.any_eq_false]
      intro x hx
      obtain ⟨i, hi, rfl⟩ := List.mem_iff_getElem.1 hx
      simp [hn i hi]
    rw [this]; rfl
  · rw [h]
    have : l.any q = true := List.any_eq_true.2 ⟨l[j], List.getElem_mem hj, hq⟩
    rw [this]
    simp

/-- what is asked of each element -/
def AskEach (F : Nat) (cp : Array Value) (W : World) (l : List Nd) (q : Nd → Bool) : Prop :=
  ∀ (i : Nat) (hi : i < l.length) (W' : World) (v0 v1 v2 v3 v4 : Value), Grew W W' → NodeAt W' W'.heap.size (some v0) (some v1) (some v2) (some v3) (some v4) l[i] →
      Calls Tryd.prog F (#[.agg #[v0, v1, v2, v3, v4]] ++ cp) W' fun e W2 => e = .returned (.bool (q l[i])) ∧ Below W'.heap.size W' W2

set_option maxHeartbeats 1000000 in
set_option maxRecDepth 20000 in
theorem indexNodes_ok (l : List Nd) (q : Nd → Bool) (F : Nat) (cp : Array Value) (hF : Enters F) (W : World) (a : Option Addr) (cap : Nat) (hl : l.length ≤ reachN) (hR : NodesAt W W.heap.size a 0 l) (HF : AskEach F cp W l q) :
    Calls Tryd.prog 76 #[.slice a l.length cap, .func (.func F) #[] cp] W fun e W' => e = .returned (.int .i64 (ixOf l q)) ∧ Below W.heap.size W W' := by
  unfold reachN at hl
  go_enter Tryd.func76, Tryd.ntmps76
  go_wp2
  go_loopw [8] (fun i wr => ∃ (j : Nat), i = .int .i64 j ∧ j ≤ l.length ∧ Hid (NoneTo l q j) ∧ Below W.heap.size W wr) (fun i _ => l.length - (intOf i).toNat)
  case atStart =>
    exact ⟨0, rfl, by omega, fun i hi h => absurd h (by omega), Below.refl _ _⟩
  case round =>
    obtain ⟨j, rfl, hj, hf, hbw⟩ := hrel
    by_cases hlt : j < l.length
    · obtain ⟨b, off, rfl, hb, hnode⟩ := (hR.keep hbw).get hlt
      simp only [Nat.zero_add] at hnode
      obtain ⟨u0, u1, u2, u3, u4, e0, e1, e2, e3, e4, hnode⟩ := hnode.vals
      have HS := Lib.hid (HF j hlt wr _ _ _ _ _ hbw (hnode.mono hbw.size))
      clear hnode hR HF
      have hFx := hF
      unfold Enters at hFx
      clear hF
      obtain ⟨t, ht⟩ : ∃ t, t = q l[j] := ⟨_, rfl⟩
      rw [← ht] at HS
      have HQ := Lib.hid ht
      clear ht
      cases t
      · go_wp2_with (refine HS.out.mono ?_; rintro e w2 ⟨rfl, hb2⟩)
        exact ⟨⟨j + 1, by go_num, by omega, noneTo_next hf.out hlt HQ.out.symm, hbw.trans (hb2.mono hbw.size)⟩, by simp [intOf]; omega⟩
      · go_wp2_with (refine HS.out.mono ?_; rintro e w2 ⟨rfl, hb2⟩)
        go_ret
        exact ⟨ret_int (ixOf_at hlt hf.out HQ.out.symm).symm, hbw.trans (hb2.mono hbw.size)⟩
    · go_wp2_with fail
      go_ret
      exact ⟨ret_int (ixOf_none fun i hi => hf.out i hi (by omega)).symm, hbw⟩

theorem contNodes_ok (l : List Nd) (q : Nd → Bool) (F : Nat) (cp : Array Value) (hF : Enters F) (W : World) (a : Option Addr) (cap : Nat) (hl : l.length ≤ reachN) (hR : NodesAt W W.heap.size a 0 l) (HF : AskEach F cp W l q) :
    Calls Tryd.prog 73 #[.slice a l.length cap, .func (.func F) #[] cp] W fun e W' => e = .returned (.bool (l.any q)) ∧ Below W.heap.size W W' := by
  have hS := Lib.hid (indexNodes_ok l q F cp hF W a cap hl hR HF)
  clear HF hR hF
  go_enter Tryd.func73, Tryd.ntmps73
  go_wp2_with (go_at_call 76; refine hS.out.mono ?_; rintro e w' ⟨rfl, hb2⟩)
  go_ret
  exact ⟨ret_bool (ixOf_any l q), hb2⟩

theorem lt_of_cell {W : World} {b o : Nat} {v : Value} (h : W.cell? ⟨b, o, none⟩ = some v) : b < W.heap.size := by
  rcases Nat.lt_or_ge b W.heap.size with h' | h'
  · exact h'
  · simp [World.cell?, Array.getElem?_eq_none h'] at h

theorem may1_ok (r token : Bool) (ab pa pt : Nat) (v0 v1 v2 v3 v4 : Value) (W : World) (ha : W.cell? ⟨pa, 0, none⟩ = some (.pointer (some ⟨ab, 0, none⟩))) (ht : W.cell? ⟨pt, 0, none⟩ = some (.bool token))
    (H : ∀ W1, Grew W W1 → Calls Tryd.prog 68 #[.pointer (some ⟨ab, 0, none⟩), .bool token, .agg #[v0, v1, v2, v3, v4]] W1 fun e W2 => e = .returned (.bool r) ∧ Below W1.heap.size W1 W2) :
    Calls Tryd.prog 72 (#[.agg #[v0, v1, v2, v3, v4]] ++ #[.pointer (some ⟨pa, 0, none⟩), .pointer (some ⟨pt, 0, none⟩)]) W fun e W2 => e = .returned (.bool r) ∧ Below W.heap.size W W2 := by
  have hgr := grew_alloc W (.cells #[v0, v1, v2, v3, v4] 34)
  have hl := lt_of_cell ha
  have hl2 := lt_of_cell ht
  have hS := Lib.hid (H _ hgr)
  clear H
  simp only [List.append_toArray, List.cons_append, List.nil_append]
  go_enter Tryd.func72, Tryd.ntmps72
  go_wp2_with (go_at_call 68; refine hS.out.mono ?_; rintro e w' ⟨rfl, hb2⟩)
  go_ret
  exact ⟨rfl, hgr.trans hb2⟩

theorem may2_ok (r token : Bool) (ab pa pt ps : Nat) (v0 v1 v2 v3 v4 : Value) (W : World) (ha : W.cell? ⟨pa, 0, none⟩ = some (.pointer (some ⟨ab, 0, none⟩))) (ht : W.cell? ⟨pt, 0, none⟩ = some (.bool token))
    (hs : W.cell? ⟨ps, 0, none⟩ = some (.func (.func 72) #[] #[.pointer (some ⟨pa, 0, none⟩), .pointer (some ⟨pt, 0, none⟩)]))
    (H : ∀ W1, Grew W W1 → Calls Tryd.prog 68 #[.pointer (some ⟨ab, 0, none⟩), .bool token, .agg #[v0, v1, v2, v3, v4]] W1 fun e W2 => e = .returned (.bool r) ∧ Below W1.heap.size W1 W2) :
    Calls Tryd.prog 74 (#[.agg #[v0, v1, v2, v3, v4]] ++ #[.pointer (some ⟨ps, 0, none⟩)]) W fun e W2 => e = .returned (.bool !r) ∧ Below W.heap.size W W2 := by
  have hgr := grew_alloc W (.cells #[v0, v1, v2, v3, v4] 34)
  have hl := lt_of_cell ha
  have hl2 := lt_of_cell ht
  have hl3 := lt_of_cell hs
  have hS := Lib.hid (may1_ok r token ab pa pt v0 v1 v2 v3 v4 _ (by rw [hgr.cells _ _ hl]; exact ha) (by rw [hgr.cells _ _ hl2]; exact ht) (fun W1 h => H W1 (hgr.trans h)))
  clear H ha ht
  simp only [List.append_toArray, List.cons_append, List.nil_append]
  go_enter Tryd.func74, Tryd.ntmps74
  go_wp2_with (go_at_call 72; refine hS.out.mono ?_; rintro e w' ⟨rfl, hb2⟩)
  go_ret
  exact ⟨rfl, hgr.trans hb2⟩
end Go.Proofs.YtkinlcichclnkaaDoor

/- Whether a node may be empty: the function itself. -/
namespace Go.Proofs.YtkinlcichclnkaaDoor
open Go.RowKit

mutual
def Gr.may (g : Gr) (es : List Bool) (token : Bool) : Nd → Bool
  | .mk k nm tx set subs =>
    if k == 1 then Gr.mayAll g es token subs
    else if k == 0 || k == 4 then Gr.mayAny g es token subs
    else if k == 2 || k == 3 || k == 7 then true
    else if k == 8 then tx.toList.isEmpty
    else if k == 5 || k == 6 then decide (0 ≤ g.named token (.mk k nm tx set subs)) && es.getD (g.named token (.mk k nm tx set subs)).toNat false
    else false
def Gr.mayAll (g : Gr) (es : List Bool) (token : Bool) : List Nd → Bool
  | [] => true
  | n :: r => Gr.may g es token n && Gr.mayAll g es token r
def Gr.mayAny (g : Gr) (es : List Bool) (token : Bool) : List Nd → Bool
  | [] => false
  | n :: r => Gr.may g es token n || Gr.mayAny g es token r
end

theorem mayAll_eq (g : Gr) (es : List Bool) (token : Bool) (l : List Nd) : Gr.mayAll g es token l = !l.any (fun n => !g.may es token n) := by
  induction l with
  | nil => simp [Gr.mayAll]
  | cons n r ih => simp [Gr.mayAll, ih]
theorem mayAny_eq (g : Gr) (es : List Bool) (token : Bool) (l : List Nd) : Gr.mayAny g es token l = l.any (fun n => g.may es token n) := by
  induction l with
  | nil => simp [Gr.mayAny]
  | cons n r ih => simp [Gr.mayAny, ih]

theorem named_range (g : Gr) (token : Bool) (n : Nd) : g.named token n = -1 ∨ ∃ j, ∃ _ : j < g.rules.length, g.named token n = (j : Int) := by
  unfold Gr.named
  rcases ixOf_cases g.rules (fun r => sameB r.name n.name) with ⟨hi, _⟩ | ⟨j, hj, hi, _, _⟩
  · change g.find n.name = -1 at hi
    left; simp [hi]
  · change g.find n.name = (j : Int) at hi
    simp only [hi]
    have : ¬ ((j : Int) < 0) := by omega
    simp only [this, if_false]
    split
    · exact .inl rfl
    · split
      · exact .inl rfl
      · exact .inr ⟨j, hj, rfl⟩

set_option maxHeartbeats 4000000 in
set_option maxRecDepth 20000 in
theorem may_ok (g : Gr) (es : List Bool) (token : Bool) (n : Nd) : ∀ (W : World) (ab eb : Nat) (v0 v1 v2 v3 v4 : Value), AskAt W ab eb g es → NodeAt W W.heap.size (some v0) (some v1) (some v2) (some v3) (some v4) n →
    Calls Tryd.prog 68 #[.pointer (some ⟨ab, 0, none⟩), .bool token, .agg #[v0, v1, v2, v3, v4]] W fun e W' => e = .returned (.bool (g.may es token n)) ∧ Below W.heap.size W W' := by
  induction n using Nd.ind with
  | h k nm tx set subs ih =>
  intro W ab eb v0 v1 v2 v3 v4 hA hN
  have hN' := hN
  rw [NodeAt] at hN
  obtain ⟨hk, h1, h2, h3, h4, h5, ⟨sa, sc, h6, h6', h7⟩, na, nc, h8, h8', h9⟩ := hN
  obtain rfl := Option.some.inj h3
  obtain rfl := Option.some.inj h4
  obtain rfl := Option.some.inj h5
  obtain rfl := Option.some.inj h6
  obtain rfl := Option.some.inj h8
  clear h3 h4 h5 h6 h8 h7
  have hk' : k = 0 ∨ k = 1 ∨ k = 2 ∨ k = 3 ∨ k = 4 ∨ k = 5 ∨ k = 6 ∨ k = 7 ∨ k = 8 ∨ 9 ≤ k := by omega
  have hnr := Lib.hid (named_range g token (.mk k nm tx set subs))
  have hgr : Grew W ((((W.alloc (.cells #[.pointer (some ⟨ab, 0, none⟩)] 120)).alloc (.cells #[.bool token] 4)).alloc (.cells #[.int .u8 k, .string nm, .string tx, .slice sa set.length sc, .slice na subs.length nc] 34)).alloc (.cells #[.func (.func 72) #[] #[.pointer (some ⟨W.heap.size, 0, none⟩), .pointer (some ⟨W.heap.size + 1, 0, none⟩)]] 51)) :=
    (((grew_alloc _ _).trans (grew_alloc _ _)).trans (grew_alloc _ _)).trans (grew_alloc _ _)
  have hmw : ∃ w1, w1 = ((((W.alloc (.cells #[.pointer (some ⟨ab, 0, none⟩)] 120)).alloc (.cells #[.bool token] 4)).alloc (.cells #[.int .u8 k, .string nm, .string tx, .slice sa set.length sc, .slice na subs.length nc] 34)).alloc (.cells #[.func (.func 72) #[] #[.pointer (some ⟨W.heap.size, 0, none⟩), .pointer (some ⟨W.heap.size + 1, 0, none⟩)]] 51)) := ⟨_, rfl⟩
  obtain ⟨w1, hw1⟩ := hmw
  rw [← hw1] at hgr
  have f0 : w1.cell? ⟨W.heap.size, 0, none⟩ = some (.pointer (some ⟨ab, 0, none⟩)) := by rw [hw1]; simp [go_sem]
  have f1 : w1.cell? ⟨W.heap.size + 1, 0, none⟩ = some (.bool token) := by rw [hw1]; simp [go_sem]
  have f3 : w1.cell? ⟨W.heap.size + 1 + 1 + 1, 0, none⟩ = some (.func (.func 72) #[] #[.pointer (some ⟨W.heap.size, 0, none⟩), .pointer (some ⟨W.heap.size + 1, 0, none⟩)]) := by rw [hw1]; simp [go_sem]
  have hA1 := hA.keep hgr
  have hM1 : AskEach 72 #[.pointer (some ⟨W.heap.size, 0, none⟩), .pointer (some ⟨W.heap.size + 1, 0, none⟩)] w1 subs (fun n => g.may es token n) := by
    intro i hi W' u0 u1 u2 u3 u4 hg hn
    exact may1_ok _ token ab _ _ u0 u1 u2 u3 u4 W' (by rw [hg.cells _ _ (lt_of_cell f0)]; exact f0) (by rw [hg.cells _ _ (lt_of_cell f1)]; exact f1)
      (fun W1 h => ih i hi W1 ab eb u0 u1 u2 u3 u4 (hA1.keep (hg.trans h)) ((hn.keep h).mono h.size))
  have hM2 : AskEach 74 #[.pointer (some ⟨W.heap.size + 1 + 1 + 1, 0, none⟩)] w1 subs (fun n => !g.may es token n) := by
    intro i hi W' u0 u1 u2 u3 u4 hg hn
    exact may2_ok _ token ab _ _ _ u0 u1 u2 u3 u4 W' (by rw [hg.cells _ _ (lt_of_cell f0)]; exact f0) (by rw [hg.cells _ _ (lt_of_cell f1)]; exact f1) (by rw [hg.cells _ _ (lt_of_cell f3)]; exact f3)
      (fun W1 h => ih i hi W1 ab eb u0 u1 u2 u3 u4 (hA1.keep (hg.trans h)) ((hn.keep h).mono h.size))
  have hC1 := Lib.hid (contNodes_ok subs _ 72 _ enters72 w1 na nc (Nat.le_trans h8' (Nat.min_le_left _ _)) ((h9.keep hgr).mono hgr.size) hM1)
  have hC2 := Lib.hid (contNodes_ok subs _ 74 _ enters74 w1 na nc (Nat.le_trans h8' (Nat.min_le_left _ _)) ((h9.keep hgr).mono hgr.size) hM2)
  have hNm := Lib.hid (named_ok g es token _ w1 ab eb _ _ _ _ _ hA1 ((hN'.keep hgr).mono hgr.size))
  have HA := Lib.hid hA1
  have HG := Lib.hid hgr
  rw [hw1] at hC1 hC2 hNm HA HG
  clear hgr f0 f1 f3 hA1 hM1 hM2 hN' h9 ih hA hw1 w1
  unfold reachN at h1 h2 h6' h8'
  rcases hk' with rfl | rfl | rfl | rfl | rfl | rfl | rfl | rfl | rfl | hk9
  · go_enter Tryd.func68, Tryd.ntmps68
    go_wp2_with (go_at_call 73; refine hC1.out.mono ?_; rintro e w' ⟨rfl, hb2⟩)
    go_ret
    exact ⟨ret_bool (by simp [Gr.may, mayAny_eq]), HG.out.trans hb2⟩
  · go_enter Tryd.func68, Tryd.ntmps68
    go_wp2_with (go_at_call 73; refine hC2.out.mono ?_; rintro e w' ⟨rfl, hb2⟩)
    go_ret
    exact ⟨ret_bool (by simp [Gr.may, mayAll_eq]), HG.out.trans hb2⟩
  · go_enter Tryd.func68, Tryd.ntmps68
    go_wp2_with fail
    go_ret
    exact ⟨ret_bool (by simp [Gr.may]), HG.out⟩
  · go_enter Tryd.func68, Tryd.ntmps68
    go_wp2_with fail
    go_ret
    exact ⟨ret_bool (by simp [Gr.may]), HG.out⟩
  · go_enter Tryd.func68, Tryd.ntmps68
    go_wp2_with (go_at_call 73; refine hC1.out.mono ?_; rintro e w' ⟨rfl, hb2⟩)
    go_ret
    exact ⟨ret_bool (by simp [Gr.may, mayAny_eq]), HG.out.trans hb2⟩
  · rcases hnr.out with hi | ⟨j, hj, hi⟩
    · have hfin : Hid (g.may es token (.mk 5 nm tx set subs) = false) := by simp [Hid, Gr.may, hi]
      rw [hi] at hNm
      clear hi hnr HA hC1 hC2
      go_enter Tryd.func68, Tryd.ntmps68
      go_wp2_with (go_at_call 69; refine hNm.out.mono ?_; rintro e w' ⟨rfl, hb2⟩; have HB := Lib.hid hb2; clear hb2)
      go_ret
      exact ⟨ret_bool hfin.out.symm, HG.out.trans HB.out⟩
    · obtain ⟨-, ea, el, ec, al, bl, nl⟩ := HA.out
      have hjl : j < es.length := by omega
      have hfin : Hid (g.may es token (.mk 5 nm tx set subs) = es[j]) := by simp [Hid, Gr.may, hi, hjl]
      have ej := ec j hjl
      rw [hi] at hNm
      generalize es[j] = bj at *
      have HL := Lib.hid el
      unfold reachN at nl
      simp at al bl
      clear hi hnr HA hC1 hC2 ec el
      go_enter Tryd.func68, Tryd.ntmps68
      go_wp2_with (go_at_call 69; refine hNm.out.mono ?_; rintro e w' ⟨rfl, hb2⟩; have hc := Grew.cells hb2; have HB := Lib.hid hb2; clear hb2)
      go_ret
      exact ⟨ret_bool (by rw [hfin.out]), HG.out.trans HB.out⟩
  · rcases hnr.out with hi | ⟨j, hj, hi⟩
    · have hfin : Hid (g.may es token (.mk 6 nm tx set subs) = false) := by simp [Hid, Gr.may, hi]
      rw [hi] at hNm
      clear hi hnr HA hC1 hC2
      go_enter Tryd.func68, Tryd.ntmps68
      go_wp2_with (go_at_call 69; refine hNm.out.mono ?_; rintro e w' ⟨rfl, hb2⟩; have HB := Lib.hid hb2; clear hb2)
      go_ret
      exact ⟨ret_bool hfin.out.symm, HG.out.trans HB.out⟩
    · obtain ⟨-, ea, el, ec, al, bl, nl⟩ := HA.out
      have hjl : j < es.length := by omega
      have hfin : Hid (g.may es token (.mk 6 nm tx set subs) = es[j]) := by simp [Hid, Gr.may, hi, hjl]
      have ej := ec j hjl
      rw [hi] at hNm
      generalize es[j] = bj at *
      have HL := Lib.hid el
      unfold reachN at nl
      simp at al bl
      clear hi hnr HA hC1 hC2 ec el
      go_enter Tryd.func68, Tryd.ntmps68
      go_wp2_with (go_at_call 69; refine hNm.out.mono ?_; rintro e w' ⟨rfl, hb2⟩; have hc := Grew.cells hb2; have HB := Lib.hid hb2; clear hb2)
      go_ret
      exact ⟨ret_bool (by rw [hfin.out]), HG.out.trans HB.out⟩
  · go_enter Tryd.func68, Tryd.ntmps68
    go_wp2_with fail
    go_ret
    exact ⟨ret_bool (by simp [Gr.may]), HG.out⟩
  · go_enter Tryd.func68, Tryd.ntmps68
    go_wp2_with fail
    go_ret
    exact ⟨ret_bool (by simp [Gr.may]), HG.out⟩
  · go_enter Tryd.func68, Tryd.ntmps68
    go_wp2_with fail
    go_ret
    have e0 : ∀ c : Int, c ≤ 8 → (k == c) = false := fun c hc => by simp; omega
    exact ⟨ret_bool (by simp only [Gr.may, e0 0 (by omega), e0 1 (by omega), e0 2 (by omega), e0 3 (by omega), e0 4 (by omega), e0 5 (by omega), e0 6 (by omega), e0 7 (by omega), e0 8 (by omega)]; rfl), HG.out⟩
end Go.Proofs.YtkinlcichclnkaaDoor

/- nulls.token: what takes a token at once. -/
namespace Go.Proofs.YtkinlcichclnkaaDoor
open Go.RowKit
/-- is it a token's rule? -/
def Rl.token (r : Rl) : Bool := !(r.sort == 0)

theorem token_ok (r : Rl) (W : World) (v0 v1 v2 v3 v4 v5 v6 v7 v8 v9 : Value) (hR : v1 = .int .u8 r.sort) :
    Calls Tryd.prog 57 #[.agg #[v0, v1, v2, v3, v4, v5, v6, v7, v8, v9]] W fun e W2 => e = .returned (.bool r.token) ∧ Below W.heap.size W W2 := by
  subst hR
  go_enter Tryd.func57, Tryd.ntmps57
  go_wp2
  go_ret
  exact ⟨rfl, (Below.refl _ _).alloc (Nat.le_refl _) _⟩
end Go.Proofs.YtkinlcichclnkaaDoor

/- Which rules may be empty: the fewest of which it holds. No program in sight. -/
namespace Go.Proofs.YtkinlcichclnkaaDoor
open Go.RowKit

/-- what is told of each rule holds of those, too -/
def Leq (es fs : List Bool) : Prop := ∀ i : Nat, es.getD i false = true → fs.getD i false = true
/-- a rule whose body may be empty is told -/
def Gr.Pre (g : Gr) (fs : List Bool) : Prop := ∀ i (h : i < g.rules.length), g.may fs g.rules[i].token g.rules[i].body = true → fs.getD i false = true
/-- told, and needed -/
def Gr.Sound (g : Gr) (es : List Bool) : Prop := es.length = g.rules.length ∧ ∀ fs, g.Pre fs → Leq es fs
structure Gr.IsEmpty (g : Gr) (es : List Bool) : Prop where
  sound : g.Sound es
  pre : g.Pre es

mutual
theorem may_mono {g : Gr} {es fs : List Bool} (h : Leq es fs) (token : Bool) : ∀ n : Nd, g.may es token n = true → g.may fs token n = true
  | .mk k nm tx set subs => by
    have h1 := mayAll_mono (g := g) h token subs
    have h2 := mayAny_mono (g := g) h token subs
    rw [Gr.may, Gr.may]
    split
    · exact h1
    · split
      · exact h2
      · split
        · exact id
        · split
          · exact id
          · split
            · intro h3
              simp only [Bool.and_eq_true] at h3 ⊢
              exact ⟨h3.1, h _ h3.2⟩
            · exact id
theorem mayAll_mono {g : Gr} {es fs : List Bool} (h : Leq es fs) (token : Bool) : ∀ l : List Nd, g.mayAll es token l = true → g.mayAll fs token l = true
  | [] => by simp [Gr.mayAll]
  | n :: r => by
    have h1 := may_mono (g := g) h token n
    have h2 := mayAll_mono (g := g) h token r
    simp only [Gr.mayAll, Bool.and_eq_true]
    exact fun h3 => ⟨h1 h3.1, h2 h3.2⟩
theorem mayAny_mono {g : Gr} {es fs : List Bool} (h : Leq es fs) (token : Bool) : ∀ l : List Nd, g.mayAny es token l = true → g.mayAny fs token l = true
  | [] => by simp [Gr.mayAny]
  | n :: r => by
    have h1 := may_mono (g := g) h token n
    have h2 := mayAny_mono (g := g) h token r
    simp only [Gr.mayAny, Bool.or_eq_true]
    exact fun h3 => h3.imp h1 h2
end

theorem Gr.Sound.next {g : Gr} {es : List Bool} (h : g.Sound es) {i : Nat} (hi : i < g.rules.length) (hm : g.may es g.rules[i].token g.rules[i].body = true) : g.Sound (es.set i true) := by
  refine ⟨by simp [h.1], fun fs hfs j hj => ?_⟩
  by_cases e : i = j
  · subst e
    exact hfs i hi (may_mono (h.2 fs hfs) _ _ hm)
  · apply h.2 fs hfs j
    simpa [List.getD_eq_getElem?_getD, List.getElem?_set_ne e] using hj
theorem Gr.Sound.start (g : Gr) : g.Sound (List.replicate g.rules.length false) := by
  refine ⟨by simp, fun fs _ j hj => ?_⟩
  rw [List.getD_eq_getElem?_getD, List.getElem?_replicate] at hj
  split at hj <;> simp at hj

theorem Gr.IsEmpty.unique {g : Gr} {es fs : List Bool} (h : g.IsEmpty es) (k : g.IsEmpty fs) : es = fs := by
  apply List.ext_getElem (by rw [h.sound.1, k.sound.1])
  intro i h1 h2
  have a := h.sound.2 fs k.pre i
  have b := k.sound.2 es h.pre i
  simp only [List.getD_eq_getElem?_getD, List.getElem?_eq_getElem h1, List.getElem?_eq_getElem h2, Option.getD_some] at a b
  cases hx : es[i] <;> cases hy : fs[i] <;> simp_all

/-- how many are not told -/
def falses (es : List Bool) : Nat := (es.filter fun b => !b).length
theorem falses_set (es : List Bool) (i : Nat) (h : i < es.length) (hf : es[i] = false) : falses (es.set i true) + 1 = falses es := by
  induction es generalizing i with
  | nil => simp at h
  | cons b r ih =>
    cases i with
    | zero => simp at hf; subst hf; simp [falses]
    | succ i =>
      have := ih i (by simpa using h) (by simpa using hf)
      simp only [List.set_cons_succ, falses, List.filter_cons] at *
      split <;> simp_all

/-- a sweep, as far as j: from es0 on -/
def SweepTo (g : Gr) (es0 es : List Bool) (c : Bool) (j : Nat) : Prop :=
  g.Sound es ∧ (c = true → falses es < falses es0) ∧ (c = false → es = es0 ∧ ∀ i (h : i < g.rules.length), i < j → g.may es g.rules[i].token g.rules[i].body = true → es.getD i false = true)
theorem SweepTo.start {g : Gr} {es : List Bool} (h : g.Sound es) : SweepTo g es es false 0 := ⟨h, by simp, fun _ => ⟨rfl, fun i _ h => absurd h (by omega)⟩⟩
theorem SweepTo.keep {g : Gr} {es0 es : List Bool} {c : Bool} {j : Nat} (h : SweepTo g es0 es c j) (hj : j < g.rules.length) (hk : es.getD j false = true ∨ g.may es g.rules[j].token g.rules[j].body = false) : SweepTo g es0 es c (j + 1) := by
  refine ⟨h.1, h.2.1, fun hc => ⟨(h.2.2 hc).1, fun i hi hlt hm => ?_⟩⟩
  by_cases e : i = j
  · subst e
    rcases hk with hk | hk
    · exact hk
    · rw [hk] at hm; cases hm
  · exact (h.2.2 hc).2 i hi (by omega) hm
theorem SweepTo.grow {g : Gr} {es0 es : List Bool} {c : Bool} {j : Nat} (h : SweepTo g es0 es c j) (hj : j < g.rules.length) (hf : es.getD j false = false) (hm : g.may es g.rules[j].token g.rules[j].body = true) : SweepTo g es0 (es.set j true) true (j + 1) := by
  have hl : j < es.length := by rw [h.1.1]; exact hj
  have hf' : es[j] = false := by simpa [List.getD_eq_getElem?_getD, List.getElem?_eq_getElem hl] using hf
  refine ⟨h.1.next hj hm, fun _ => ?_, by simp⟩
  have h1 := falses_set es j hl hf'
  cases c with
  | true => have := h.2.1 rfl; omega
  | false => have := (h.2.2 rfl).1; subst this; omega
theorem SweepTo.done {g : Gr} {es0 es : List Bool} (h : SweepTo g es0 es false g.rules.length) : g.IsEmpty es := ⟨h.1, fun i hi hm => (h.2.2 rfl).2 i hi hi hm⟩
end Go.Proofs.YtkinlcichclnkaaDoor
