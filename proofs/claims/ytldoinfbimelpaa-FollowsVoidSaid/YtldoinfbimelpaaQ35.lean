/- What one asks of the sets that Of has made. -/
import Derived.Test.YtldoinfbimelpaaQ34
namespace Go.Proofs.Ytldoinfbimelpaa
open Go.RowKit

theorem loose_mono {w : World} {base base' e size n : Nat} {v : Value} {xs : List Value} (h : looseRow w base e size v n xs) (hb : base' ≤ base) : looseRow w base' e size v n xs := by
  refine ⟨h.1, h.2.imp id ?_⟩
  rintro ⟨g, cap, cur, h1, h2, h3⟩
  exact ⟨g, cap, cur, h1, Nat.le_trans hb h2, h3⟩
theorem there_yes {W : World} {V : FV} {S : FS} (h : SetsAt W V S) : Calls Try.prog 17 #[.pointer (some ⟨V.sb, 0, none⟩)] W fun e W' => e = .returned (.bool true) ∧ W' = W :=
  fthere_ok W V.sb _ _ (some ⟨V.rb, 0, none⟩) _ _ h.box
set_option maxRecDepth 20000 in
theorem of_yes {W : World} {V : FV} {S : FS} (h : SetsAt W V S) (hw : S.Wf) {i : Nat} {r : FR} (hi : S.at i = some r) : Calls Try.prog 20 #[.pointer (some ⟨V.sb, 0, none⟩), .int .i64 (i : Int)] W fun e W' => e = .returned (.pointer (some ⟨V.rk i, 0, none⟩)) ∧ W' = W := by
  have HT := Lib.hid (there_yes h)
  have hil := FS.at_lt hi
  have hlen := hw.len
  have c2 := h.box.cell_at (i := 2) rfl
  have cl := h.box.lt
  have r0 := h.row.cell_at (V.ptrs_at S hil)
  have rl := h.row.lt
  unfold FV.ptr at r0
  rw [hi] at r0
  simp only [Option.isSome_some, if_true] at r0
  have d1 : decide ((i : Int) < 0) = false := decide_eq_false (by omega)
  have d2 : decide ((S.rules.length : Int) ≤ (i : Int)) = false := decide_eq_false (by omega)
  have d3 : decide (S.rules.length ≤ i) = false := decide_eq_false (by omega)
  clear h hi hw
  go_enter Try.func20, Try.ntmps20
  go_wp2_with fail
  refine HT.out.mono ?_
  rintro e w ⟨rfl, rfl⟩
  go_wp2_with fail
  go_ret
  exact ⟨rfl, rfl⟩
set_option maxRecDepth 20000 in
theorem First_yes {W : World} {V : FV} {S : FS} (h : SetsAt W V S) (hw : S.Wf) {i : Nat} {r : FR} (hi : S.at i = some r) : Calls Try.prog 7 #[.pointer (some ⟨V.sb, 0, none⟩), .int .i64 (i : Int)] W (ListIs (listB r.first) W) := by
  have HT := Lib.hid (of_yes h hw hi)
  obtain ⟨r1, r2, r3, r4⟩ := h.rule i r hi
  have HL := Lib.hid (flist_ok W (V.fk i) S.n S.n r.first (hw.first i r hi).1 hw.n r2)
  obtain ⟨b0, b1, b2, b3, b4, hb⟩ : ∃ b0 b1 b2 b3 b4, V.bv i = [b0, b1, b2, b3, b4] := by
    match hv : V.bv i, r4 with
    | [b0, b1, b2, b3, b4], _ => exact ⟨_, _, _, _, _, rfl⟩
  unfold FV.rcs at r1
  rw [hb] at r1
  have c6 := r1.cell_at (i := 6) rfl
  have cl := r1.lt
  have hp : (binOp .neq 64 (.pointer (some ⟨V.rk i, 0, none⟩)) (.pointer none)).run Try.prog W = .ok (.bool true) W := by rfl
  clear h hw hi r1 r2 r3 r4 hb
  go_enter Try.func7, Try.ntmps7
  go_wp2_with fail
  refine HT.out.mono ?_
  rintro e w ⟨rfl, rfl⟩
  go_wp2_with fail
  refine HL.out.mono ?_
  rintro e w2 ⟨v, rfl, h1, h2⟩
  have H1 := Lib.hid h1
  have H2 := Lib.hid h2
  clear h1 h2
  go_wp2_with fail
  go_ret
  exact ⟨v, rfl, H1.out, H2.out⟩
set_option maxRecDepth 20000 in
theorem Follow_yes {W : World} {V : FV} {S : FS} (h : SetsAt W V S) (hw : S.Wf) {i : Nat} {r : FR} (hi : S.at i = some r) : Calls Try.prog 8 #[.pointer (some ⟨V.sb, 0, none⟩), .int .i64 (i : Int)] W (ListIs (listB r.follow) W) := by
  have HT := Lib.hid (of_yes h hw hi)
  obtain ⟨r1, r2, r3, r4⟩ := h.rule i r hi
  have HL := Lib.hid (flist_ok W (V.gk i) S.n S.n r.follow (hw.first i r hi).2 hw.n r3)
  obtain ⟨b0, b1, b2, b3, b4, hb⟩ : ∃ b0 b1 b2 b3 b4, V.bv i = [b0, b1, b2, b3, b4] := by
    match hv : V.bv i, r4 with
    | [b0, b1, b2, b3, b4], _ => exact ⟨_, _, _, _, _, rfl⟩
  unfold FV.rcs at r1
  rw [hb] at r1
  have c7 := r1.cell_at (i := 7) rfl
  have cl := r1.lt
  clear h hw hi r1 r2 r3 r4 hb
  go_enter Try.func8, Try.ntmps8
  go_wp2_with fail
  refine HT.out.mono ?_
  rintro e w ⟨rfl, rfl⟩
  go_wp2_with fail
  refine HL.out.mono ?_
  rintro e w2 ⟨v, rfl, h1, h2⟩
  have H1 := Lib.hid h1
  have H2 := Lib.hid h2
  clear h1 h2
  go_wp2_with fail
  go_ret
  exact ⟨v, rfl, H1.out, H2.out⟩
def BeginIs (p : List Bool × Bool) (W : World) (e : Ending) (W' : World) : Prop := ∃ v, e = .returned (.tuple #[v, .bool p.2]) ∧ looseRow W' W.heap.size 3 1 v (listB p.1).length (intVs (listB p.1)) ∧ Grew W W'
set_option maxRecDepth 20000 in
theorem Begin_yes {W : World} {V : FV} {S : FS} (h : SetsAt W V S) (hw : S.Wf) (n : Nd) (n0 n1 n2 n3 n4 : Value) (hN : NodeAt W W.heap.size (some n0) (some n1) (some n2) (some n3) (some n4) n) :
    Calls Try.prog 6 #[.pointer (some ⟨V.sb, 0, none⟩), .agg #[n0, n1, n2, n3, n4]] W (BeginIs (S.begin n) W) := by
  obtain ⟨w1, hw1⟩ : ∃ w1, W.alloc (.cells #[n0, n1, n2, n3, n4] 26) = w1 := ⟨_, rfl⟩
  have g1 : Grew W w1 := hw1 ▸ grew_alloc W _
  have o1 : Owns w1 W.heap.size [n0, n1, n2, n3, n4] 26 := hw1 ▸ Owns.alloc W _ _
  have HT := Lib.hid (there_yes (h.keep g1))
  have HB := Lib.hid (fbegin_ok V S hw n w1 n0 n1 n2 n3 n4 (h.keep g1) ((hN.keep g1).mono g1.size))
  have hl := begin_len hw n
  have hn9 := hw.n
  have c0 := o1.cell_at (i := 0) rfl
  have c1 := o1.cell_at (i := 1) rfl
  have c2 := o1.cell_at (i := 2) rfl
  have c3 := o1.cell_at (i := 3) rfl
  have c4 := o1.cell_at (i := 4) rfl
  have cl := o1.lt
  have HG := Lib.hid g1
  obtain ⟨bo, bm, hbe⟩ : ∃ bo bm, S.begin n = (bo, bm) := ⟨_, _, rfl⟩
  rw [hbe] at HB hl ⊢
  dsimp only at hl
  obtain ⟨Q, hQ⟩ : ∃ Q, BeginIs (bo, bm) W = Q := ⟨_, rfl⟩
  rw [hQ]
  have HQ := Lib.hid hQ
  obtain ⟨k0, k1, k2, k3, k4, k5, k6, k7, k8, rfl, rfl, rfl, rfl, rfl⟩ := hN.forms
  clear h hw hN g1 o1 hbe hQ
  go_enter Try.func6, Try.ntmps6
  go_wp2_with fail
  refine HT.out.mono ?_
  rintro e w ⟨rfl, rfl⟩
  go_wp2_with fail
  refine HB.out.mono ?_
  rintro e w2 ⟨v, rfl, nb, rfl, hn, hlo, hg⟩
  have HL := Lib.hid (flist_ok w2 nb S.n S.n bo hl hn9 hn)
  have HG2 := Lib.hid (HG.out.trans hg)
  clear hn hlo hg c0 c1 c2 c3 c4 cl
  go_wp2_with fail
  refine HL.out.mono ?_
  rintro e w3 ⟨u, rfl, h1, h2⟩
  have H1 := Lib.hid (loose_mono h1 HG2.out.size)
  have H2 := Lib.hid (HG2.out.trans h2)
  clear h1 h2
  go_wp2_with fail
  rw [← HQ.out]
  exact ⟨u, rfl, H1.out, H2.out⟩
set_option maxRecDepth 20000 in
theorem Low_yes {W : World} {V : FV} {S : FS} (h : SetsAt W V S) (hw : S.Wf) (n : Nd) (n0 n1 n2 n3 n4 : Value) (hN : NodeAt W W.heap.size (some n0) (some n1) (some n2) (some n3) (some n4) n) :
    Calls Try.prog 9 #[.pointer (some ⟨V.sb, 0, none⟩), .agg #[n0, n1, n2, n3, n4]] W fun e W' => e = .returned (.int .i64 (S.lowN n)) ∧ Grew W W' := by
  obtain ⟨w1, hw1⟩ : ∃ w1, W.alloc (.cells #[n0, n1, n2, n3, n4] 26) = w1 := ⟨_, rfl⟩
  have g1 : Grew W w1 := hw1 ▸ grew_alloc W _
  have o1 : Owns w1 W.heap.size [n0, n1, n2, n3, n4] 26 := hw1 ▸ Owns.alloc W _ _
  have HT := Lib.hid (there_yes (h.keep g1))
  have HB := Lib.hid (flow_ok V S hw n w1 n0 n1 n2 n3 n4 (h.keep g1) ((hN.keep g1).mono g1.size))
  have c0 := o1.cell_at (i := 0) rfl
  have c1 := o1.cell_at (i := 1) rfl
  have c2 := o1.cell_at (i := 2) rfl
  have c3 := o1.cell_at (i := 3) rfl
  have c4 := o1.cell_at (i := 4) rfl
  have cl := o1.lt
  have HG := Lib.hid g1
  obtain ⟨k0, k1, k2, k3, k4, k5, k6, k7, k8, rfl, rfl, rfl, rfl, rfl⟩ := hN.forms
  clear h hw hN g1 o1
  go_enter Try.func9, Try.ntmps9
  go_wp2_with fail
  refine HT.out.mono ?_
  rintro e w ⟨rfl, rfl⟩
  go_wp2_with fail
  refine HB.out.mono ?_
  rintro e w2 ⟨rfl, hg⟩
  have HG2 := Lib.hid (HG.out.trans hg)
  clear hg c0 c1 c2 c3 c4 cl
  go_wp2_with fail
  go_ret
  exact ⟨rfl, HG2.out⟩
end Go.Proofs.Ytldoinfbimelpaa

/- The chapter's example: the functions that lay it. -/
namespace Go.Proofs.Ytldoinfbimelpaa
open Go.RowKit

def eS : ByteArray := { data := #[] }
set_option maxRecDepth 20000 in
theorem mk_ref (nm : ByteArray) (W : World) : Calls Try.prog 12 #[.string nm] W fun e W' => e = .returned (.agg #[.int .u8 5, .string nm, .string { data := #[] }, .slice none 0 0, .slice none 0 0]) ∧ Grew W W' := by
  go_enter Try.func12, Try.ntmps12
  go_wp2_with fail
  refine bodyPost_ret (results_cell_row (d := Try.prog.underlying 26 |>.getD default) rfl _ _ W.heap.size 26 _ (0, 0) rfl (heap_alloc_new _ _) rfl rfl rfl) rfl ?_
  exact ⟨rfl, grew_alloc _ _⟩
set_option maxRecDepth 20000 in
theorem mk_tok (nm : ByteArray) (W : World) : Calls Try.prog 13 #[.string nm] W fun e W' => e = .returned (.agg #[.int .u8 6, .string nm, .string { data := #[] }, .slice none 0 0, .slice none 0 0]) ∧ Grew W W' := by
  go_enter Try.func13, Try.ntmps13
  go_wp2_with fail
  refine bodyPost_ret (results_cell_row (d := Try.prog.underlying 26 |>.getD default) rfl _ _ W.heap.size 26 _ (0, 0) rfl (heap_alloc_new _ _) rfl rfl rfl) rfl ?_
  exact ⟨rfl, grew_alloc _ _⟩
set_option maxRecDepth 20000 in
theorem mk_of (k : Int) (a : Option Addr) (n c : Nat) (W : World) : Calls Try.prog 11 #[.int .u8 k, .slice a n c] W fun e W' => e = .returned (.agg #[.int .u8 k, .string { data := #[] }, .string { data := #[] }, .slice none 0 0, .slice a n c]) ∧ Grew W W' := by
  go_enter Try.func11, Try.ntmps11
  go_wp2_with fail
  refine bodyPost_ret (results_cell_row (d := Try.prog.underlying 26 |>.getD default) rfl _ _ W.heap.size 26 _ (0, 0) rfl (heap_alloc_new _ _) rfl rfl rfl) rfl ?_
  exact ⟨rfl, grew_alloc _ _⟩
set_option maxRecDepth 20000 in
theorem mk_token (nm : ByteArray) (W : World) : Calls Try.prog 14 #[.string nm] W fun e W' => e = .returned (.agg #[.string nm, .int .u8 1, .int .u8 8, .string { data := #[] }, .string nm, .slice none 0 0, .slice none 0 0, .int .i64 0, .int .i64 0, .int .i64 0]) ∧ Grew W W' := by
  go_enter Try.func14, Try.ntmps14
  go_wp2_with fail
  refine bodyPost_ret (results_cell_row (d := Try.prog.underlying 47 |>.getD default) rfl _ _ W.heap.size 47 _ (0, 0) rfl (heap_alloc_new _ _) rfl rfl rfl) rfl ?_
  exact ⟨rfl, grew_alloc _ _⟩
set_option maxRecDepth 20000 in
theorem mk_rule (nm : ByteArray) (k : Int) (m1 m2 : ByteArray) (a b : Option Addr) (n c n' c' : Nat) (W : World) : Calls Try.prog 10 #[.string nm, .agg #[.int .u8 k, .string m1, .string m2, .slice a n c, .slice b n' c']] W fun e W' => e = .returned (.agg #[.string nm, .int .u8 0, .int .u8 k, .string m1, .string m2, .slice a n c, .slice b n' c', .int .i64 0, .int .i64 0, .int .i64 0]) ∧ Grew W W' := by
  obtain ⟨w1, hw1⟩ : ∃ w1, W.alloc (.cells #[.int .u8 k, .string m1, .string m2, .slice a n c, .slice b n' c'] 26) = w1 := ⟨_, rfl⟩
  have g1 : Grew W w1 := hw1 ▸ grew_alloc W _
  have z1 : w1.heap.size = W.heap.size + 1 := by rw [← hw1]; exact World.size_alloc _ _
  have o1 : Owns w1 W.heap.size [.int .u8 k, .string m1, .string m2, .slice a n c, .slice b n' c'] 26 := hw1 ▸ Owns.alloc W _ _
  have c0 := o1.cell_at (i := 0) rfl
  have c1 := o1.cell_at (i := 1) rfl
  have c2 := o1.cell_at (i := 2) rfl
  have c3 := o1.cell_at (i := 3) rfl
  have c4 := o1.cell_at (i := 4) rfl
  have cl := o1.lt
  have G1 := Lib.hid g1
  clear g1 o1 z1
  go_enter Try.func10, Try.ntmps10
  go_wp2_with fail
  trace_state
  refine bodyPost_ret (results_cell_row (d := Try.prog.underlying 47 |>.getD default) rfl _ _ w1.heap.size 47 _ (0, 0) rfl (heap_alloc_new _ _) rfl rfl rfl) rfl ?_
  exact ⟨rfl, G1.out.trans (grew_alloc _ _)⟩
end Go.Proofs.Ytldoinfbimelpaa

/- The chapter's example of sets in memory. Printed by genfoliv.py. -/
namespace Go.Proofs.Ytldoinfbimelpaa
open Go.RowKit

set_option maxHeartbeats 4000000 in
set_option maxRecDepth 40000 in
theorem fg1_at {w : World} {p1 p2 p3 p4 p5 : Nat} (o1 : Owns w p1 [.int .u8 5, .string { data := #[98] }, .string { data := #[] }, .slice none 0 0, .slice none 0 0] 26) (o2 : Owns w p2 [.int .u8 2, .string { data := #[] }, .string { data := #[] }, .slice none 0 0, .slice (some ⟨p1, 0, none⟩) 1 1, .int .u8 6, .string { data := #[67] }, .string { data := #[] }, .slice none 0 0, .slice none 0 0] 26) (o3 : Owns w p3 [.int .u8 1, .string { data := #[] }, .string { data := #[] }, .slice none 0 0, .slice (some ⟨p2, 0, none⟩) 2 2, .int .u8 6, .string { data := #[68] }, .string { data := #[] }, .slice none 0 0, .slice none 0 0] 26) (o4 : Owns w p4 [.int .u8 6, .string { data := #[69] }, .string { data := #[] }, .slice none 0 0, .slice none 0 0, .int .u8 5, .string { data := #[97] }, .string { data := #[] }, .slice none 0 0, .slice none 0 0] 26) (o5 : Owns w p5 [.string { data := #[97] }, .int .u8 0, .int .u8 0, .string { data := #[] }, .string { data := #[] }, .slice none 0 0, .slice (some ⟨p3, 0, none⟩) 2 2, .int .i64 0, .int .i64 0, .int .i64 0, .string { data := #[98] }, .int .u8 0, .int .u8 1, .string { data := #[] }, .string { data := #[] }, .slice none 0 0, .slice (some ⟨p4, 0, none⟩) 2 2, .int .i64 0, .int .i64 0, .int .i64 0, .string { data := #[67] }, .int .u8 1, .int .u8 8, .string { data := #[] }, .string { data := #[67] }, .slice none 0 0, .slice none 0 0, .int .i64 0, .int .i64 0, .int .i64 0, .string { data := #[68] }, .int .u8 1, .int .u8 8, .string { data := #[] }, .string { data := #[68] }, .slice none 0 0, .slice none 0 0, .int .i64 0, .int .i64 0, .int .i64 0, .string { data := #[69] }, .int .u8 1, .int .u8 8, .string { data := #[] }, .string { data := #[69] }, .slice none 0 0, .slice none 0 0, .int .i64 0, .int .i64 0, .int .i64 0] 47) :
    GrAt w w.heap.size (some (.string { data := #[71] })) (some (.int .i64 1)) (some (.int .i64 9)) (some (.slice (some ⟨p5, 0, none⟩) 5 5)) (fgr fa1) ∧ ∀ i (h : i < (fgr fa1).rules.length), ∃ b off n c, (Value.slice (some ⟨p5, 0, none⟩) 5 5) = .slice (some ⟨b, off, none⟩) n c ∧ FitAt w w.heap.size (w.cell? ⟨b, off + i * 10 + 6, none⟩) (fgr fa1).rules[i].body := by
  have cp1_0 := o1.cell_at (i := 0) rfl
  have cp1_1 := o1.cell_at (i := 1) rfl
  have cp1_2 := o1.cell_at (i := 2) rfl
  have cp1_3 := o1.cell_at (i := 3) rfl
  have cp1_4 := o1.cell_at (i := 4) rfl
  have lp1 := o1.lt
  clear o1
  have cp2_0 := o2.cell_at (i := 0) rfl
  have cp2_1 := o2.cell_at (i := 1) rfl
  have cp2_2 := o2.cell_at (i := 2) rfl
  have cp2_3 := o2.cell_at (i := 3) rfl
  have cp2_4 := o2.cell_at (i := 4) rfl
  have cp2_5 := o2.cell_at (i := 5) rfl
  have cp2_6 := o2.cell_at (i := 6) rfl
  have cp2_7 := o2.cell_at (i := 7) rfl
  have cp2_8 := o2.cell_at (i := 8) rfl
  have cp2_9 := o2.cell_at (i := 9) rfl
  have lp2 := o2.lt
  clear o2
  have cp3_0 := o3.cell_at (i := 0) rfl
  have cp3_1 := o3.cell_at (i := 1) rfl
  have cp3_2 := o3.cell_at (i := 2) rfl
  have cp3_3 := o3.cell_at (i := 3) rfl
  have cp3_4 := o3.cell_at (i := 4) rfl
  have cp3_5 := o3.cell_at (i := 5) rfl
  have cp3_6 := o3.cell_at (i := 6) rfl
  have cp3_7 := o3.cell_at (i := 7) rfl
  have cp3_8 := o3.cell_at (i := 8) rfl
  have cp3_9 := o3.cell_at (i := 9) rfl
  have lp3 := o3.lt
  clear o3
  have cp4_0 := o4.cell_at (i := 0) rfl
  have cp4_1 := o4.cell_at (i := 1) rfl
  have cp4_2 := o4.cell_at (i := 2) rfl
  have cp4_3 := o4.cell_at (i := 3) rfl
  have cp4_4 := o4.cell_at (i := 4) rfl
  have cp4_5 := o4.cell_at (i := 5) rfl
  have cp4_6 := o4.cell_at (i := 6) rfl
  have cp4_7 := o4.cell_at (i := 7) rfl
  have cp4_8 := o4.cell_at (i := 8) rfl
  have cp4_9 := o4.cell_at (i := 9) rfl
  have lp4 := o4.lt
  clear o4
  have cp5_0 := o5.cell_at (i := 0) rfl
  have cp5_1 := o5.cell_at (i := 1) rfl
  have cp5_2 := o5.cell_at (i := 2) rfl
  have cp5_3 := o5.cell_at (i := 3) rfl
  have cp5_4 := o5.cell_at (i := 4) rfl
  have cp5_5 := o5.cell_at (i := 5) rfl
  have cp5_6 := o5.cell_at (i := 6) rfl
  have cp5_7 := o5.cell_at (i := 7) rfl
  have cp5_8 := o5.cell_at (i := 8) rfl
  have cp5_9 := o5.cell_at (i := 9) rfl
  have cp5_10 := o5.cell_at (i := 10) rfl
  have cp5_11 := o5.cell_at (i := 11) rfl
  have cp5_12 := o5.cell_at (i := 12) rfl
  have cp5_13 := o5.cell_at (i := 13) rfl
  have cp5_14 := o5.cell_at (i := 14) rfl
  have cp5_15 := o5.cell_at (i := 15) rfl
  have cp5_16 := o5.cell_at (i := 16) rfl
  have cp5_17 := o5.cell_at (i := 17) rfl
  have cp5_18 := o5.cell_at (i := 18) rfl
  have cp5_19 := o5.cell_at (i := 19) rfl
  have cp5_20 := o5.cell_at (i := 20) rfl
  have cp5_21 := o5.cell_at (i := 21) rfl
  have cp5_22 := o5.cell_at (i := 22) rfl
  have cp5_23 := o5.cell_at (i := 23) rfl
  have cp5_24 := o5.cell_at (i := 24) rfl
  have cp5_25 := o5.cell_at (i := 25) rfl
  have cp5_26 := o5.cell_at (i := 26) rfl
  have cp5_27 := o5.cell_at (i := 27) rfl
  have cp5_28 := o5.cell_at (i := 28) rfl
  have cp5_29 := o5.cell_at (i := 29) rfl
  have cp5_30 := o5.cell_at (i := 30) rfl
  have cp5_31 := o5.cell_at (i := 31) rfl
  have cp5_32 := o5.cell_at (i := 32) rfl
  have cp5_33 := o5.cell_at (i := 33) rfl
  have cp5_34 := o5.cell_at (i := 34) rfl
  have cp5_35 := o5.cell_at (i := 35) rfl
  have cp5_36 := o5.cell_at (i := 36) rfl
  have cp5_37 := o5.cell_at (i := 37) rfl
  have cp5_38 := o5.cell_at (i := 38) rfl
  have cp5_39 := o5.cell_at (i := 39) rfl
  have cp5_40 := o5.cell_at (i := 40) rfl
  have cp5_41 := o5.cell_at (i := 41) rfl
  have cp5_42 := o5.cell_at (i := 42) rfl
  have cp5_43 := o5.cell_at (i := 43) rfl
  have cp5_44 := o5.cell_at (i := 44) rfl
  have cp5_45 := o5.cell_at (i := 45) rfl
  have cp5_46 := o5.cell_at (i := 46) rfl
  have cp5_47 := o5.cell_at (i := 47) rfl
  have cp5_48 := o5.cell_at (i := 48) rfl
  have cp5_49 := o5.cell_at (i := 49) rfl
  have lp5 := o5.lt
  clear o5
  refine ⟨?_, fun i hi => ?_⟩
  · simp [GrAt, fgr, fa1, fa2, fLit, fNd, fTok, fRef, RulesAt, RuleAt, NodesAt, NodeAt, RangesAt, reachN, InI64, ByteArray.size, and_assoc, *]
  · have hi' : i < 5 := hi
    match i, hi' with
    | 0, _ => exact ⟨p5, 0, 5, 5, rfl, by simp [fgr, fa1, fa2, fNd, fTok, fRef, FitAt, FitsAt, and_assoc, *]⟩
    | 1, _ => exact ⟨p5, 0, 5, 5, rfl, by simp [fgr, fa1, fa2, fNd, fTok, fRef, FitAt, FitsAt, and_assoc, *]⟩
    | 2, _ => exact ⟨p5, 0, 5, 5, rfl, by simp [fgr, fLit, FitAt, FitsAt, *]⟩
    | 3, _ => exact ⟨p5, 0, 5, 5, rfl, by simp [fgr, fLit, FitAt, FitsAt, *]⟩
    | 4, _ => exact ⟨p5, 0, 5, 5, rfl, by simp [fgr, fLit, FitAt, FitsAt, *]⟩
set_option maxHeartbeats 4000000 in
set_option maxRecDepth 40000 in
theorem fg2_at {w : World} {p7 p4 p5 : Nat} (o7 : Owns w p7 [.int .u8 6, .string { data := #[69] }, .string { data := #[] }, .slice none 0 0, .slice none 0 0, .int .u8 5, .string { data := #[97] }, .string { data := #[] }, .slice none 0 0, .slice none 0 0] 26) (o4 : Owns w p4 [.int .u8 6, .string { data := #[69] }, .string { data := #[] }, .slice none 0 0, .slice none 0 0, .int .u8 5, .string { data := #[97] }, .string { data := #[] }, .slice none 0 0, .slice none 0 0] 26) (o5 : Owns w p5 [.string { data := #[97] }, .int .u8 0, .int .u8 1, .string { data := #[] }, .string { data := #[] }, .slice none 0 0, .slice (some ⟨p7, 0, none⟩) 2 2, .int .i64 0, .int .i64 0, .int .i64 0, .string { data := #[98] }, .int .u8 0, .int .u8 1, .string { data := #[] }, .string { data := #[] }, .slice none 0 0, .slice (some ⟨p4, 0, none⟩) 2 2, .int .i64 0, .int .i64 0, .int .i64 0, .string { data := #[67] }, .int .u8 1, .int .u8 8, .string { data := #[] }, .string { data := #[67] }, .slice none 0 0, .slice none 0 0, .int .i64 0, .int .i64 0, .int .i64 0, .string { data := #[68] }, .int .u8 1, .int .u8 8, .string { data := #[] }, .string { data := #[68] }, .slice none 0 0, .slice none 0 0, .int .i64 0, .int .i64 0, .int .i64 0, .string { data := #[69] }, .int .u8 1, .int .u8 8, .string { data := #[] }, .string { data := #[69] }, .slice none 0 0, .slice none 0 0, .int .i64 0, .int .i64 0, .int .i64 0] 47) :
    GrAt w w.heap.size (some (.string { data := #[71] })) (some (.int .i64 1)) (some (.int .i64 9)) (some (.slice (some ⟨p5, 0, none⟩) 5 5)) (fgr fa2) ∧ ∀ i (h : i < (fgr fa2).rules.length), ∃ b off n c, (Value.slice (some ⟨p5, 0, none⟩) 5 5) = .slice (some ⟨b, off, none⟩) n c ∧ FitAt w w.heap.size (w.cell? ⟨b, off + i * 10 + 6, none⟩) (fgr fa2).rules[i].body := by
  have cp7_0 := o7.cell_at (i := 0) rfl
  have cp7_1 := o7.cell_at (i := 1) rfl
  have cp7_2 := o7.cell_at (i := 2) rfl
  have cp7_3 := o7.cell_at (i := 3) rfl
  have cp7_4 := o7.cell_at (i := 4) rfl
  have cp7_5 := o7.cell_at (i := 5) rfl
  have cp7_6 := o7.cell_at (i := 6) rfl
  have cp7_7 := o7.cell_at (i := 7) rfl
  have cp7_8 := o7.cell_at (i := 8) rfl
  have cp7_9 := o7.cell_at (i := 9) rfl
  have lp7 := o7.lt
  clear o7
  have cp4_0 := o4.cell_at (i := 0) rfl
  have cp4_1 := o4.cell_at (i := 1) rfl
  have cp4_2 := o4.cell_at (i := 2) rfl
  have cp4_3 := o4.cell_at (i := 3) rfl
  have cp4_4 := o4.cell_at (i := 4) rfl
  have cp4_5 := o4.cell_at (i := 5) rfl
  have cp4_6 := o4.cell_at (i := 6) rfl
  have cp4_7 := o4.cell_at (i := 7) rfl
  have cp4_8 := o4.cell_at (i := 8) rfl
  have cp4_9 := o4.cell_at (i := 9) rfl
  have lp4 := o4.lt
  clear o4
  have cp5_0 := o5.cell_at (i := 0) rfl
  have cp5_1 := o5.cell_at (i := 1) rfl
  have cp5_2 := o5.cell_at (i := 2) rfl
  have cp5_3 := o5.cell_at (i := 3) rfl
  have cp5_4 := o5.cell_at (i := 4) rfl
  have cp5_5 := o5.cell_at (i := 5) rfl
  have cp5_6 := o5.cell_at (i := 6) rfl
  have cp5_7 := o5.cell_at (i := 7) rfl
  have cp5_8 := o5.cell_at (i := 8) rfl
  have cp5_9 := o5.cell_at (i := 9) rfl
  have cp5_10 := o5.cell_at (i := 10) rfl
  have cp5_11 := o5.cell_at (i := 11) rfl
  have cp5_12 := o5.cell_at (i := 12) rfl
  have cp5_13 := o5.cell_at (i := 13) rfl
  have cp5_14 := o5.cell_at (i := 14) rfl
  have cp5_15 := o5.cell_at (i := 15) rfl
  have cp5_16 := o5.cell_at (i := 16) rfl
  have cp5_17 := o5.cell_at (i := 17) rfl
  have cp5_18 := o5.cell_at (i := 18) rfl
  have cp5_19 := o5.cell_at (i := 19) rfl
  have cp5_20 := o5.cell_at (i := 20) rfl
  have cp5_21 := o5.cell_at (i := 21) rfl
  have cp5_22 := o5.cell_at (i := 22) rfl
  have cp5_23 := o5.cell_at (i := 23) rfl
  have cp5_24 := o5.cell_at (i := 24) rfl
  have cp5_25 := o5.cell_at (i := 25) rfl
  have cp5_26 := o5.cell_at (i := 26) rfl
  have cp5_27 := o5.cell_at (i := 27) rfl
  have cp5_28 := o5.cell_at (i := 28) rfl
  have cp5_29 := o5.cell_at (i := 29) rfl
  have cp5_30 := o5.cell_at (i := 30) rfl
  have cp5_31 := o5.cell_at (i := 31) rfl
  have cp5_32 := o5.cell_at (i := 32) rfl
  have cp5_33 := o5.cell_at (i := 33) rfl
  have cp5_34 := o5.cell_at (i := 34) rfl
  have cp5_35 := o5.cell_at (i := 35) rfl
  have cp5_36 := o5.cell_at (i := 36) rfl
  have cp5_37 := o5.cell_at (i := 37) rfl
  have cp5_38 := o5.cell_at (i := 38) rfl
  have cp5_39 := o5.cell_at (i := 39) rfl
  have cp5_40 := o5.cell_at (i := 40) rfl
  have cp5_41 := o5.cell_at (i := 41) rfl
  have cp5_42 := o5.cell_at (i := 42) rfl
  have cp5_43 := o5.cell_at (i := 43) rfl
  have cp5_44 := o5.cell_at (i := 44) rfl
  have cp5_45 := o5.cell_at (i := 45) rfl
  have cp5_46 := o5.cell_at (i := 46) rfl
  have cp5_47 := o5.cell_at (i := 47) rfl
  have cp5_48 := o5.cell_at (i := 48) rfl
  have cp5_49 := o5.cell_at (i := 49) rfl
  have lp5 := o5.lt
  clear o5
  refine ⟨?_, fun i hi => ?_⟩
  · simp [GrAt, fgr, fa2, fLit, fNd, fTok, fRef, RulesAt, RuleAt, NodesAt, NodeAt, RangesAt, reachN, InI64, ByteArray.size, and_assoc, *]
  · have hi' : i < 5 := hi
    match i, hi' with
    | 0, _ => exact ⟨p5, 0, 5, 5, rfl, by simp [fgr, fa2, fNd, fTok, fRef, FitAt, FitsAt, and_assoc, *]⟩
    | 1, _ => exact ⟨p5, 0, 5, 5, rfl, by simp [fgr, fa2, fNd, fTok, fRef, FitAt, FitsAt, and_assoc, *]⟩
    | 2, _ => exact ⟨p5, 0, 5, 5, rfl, by simp [fgr, fLit, FitAt, FitsAt, *]⟩
    | 3, _ => exact ⟨p5, 0, 5, 5, rfl, by simp [fgr, fLit, FitAt, FitsAt, *]⟩
    | 4, _ => exact ⟨p5, 0, 5, 5, rfl, by simp [fgr, fLit, FitAt, FitsAt, *]⟩
end Go.Proofs.Ytldoinfbimelpaa
