/- Texts, ranges and bareness of nodes. -/
import Derived.Test.YtppjmdanckdobaaGreatDoorQV17
import Derived.Test.YtppjmdanckdobaaGreatDoorQV12
namespace Go.Proofs.YtppjmdanckdobaaGreatDoor
open Go.RowKit
def textB (s : ByteArray) : Bool := decide (s.data.toList ≠ []) && decide (bad s < 0)
set_option maxHeartbeats 4000000 in
set_option maxRecDepth 20000 in
theorem ntext_ok (s : ByteArray) (W : World) (hs : s.size ≤ 140737488355328) (hT : Lib.Utf8Tabs 1 2 W) : Calls Tryz.prog 112 #[.string s] W fun e W' => e = .returned (.bool (textB s)) ∧ Below W.heap.size W W' := by
  have hem := toList_nil s
  unfold textB
  by_cases h0 : s.data.toList = []
  · rw [decide_eq_true h0] at hem
    rw [decide_eq_false (by simpa using h0), Bool.false_and]
    clear h0
    go_enter Tryz.func112, Tryz.ntmps112
    go_wp2_with fail
    go_ret
    exact ⟨rfl, Below.refl _ _⟩
  · rw [decide_eq_false h0] at hem
    rw [decide_eq_true h0, Bool.true_and]
    have hB := bad_ok s W hs hT
    generalize bad s = z at *
    have HB := Lib.hid hB
    clear hB h0
    go_enter Tryz.func112, Tryz.ntmps112
    go_wp2_with fail
    refine HB.out.mono ?_
    rintro e w ⟨rfl, hb⟩
    have HBB := Lib.hid hb
    clear hb
    go_wp2_with fail
    go_ret
    exact ⟨rfl, HBB.out⟩
def badR (r : Int × Int) : Bool := decide (r.2 < r.1) || !Lib.validRune r.1 || !Lib.validRune r.2
set_option maxHeartbeats 4000000 in
set_option maxRecDepth 20000 in
theorem nbad_ok (r : Int × Int) (W : World) : Calls Tryz.prog 114 #[.agg #[.int .i32 r.1, .int .i32 r.2]] W fun e W' => e = .returned (.bool (badR r)) ∧ Below W.heap.size W W' := by
  have h1 := fun w => Tryz.utf8_ValidRune r.1 w
  have h2 := fun w => Tryz.utf8_ValidRune r.2 w
  unfold badR
  obtain ⟨a, b⟩ := r
  simp only at h1 h2 ⊢
  cases hv1 : Lib.validRune a <;> cases hv2 : Lib.validRune b
  all_goals
    rw [hv1] at h1
    rw [hv2] at h2
    have H1 := Lib.hid h1
    have H2 := Lib.hid h2
    clear h1 h2 hv1 hv2
    by_cases hlt : b < a
    · rw [decide_eq_true hlt]
      go_enter Tryz.func114, Tryz.ntmps114
      go_wp2_with fail
      go_ret
      exact ⟨rfl, grew_alloc _ _⟩
    · rw [decide_eq_false hlt]
      go_enter Tryz.func114, Tryz.ntmps114
      go_wp2_with fail
      refine (H1.out _).mono ?_
      rintro e w ⟨rfl, rfl⟩
      go_wp2_with fail
      first
        | (go_ret; exact ⟨rfl, grew_alloc _ _⟩)
        | (refine (H2.out _).mono ?_; rintro e w ⟨rfl, rfl⟩; go_wp2_with fail; go_ret; exact ⟨rfl, grew_alloc _ _⟩)
theorem RangesAt.get {W : World} {lim : Nat} {a : Option Addr} : ∀ {l : List (Int × Int)} {i k : Nat} (_ : RangesAt W lim a i l) (hk : k < l.length),
    ∃ b off, a = some ⟨b, off, none⟩ ∧ b < lim ∧ W.cell? ⟨b, off + (i + k) * 2, none⟩ = some (.int .i32 l[k].1) ∧ W.cell? ⟨b, off + (i + k) * 2 + 1, none⟩ = some (.int .i32 l[k].2)
  | [], _, _, _, hk => absurd hk (by simp)
  | x :: r, i, 0, h, _ => h.1
  | x :: r, i, k + 1, h, hk => by
    obtain ⟨b, off, h1, h2, h3, h4⟩ := RangesAt.get (k := k) h.2 (by simpa using hk)
    have e : i + 1 + k = i + (k + 1) := by omega
    rw [e] at h3 h4
    exact ⟨b, off, h1, h2, by simpa using h3, by simpa using h4⟩
theorem enters_nbad : Enters 114 := fun _ _ => by kernel_rfl
set_option maxHeartbeats 1000000 in
set_option maxRecDepth 20000 in
theorem indexRanges_ok (l : List (Int × Int)) (W : World) (a : Option Addr) (cap : Nat) (hl : l.length ≤ reachN) (hR : RangesAt W W.heap.size a 0 l) :
    Calls Tryz.prog 140 #[.slice a l.length cap, .func (.func 114) #[] #[]] W fun e W' => e = .returned (.int .i64 (ixOf l badR)) ∧ Below W.heap.size W W' := by
  unfold reachN at hl
  have hF := enters_nbad
  go_enter Tryz.func140, Tryz.ntmps140
  go_wp2
  go_loopw [8] (fun i wr => ∃ (j : Nat), i = .int .i64 j ∧ j ≤ l.length ∧ Hid (NoneTo l badR j) ∧ Below W.heap.size W wr) (fun i _ => l.length - (intOf i).toNat)
  case atStart =>
    exact ⟨0, rfl, by omega, fun i hi h => absurd h (by omega), Below.refl _ _⟩
  case round =>
    obtain ⟨j, rfl, hj, hf, hbw⟩ := hrel
    by_cases hlt : j < l.length
    · obtain ⟨b, off, rfl, hb, e0, e1⟩ := (hR.keep hbw).get hlt
      simp only [Nat.zero_add] at e0 e1
      have hbl : b < wr.heap.size := by have := hbw.size; omega
      have HS := Lib.hid (nbad_ok l[j] wr)
      clear hR
      have hFx := hF
      unfold Enters at hFx
      clear hF
      obtain ⟨t, ht⟩ : ∃ t, t = badR l[j] := ⟨_, rfl⟩
      rw [← ht] at HS
      have HQ := Lib.hid ht
      clear ht
      cases t
      · go_wp2_with (refine HS.out.mono ?_; rintro e w2 ⟨rfl, hb2⟩)
        exact ⟨⟨j + 1, by go_num, by omega, noneTo_next hf.out hlt HQ.out.symm, hbw.trans (hb2.mono hbw.size)⟩, by simp [intOf]; omega⟩
      · go_wp2_with (refine HS.out.mono ?_; rintro e w2 ⟨rfl, hb2⟩)
        go_ret
        exact ⟨ret_int (ixOf_at hlt hf.out HQ.out.symm).symm, hbw.trans (hb2.mono hbw.size)⟩
    · go_wp2_with fail
      go_ret
      exact ⟨ret_int (ixOf_none fun i hi => hf.out i hi (by omega)).symm, hbw⟩
theorem contRanges_ok (l : List (Int × Int)) (W : World) (a : Option Addr) (cap : Nat) (hl : l.length ≤ reachN) (hR : RangesAt W W.heap.size a 0 l) :
    Calls Tryz.prog 113 #[.slice a l.length cap, .func (.func 114) #[] #[]] W fun e W' => e = .returned (.bool (l.any badR)) ∧ Below W.heap.size W W' := by
  have hS := Lib.hid (indexRanges_ok l W a cap hl hR)
  clear hR
  go_enter Tryz.func113, Tryz.ntmps113
  go_wp2_with (go_at_call 140; refine hS.out.mono ?_; rintro e w' ⟨rfl, hb2⟩)
  go_ret
  exact ⟨ret_bool (ixOf_any l badR), hb2⟩
def predB (n : Nd) : Bool := n.kind == 7
theorem enters_pred : Enters 110 := fun _ _ => by kernel_rfl
set_option maxRecDepth 20000 in
theorem predicts_ok (n : Nd) (W : World) (lim : Nat) (v0 v1 v2 v3 v4 : Value) (hN : NodeAt W lim (some v0) (some v1) (some v2) (some v3) (some v4) n) : Calls Tryz.prog 110 #[.agg #[v0, v1, v2, v3, v4]] W fun e W' => e = .returned (.bool (predB n)) ∧ Below W.heap.size W W' := by
  obtain ⟨k, nm, tx, set, subs⟩ := n
  rw [NodeAt] at hN
  obtain ⟨hk, h1, h2, h3, h4, h5, ⟨sa, sc, h6, h6', h7⟩, na, nc, h8, h8', h9⟩ := hN
  obtain rfl := Option.some.inj h3
  obtain rfl := Option.some.inj h4
  obtain rfl := Option.some.inj h5
  obtain rfl := Option.some.inj h6
  obtain rfl := Option.some.inj h8
  clear h3 h4 h5 h6 h7 h8 h9
  unfold predB
  show Calls _ _ _ _ fun e W' => e = .returned (.bool (k == 7)) ∧ Below W.heap.size W W'
  go_enter Tryz.func110, Tryz.ntmps110
  go_wp2_with fail
  go_ret
  exact ⟨rfl, grew_alloc _ _⟩
def bareK (k : Int) (x y z : Bool) : Bool := if k = 5 ∨ k = 6 then y && z else if k = 8 then x && z else if k = 9 then x && y else x && y && z
def bareB (n : Nd) : Bool := bareK n.kind (decide (n.name.data.toList = [])) (decide (n.text.data.toList = [])) (decide (n.set = []))
end Go.Proofs.YtppjmdanckdobaaGreatDoor

/- bare and plain: may a node be, its Subs let be? -/
namespace Go.Proofs.YtppjmdanckdobaaGreatDoor
open Go.RowKit
set_option maxHeartbeats 8000000 in
set_option maxRecDepth 20000 in
theorem bare_ok (n : Nd) (W : World) (lim : Nat) (v0 v1 v2 v3 v4 : Value) (hN : NodeAt W lim (some v0) (some v1) (some v2) (some v3) (some v4) n) : Calls Tryz.prog 109 #[.agg #[v0, v1, v2, v3, v4]] W fun e W' => e = .returned (.bool (bareB n)) ∧ Below W.heap.size W W' := by
  obtain ⟨k, nm, tx, set, subs⟩ := n
  rw [NodeAt] at hN
  obtain ⟨hk, h1, h2, h3, h4, h5, ⟨sa, sc, h6, h6', h7⟩, na, nc, h8, h8', h9⟩ := hN
  obtain rfl := Option.some.inj h3
  obtain rfl := Option.some.inj h4
  obtain rfl := Option.some.inj h5
  obtain rfl := Option.some.inj h6
  obtain rfl := Option.some.inj h8
  clear h3 h4 h5 h6 h7 h8 h9
  have en := toList_nil nm
  have et := toList_nil tx
  have es : ((set.length : Int) == 0) = decide (set = []) := by
    cases set with
    | nil => rfl
    | cons x l => rw [decide_eq_false (by simp), beq_eq_false_iff_ne]; simp; omega
  obtain ⟨B, hB⟩ : ∃ B, bareB (.mk k nm tx set subs) = B := ⟨_, rfl⟩
  rw [hB]
  have hB : bareK k (decide (nm.data.toList = [])) (decide (tx.data.toList = [])) (decide (set = [])) = B := hB
  generalize decide (nm.data.toList = []) = x at *
  generalize decide (tx.data.toList = []) = y at *
  generalize decide (set = []) = z at *
  generalize set.length = sl at *
  unfold bareK at hB
  by_cases k5 : k = 5
  · subst k5
    rw [if_pos (.inl rfl)] at hB
    subst hB
    cases y <;> cases z
    all_goals
      go_enter Tryz.func109, Tryz.ntmps109
      go_wp2_with fail
      go_ret
      exact ⟨rfl, grew_alloc _ _⟩
  · by_cases k6 : k = 6
    · subst k6
      rw [if_pos (.inr rfl)] at hB
      subst hB
      cases y <;> cases z
      all_goals
        go_enter Tryz.func109, Tryz.ntmps109
        go_wp2_with fail
        go_ret
        exact ⟨rfl, grew_alloc _ _⟩
    · rw [if_neg (by omega)] at hB
      by_cases k8 : k = 8
      · subst k8
        rw [if_pos rfl] at hB
        subst hB
        cases x <;> cases z
        all_goals
          go_enter Tryz.func109, Tryz.ntmps109
          go_wp2_with fail
          go_ret
          exact ⟨rfl, grew_alloc _ _⟩
      · rw [if_neg k8] at hB
        by_cases k9 : k = 9
        · subst k9
          rw [if_pos rfl] at hB
          subst hB
          cases x <;> cases y
          all_goals
            go_enter Tryz.func109, Tryz.ntmps109
            go_wp2_with fail
            go_ret
            exact ⟨rfl, grew_alloc _ _⟩
        · rw [if_neg k9] at hB
          subst hB
          have q5 : (k == 5) = false := beq_eq_false_iff_ne.2 k5
          have q6 : (k == 6) = false := beq_eq_false_iff_ne.2 k6
          have q8 : (k == 8) = false := beq_eq_false_iff_ne.2 k8
          have q9 : (k == 9) = false := beq_eq_false_iff_ne.2 k9
          clear k5 k6 k8 k9
          cases x <;> cases y <;> cases z
          all_goals
            go_enter Tryz.func109, Tryz.ntmps109
            go_wp2_with fail
            go_ret
            exact ⟨rfl, grew_alloc _ _⟩
end Go.Proofs.YtppjmdanckdobaaGreatDoor

/- plain: may a node be, its Subs let be? Just so. -/
namespace Go.Proofs.YtppjmdanckdobaaGreatDoor
open Go.RowKit
def smallL : List UInt8 := [97, 98, 99, 100, 101, 102, 103, 104, 105, 106, 107, 108, 109, 110, 111, 112, 113, 114, 115, 116, 117, 118, 119, 120, 121, 122]
def bigL : List UInt8 := [65, 66, 67, 68, 69, 70, 71, 72, 73, 74, 75, 76, 77, 78, 79, 80, 81, 82, 83, 84, 85, 86, 87, 88, 89, 90]
def plainK (k : Int) (m : Nat) (token B pr sm bg tx rs : Bool) (sl : Nat) : Bool :=
  B && (if k = 0 then decide (2 ≤ m) && decide (m ≤ 32)
  else if k = 1 then decide (m ≠ 1) && !pr
  else if k = 2 ∨ k = 3 ∨ k = 4 then decide (m = 1)
  else if k = 7 then decide (m = 1) && !token
  else if k = 5 then decide (m = 0) && !token && sm
  else if k = 6 then decide (m = 0) && bg
  else if k = 8 then decide (m = 0) && token && tx
  else if k = 9 then decide (m = 0) && token && decide (0 < sl) && !rs
  else false)
def plainX (token : Bool) (n : Nd) (x : Bool) : Bool :=
  plainK n.kind n.subs.length token (bareB n) x (nameB n.name.data.toList smallL) (nameB n.name.data.toList bigL) (textB n.text) (n.set.any badR) n.set.length
def plainN (token : Bool) (n : Nd) : Bool := plainX token n ((n.subs.drop 1).any predB)
theorem NodesAt.first {W : World} {lim : Nat} {a : Option Addr} : ∀ {l : List Nd} {i : Nat} (k : Nat), NodesAt W lim a i l → NodesAt W lim a i (l.take k)
  | [], _, k, _ => by rw [List.take_nil, NodesAt]; trivial
  | x :: r, i, 0, _ => by rw [List.take_zero, NodesAt]; trivial
  | x :: r, i, k + 1, h => by
    rw [NodesAt] at h
    rw [List.take_succ_cons, NodesAt]
    exact ⟨h.1, h.2.first k⟩
theorem tabs_grew {W w : World} (h : Lib.Utf8Tabs 1 2 W) (hg : Grew W w) : Lib.Utf8Tabs 1 2 w := by
  obtain ⟨h1, h2⟩ := h
  have hlt : ∀ {b o : Nat} {v : Value}, W.cell? ⟨b, o, none⟩ = some v → b < W.heap.size := fun {b o v} h => by
    unfold World.cell? at h
    cases hb : W.heap[b]? with
    | none => simp [hb] at h
    | some x => exact (Array.getElem?_eq_some_iff.1 hb).1
  have b1 := hlt (h1 0 (by omega))
  have b2 := hlt (h2 0 (by omega)).1
  exact ⟨fun c hc => (hg.cells _ _ b1).trans (h1 c hc), fun i hi => ⟨(hg.cells _ _ b2).trans (h2 i hi).1, (hg.cells _ _ b2).trans (h2 i hi).2⟩⟩
theorem pred_each (W : World) (l : List Nd) : AskEach 110 #[] W l predB := fun i hi W' v0 v1 v2 v3 v4 _ hN => predicts_ok l[i] W' _ v0 v1 v2 v3 v4 hN
theorem NodesAt.step {W : World} {lim b off : Nat} : ∀ {l : List Nd} {i : Nat}, NodesAt W lim (some ⟨b, off, none⟩) (i + 1) l → NodesAt W lim (some ⟨b, off + 5, none⟩) i l
  | [], _, _ => by rw [NodesAt]; trivial
  | x :: r, i, h => by
    rw [NodesAt] at h ⊢
    obtain ⟨⟨b', o', h1, h2, h3⟩, h4⟩ := h
    simp only [Option.some.injEq, Addr.mk.injEq, and_true] at h1
    obtain ⟨rfl, rfl⟩ := h1
    refine ⟨⟨b, off + 5, rfl, h2, ?_⟩, h4.step⟩
    rw [show off + 5 + i * 5 = off + (i + 1) * 5 by omega]
    exact h3
set_option maxHeartbeats 8000000 in
set_option maxRecDepth 20000 in
theorem nplain_ok (token : Bool) (n : Nd) (W : World) (hT : Lib.Utf8Tabs 1 2 W) (v0 v1 v2 v3 v4 : Value) (hN : NodeAt W W.heap.size (some v0) (some v1) (some v2) (some v3) (some v4) n) : Calls Tryz.prog 82 #[.agg #[v0, v1, v2, v3, v4], .bool token] W fun e W' => e = .returned (.bool (plainN token n)) ∧ Below W.heap.size W W' := by
  have HBR := fun w (hg : Grew W w) => bare_ok n w W.heap.size v0 v1 v2 v3 v4 (hN.keep hg)
  obtain ⟨k, nm, tx, set, subs⟩ := n
  have hN' := hN
  rw [NodeAt] at hN
  obtain ⟨hk, h1, h2, h3, h4, h5, ⟨sa, sc, h6, h6', h7⟩, na, nc, h8, h8', h9⟩ := hN
  obtain rfl := Option.some.inj h3
  obtain rfl := Option.some.inj h4
  obtain rfl := Option.some.inj h5
  obtain rfl := Option.some.inj h6
  obtain rfl := Option.some.inj h8
  clear h3 h4 h5 h6 h8 hN'
  have e0 : plainN token (.mk k nm tx set subs) = plainX token (.mk k nm tx set subs) ((subs.drop 1).any predB) := rfl
  rw [e0]
  clear e0
  obtain ⟨zz, hzz⟩ : ∃ zz, (subs.drop 1).any predB = zz := ⟨_, rfl⟩
  rw [hzz]
  have HZ := Lib.hid hzz
  clear hzz
  obtain ⟨R, hR⟩ : ∃ R, plainX token (.mk k nm tx set subs) = R := ⟨_, rfl⟩
  rw [hR]
  have hR : ∀ x, plainK k subs.length token (bareB (.mk k nm tx set subs)) x (nameB nm.data.toList smallL) (nameB nm.data.toList bigL) (textB tx) (set.any badR) set.length = R x := fun x => by rw [← hR]; rfl
  generalize bareB (.mk k nm tx set subs) = B at *
  have HB := Lib.hid HBR
  have g1 := grew_alloc W (.cells #[.int .u8 k, .string nm, .string tx, .slice sa set.length sc, .slice na subs.length nc] 80)
  have o1 : Owns (W.alloc (.cells #[.int .u8 k, .string nm, .string tx, .slice sa set.length sc, .slice na subs.length nc] 80)) W.heap.size [.int .u8 k, .string nm, .string tx, .slice sa set.length sc, .slice na subs.length nc] 80 := Owns.alloc W _ _
  have H7 := Lib.hid h7
  have H9 := Lib.hid h9
  have HT := Lib.hid hT
  have HNM := Lib.hid (show nm.size ≤ 140737488355328 from h1)
  have HTX := Lib.hid (show tx.size ≤ 140737488355328 from h2)
  clear HBR h7 h9 hT h1 h2
  unfold reachN at h6' h8'
  go_enter Tryz.func82, Tryz.ntmps82
  go_wp2_with fail
  refine (HB.out _ g1).mono ?_
  rintro e w ⟨rfl, hb⟩
  have o2 := o1.keep hb
  have c0 := o2.cell_at (i := 0) rfl
  have c1 := o2.cell_at (i := 1) rfl
  have c2 := o2.cell_at (i := 2) rfl
  have c3 := o2.cell_at (i := 3) rfl
  have c4 := o2.cell_at (i := 4) rfl
  have cl := o2.lt
  have HG := Lib.hid (g1.trans hb)
  clear hb o1 o2 g1 HB
  unfold plainK at hR
  have HF := Lib.hid (fun (x : Bool) (w' : World) (h : R zz = x) (hg : Grew W w') => (⟨ret_bool h.symm, hg⟩ : Ending.returned (.bool x) = .returned (.bool (R zz)) ∧ Below W.heap.size W w'))
  have hR0 : B = false → R zz = false := fun h => by rw [← hR, h]; rfl
  have HR := Lib.hid hR
  clear hR
  cases B with
  | false =>
    have HR0 := Lib.hid (hR0 rfl)
    clear HR hR0
    go_wp2_with fail
    go_ret
    exact HF.out _ _ HR0.out HG.out
  | true =>
    clear hR0
    have hR := HR.out
    simp only [Bool.true_and] at hR
    clear HR
    by_cases k0 : k = 0
    · subst k0
      simp only [if_true] at hR
      have HR := Lib.hid hR
      clear hR
      generalize subs.length = m at *
      by_cases h2 : (2 : Int) ≤ m
      · by_cases h32 : (m : Int) ≤ 32
        · go_wp2_with fail
          go_ret
          refine HF.out _ _ ?_ HG.out
          rw [← HR.out zz, decide_eq_true (by omega : 2 ≤ m), decide_eq_true (by omega : m ≤ 32)] <;> first | rfl | (symm; simp; omega)
        · go_wp2_with fail
          go_ret
          refine HF.out _ _ ?_ HG.out
          rw [← HR.out zz, decide_eq_true (by omega : 2 ≤ m), decide_eq_false (by omega : ¬ m ≤ 32)] <;> first | rfl | (symm; simp; omega)
      · have h2b : decide ((2 : Int) ≤ m) = false := decide_eq_false h2
        have h2c : (m : Int) < 2 := by omega
        go_wp2_with fail
        go_ret
        refine HF.out _ _ ?_ HG.out
        rw [← HR.out zz, decide_eq_false (by omega : ¬ 2 ≤ m), Bool.false_and]
    simp only [if_neg k0] at hR
    have q0 : (k == 0) = false := beq_eq_false_iff_ne.2 k0
    by_cases k1 : k = 1
    · subst k1
      simp only [if_true] at hR
      have HR := Lib.hid hR
      clear hR k0 q0
      by_cases hm : subs.length = 1
      · have hmi : (subs.length : Int) = 1 := by omega
        have HM := Lib.hid hm
        generalize subs.length = m at *
        clear hm
        go_wp2_with fail
        go_ret
        refine HF.out _ _ ?_ HG.out
        rw [← HR.out zz, HM.out] <;> first | rfl | (symm; simp; omega)
      · have HM := Lib.hid (show subs.length ≠ 1 from hm)
        cases subs with
        | nil =>
          have mn : min (1 : Int) 0 = 0 := by decide
          have hC := contNodes_ok [] predB 110 #[] enters_pred w na nc (Nat.zero_le _) (by rw [NodesAt]; trivial) (pred_each w [])
          have HC := Lib.hid hC
          have hxx : List.any ([] : List Nd) predB = zz := HZ.out
          rw [hxx] at HC
          clear hC hm hxx
          go_wp2_with fail
          refine HC.out.mono ?_
          rintro e w2 ⟨rfl, hb2⟩
          have HG2 := Lib.hid (HG.out.trans hb2)
          clear hb2
          go_wp2_with fail
          go_ret
          refine HF.out _ _ ?_ HG2.out
          rw [← HR.out zz, decide_eq_true HM.out]; rfl
        | cons s0 r0 =>
          obtain ⟨⟨b, off, rfl, hbl, -⟩, hrest⟩ := (show NodesAt W W.heap.size na 0 (s0 :: r0) from H9.out)
          have mn : min (1 : Int) ((r0.length : Int) + 1) = 1 := by omega
          have m1 : ((r0.length : Int) + 1 != 1) = true := by simp only [List.length_cons] at hm; simp; omega
          have hlen : (s0 :: r0).length ≤ 140737488355328 := Nat.le_trans h8' (Nat.min_le_left _ _)
          have hN1 := Lib.hid ((hrest.step.keep HG.out).mono HG.out.size)
          have hN2 := Lib.hid ((((show NodesAt W W.heap.size (some ⟨b, off, none⟩) 0 (s0 :: r0) from H9.out).first r0.length).keep HG.out).mono HG.out.size)
          have hl2 : ((s0 :: r0).take r0.length).length = r0.length := by rw [List.length_take, List.length_cons]; omega
          have HL2 := Lib.hid hl2
          have HLEN := Lib.hid hlen
          clear hm hrest hl2 hlen
          go_wp2_with fail
          · have hC := contNodes_ok ((s0 :: r0).take r0.length) predB 110 #[] enters_pred w (some ⟨b, off, none⟩) 0 (by rw [HL2.out]; have := HLEN.out; rw [List.length_cons] at this; unfold reachN; omega) hN2.out (pred_each w _)
            rw [HL2.out] at hC
            have hxx : ((s0 :: r0).take r0.length).any predB = zz := by
              exfalso
              have h1 := HM.out
              simp only [List.length_cons] at h1 h8'
              omega
            rw [hxx] at hC
            have HC := Lib.hid hC
            clear hC hxx
            refine HC.out.mono ?_
            rintro e w2 ⟨rfl, hb2⟩
            have HG2 := Lib.hid (HG.out.trans hb2)
            clear hb2
            go_wp2_with fail
            go_ret
            refine HF.out _ _ ?_ HG2.out
            rw [← HR.out zz, decide_eq_true HM.out]; rfl
          · have hC := contNodes_ok r0 predB 110 #[] enters_pred w (some ⟨b, off + 5, none⟩) (nc - 1) (by have := HLEN.out; rw [List.length_cons] at this; unfold reachN; omega) hN1.out (pred_each w _)
            have hxx : r0.any predB = zz := HZ.out
            rw [hxx] at hC
            have HC := Lib.hid hC
            clear hC hxx
            refine HC.out.mono ?_
            rintro e w2 ⟨rfl, hb2⟩
            have HG2 := Lib.hid (HG.out.trans hb2)
            clear hb2
            go_wp2_with fail
            go_ret
            refine HF.out _ _ ?_ HG2.out
            rw [← HR.out zz, decide_eq_true HM.out]; rfl
    simp only [if_neg k1] at hR
    have q1 : (k == 1) = false := beq_eq_false_iff_ne.2 k1
    by_cases k24 : k = 2 ∨ k = 3 ∨ k = 4
    · simp only [if_pos k24] at hR
      have HR := Lib.hid hR
      clear hR
      generalize subs.length = m at *
      by_cases hm : (m : Int) = 1
      · rcases k24 with rfl | rfl | rfl
        all_goals
          clear k0 k1 q0 q1
          go_wp2_with fail
          go_ret
          refine HF.out _ _ ?_ HG.out
          rw [← HR.out zz, decide_eq_true (by omega : m = 1)] <;> first | rfl | (symm; simp; omega)
      · have hmb : ((m : Int) == 1) = false := beq_eq_false_iff_ne.2 hm
        rcases k24 with rfl | rfl | rfl
        all_goals
          clear k0 k1 q0 q1
          go_wp2_with fail
          go_ret
          refine HF.out _ _ ?_ HG.out
          rw [← HR.out zz, decide_eq_false (by omega : ¬ m = 1)] <;> first | rfl | (symm; simp; omega)
    simp only [if_neg k24] at hR
    have k2 : ¬ k = 2 := fun e => k24 (.inl e)
    have k3 : ¬ k = 3 := fun e => k24 (.inr (.inl e))
    have k4 : ¬ k = 4 := fun e => k24 (.inr (.inr e))
    have q2 : (k == 2) = false := beq_eq_false_iff_ne.2 k2
    have q3 : (k == 3) = false := beq_eq_false_iff_ne.2 k3
    have q4 : (k == 4) = false := beq_eq_false_iff_ne.2 k4
    clear k24
    by_cases k7 : k = 7
    · subst k7
      simp only [if_true] at hR
      have HR := Lib.hid hR
      clear hR k0 k1 k2 k3 k4 q0 q1 q2 q3 q4
      generalize subs.length = m at *
      by_cases hm : (m : Int) = 1
      · cases token
        all_goals
          go_wp2_with fail
          go_ret
          refine HF.out _ _ ?_ HG.out
          rw [← HR.out zz, decide_eq_true (by omega : m = 1)] <;> rfl
      · have hmb : ((m : Int) == 1) = false := beq_eq_false_iff_ne.2 hm
        cases token
        all_goals
          go_wp2_with fail
          go_ret
          refine HF.out _ _ ?_ HG.out
          rw [← HR.out zz, decide_eq_false (by omega : ¬ m = 1)] <;> rfl
    simp only [if_neg k7] at hR
    have q7 : (k == 7) = false := beq_eq_false_iff_ne.2 k7
    by_cases k5 : k = 5
    · subst k5
      simp only [if_true] at hR
      have HR := Lib.hid hR
      have hN : Calls Tryz.prog 111 #[.string nm, .string { data := #[97, 98, 99, 100, 101, 102, 103, 104, 105, 106, 107, 108, 109, 110, 111, 112, 113, 114, 115, 116, 117, 118, 119, 120, 121, 122] }] w fun e W' => e = .returned (.bool (nameB nm.data.toList smallL)) ∧ Below w.heap.size w W' := nname_ok nm _ w HNM.out
      generalize nameB nm.data.toList smallL = NB at *
      have HN := Lib.hid hN
      clear hN hR k0 k1 k2 k3 k4 k7 q0 q1 q2 q3 q4 q7
      generalize subs.length = m at *
      by_cases hm : (m : Int) = 0
      · cases token
        · have hm0 : m = 0 := by omega
          subst hm0
          go_wp2_with fail
          refine HN.out.mono ?_
          rintro e w2 ⟨rfl, hb2⟩
          have HG2 := Lib.hid (HG.out.trans hb2)
          clear hb2
          go_wp2_with fail
          go_ret
          refine HF.out _ _ ?_ HG2.out
          rw [← HR.out zz]; simp
        · go_wp2_with fail
          go_ret
          refine HF.out _ _ ?_ HG.out
          rw [← HR.out zz, decide_eq_true (by omega : m = 0)] <;> first | rfl | simp
      · have hmb : ((m : Int) == 0) = false := beq_eq_false_iff_ne.2 hm
        go_wp2_with fail
        go_ret
        refine HF.out _ _ ?_ HG.out
        rw [← HR.out zz, decide_eq_false (by omega : ¬ m = 0)] <;> first | rfl | simp
    simp only [if_neg k5] at hR
    have q5 : (k == 5) = false := beq_eq_false_iff_ne.2 k5
    by_cases k6 : k = 6
    · subst k6
      simp only [if_true] at hR
      have HR := Lib.hid hR
      have hN : Calls Tryz.prog 111 #[.string nm, .string { data := #[65, 66, 67, 68, 69, 70, 71, 72, 73, 74, 75, 76, 77, 78, 79, 80, 81, 82, 83, 84, 85, 86, 87, 88, 89, 90] }] w fun e W' => e = .returned (.bool (nameB nm.data.toList bigL)) ∧ Below w.heap.size w W' := nname_ok nm _ w HNM.out
      generalize nameB nm.data.toList bigL = NB at *
      have HN := Lib.hid hN
      clear hN hR k0 k1 k2 k3 k4 k5 k7 q0 q1 q2 q3 q4 q5 q7
      generalize subs.length = m at *
      by_cases hm : (m : Int) = 0
      · have hm0 : m = 0 := by omega
        subst hm0
        go_wp2_with fail
        refine HN.out.mono ?_
        rintro e w2 ⟨rfl, hb2⟩
        have HG2 := Lib.hid (HG.out.trans hb2)
        clear hb2
        go_wp2_with fail
        go_ret
        refine HF.out _ _ ?_ HG2.out
        rw [← HR.out zz]; simp
      · have hmb : ((m : Int) == 0) = false := beq_eq_false_iff_ne.2 hm
        go_wp2_with fail
        go_ret
        refine HF.out _ _ ?_ HG.out
        rw [← HR.out zz, decide_eq_false (by omega : ¬ m = 0)] <;> first | rfl | simp
    simp only [if_neg k6] at hR
    have q6 : (k == 6) = false := beq_eq_false_iff_ne.2 k6
    by_cases k8 : k = 8
    · subst k8
      simp only [if_true] at hR
      have HR := Lib.hid hR
      have hN := ntext_ok tx w HTX.out (tabs_grew HT.out HG.out)
      generalize textB tx = NB at *
      have HN := Lib.hid hN
      clear hN hR k0 k1 k2 k3 k4 k5 k6 k7 q0 q1 q2 q3 q4 q5 q6 q7
      generalize subs.length = m at *
      by_cases hm : (m : Int) = 0
      · have hm0 : m = 0 := by omega
        subst hm0
        cases token
        · go_wp2_with fail
          go_ret
          refine HF.out _ _ ?_ HG.out
          rw [← HR.out zz]; simp
        · skip
          go_wp2_with fail
          refine HN.out.mono ?_
          rintro e w2 ⟨rfl, hb2⟩
          have HG2 := Lib.hid (HG.out.trans hb2)
          clear hb2
          go_wp2_with fail
          go_ret
          refine HF.out _ _ ?_ HG2.out
          rw [← HR.out zz]; simp
      · have hmb : ((m : Int) == 0) = false := beq_eq_false_iff_ne.2 hm
        go_wp2_with fail
        go_ret
        refine HF.out _ _ ?_ HG.out
        rw [← HR.out zz, decide_eq_false (by omega : ¬ m = 0)] <;> first | rfl | simp
    simp only [if_neg k8] at hR
    have q8 : (k == 8) = false := beq_eq_false_iff_ne.2 k8
    by_cases k9 : k = 9
    · subst k9
      simp only [if_true] at hR
      have HR := Lib.hid hR
      have hN := contRanges_ok set w sa sc h6' ((H7.out.keep HG.out).mono HG.out.size)
      generalize set.any badR = NB at *
      have HN := Lib.hid hN
      clear hN hR k0 k1 k2 k3 k4 k5 k6 k7 k8 q0 q1 q2 q3 q4 q5 q6 q7 q8
      generalize subs.length = m at *
      by_cases hm : (m : Int) = 0
      · have hm0 : m = 0 := by omega
        subst hm0
        cases token
        · go_wp2_with fail
          go_ret
          refine HF.out _ _ ?_ HG.out
          rw [← HR.out zz]; simp
        · by_cases hsl : 0 < set.length
          · have hsi : (0 : Int) < (set.length : Int) := by omega
            go_wp2_with fail
            refine HN.out.mono ?_
            rintro e w2 ⟨rfl, hb2⟩
            have HG2 := Lib.hid (HG.out.trans hb2)
            clear hb2
            go_wp2_with fail
            go_ret
            refine HF.out _ _ ?_ HG2.out
            rw [← HR.out zz]; simp [hsl]
          · have hsi : ¬ (0 : Int) < (set.length : Int) := by omega
            go_wp2_with fail
            go_ret
            refine HF.out _ _ ?_ HG.out
            rw [← HR.out zz]; simp [hsl]
      · have hmb : ((m : Int) == 0) = false := beq_eq_false_iff_ne.2 hm
        go_wp2_with fail
        go_ret
        refine HF.out _ _ ?_ HG.out
        rw [← HR.out zz, decide_eq_false (by omega : ¬ m = 0)] <;> first | rfl | simp
    simp only [if_neg k9] at hR
    have q9 : (k == 9) = false := beq_eq_false_iff_ne.2 k9
    have HR := Lib.hid hR
    clear hR k0 k1 k2 k3 k4 k5 k6 k7 k8 k9
    go_wp2_with fail
    go_ret
    exact HF.out _ _ (HR.out zz).symm HG.out
end Go.Proofs.YtppjmdanckdobaaGreatDoor
