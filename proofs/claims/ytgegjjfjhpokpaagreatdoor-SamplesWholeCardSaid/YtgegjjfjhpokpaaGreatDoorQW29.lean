/- Names and texts of nodes. -/
import Derived.Shelf.Strings.SlTrimAscii
import Derived.Test.YtgegjjfjhpokpaaGreatDoorQW28
import Derived.Test.YtgegjjfjhpokpaaGreatDoorQW3
import Derived.Test.YtgegjjfjhpokpaaGreatDoorQW9
import Derived.Test.YtgegjjfjhpokpaaGreatDoorQW21
namespace Go.Proofs.YtgegjjfjhpokpaaGreatDoor
open Go.RowKit

def restL : List UInt8 := "abcdefghijklmnopqrstuvwxyzABCDEFGHIJKLMNOPQRSTUVWXYZ0123456789_".toUTF8.data.toList
/-- a name that begins with one of these -/
def nameB (s first : List UInt8) : Bool := decide (s ≠ []) && decide (s.length ≤ 64) && decide (0 ≤ Lib.indexByte first (s.getD 0 0)) && decide (Lib.trimS s restL = [])

theorem trim_ok (s cs : ByteArray) (W : World) (hs : s.size ≤ 140737488355328) (hc : cs.size < 4294967281) (ha : ∀ x ∈ cs.data.toList, x.toNat < 128) :
    Calls Tryz.prog 107 #[.string s, .string cs] W fun e W' => e = .returned (.string ⟨(Lib.trimS s.data.toList cs.data.toList).toArray⟩) ∧ Below W.heap.size W W' :=
  Any.strings_Trim_ascii Tryz.lays160 (fun w => by kernel_rfl) (by kernel_rfl) s cs W (by omega) hc fun j b hj => ha b (List.mem_of_getElem? hj)
theorem toList_nil (s : ByteArray) : s.toList.isEmpty = decide (s.data.toList = []) := by
  rw [Lib.toList_data]
  cases s.data.toList <;> simp

set_option maxHeartbeats 4000000 in
set_option maxRecDepth 20000 in
theorem nname_ok (s first : ByteArray) (W : World) (hs : s.size ≤ 140737488355328) : Calls Tryz.prog 84 #[.string s, .string first] W fun e W' => e = .returned (.bool (nameB s.data.toList first.data.toList)) ∧ Below W.heap.size W W' := by
  have hem := toList_nil s
  unfold nameB
  by_cases h0 : s.data.toList = []
  · rw [decide_eq_true h0] at hem
    rw [decide_eq_false (by simpa using h0), Bool.false_and, Bool.false_and, Bool.false_and]
    clear h0
    go_enter Tryz.func84, Tryz.ntmps84
    go_wp2_with fail
    go_ret
    exact ⟨rfl, Below.refl _ _⟩
  · rw [decide_eq_false h0] at hem
    have hpos : 0 < s.size := by rw [Lib.size_eq]; exact List.length_pos_iff.2 h0
    rw [decide_eq_true h0, Bool.true_and]
    rw [← Lib.size_eq]
    by_cases h64 : s.size ≤ 64
    · rw [decide_eq_true h64, Bool.true_and]
      obtain ⟨c, hc⟩ : ∃ c, s[0] = c := ⟨_, rfl⟩
      have hcd : s.data.toList.getD 0 0 = c := by
        rw [← hc, List.getD_eq_getElem?_getD, List.getElem?_eq_getElem (by rw [← Lib.size_eq]; exact hpos)]
        rfl
      rw [hcd]
      have hI := Tryz.strings_IndexByte first (c.toNat : Int) W
      rw [show ((c.toNat : Int)).toNat.toUInt8 = c by simp] at hI
      obtain ⟨z, hz⟩ : ∃ z, Lib.indexByte first.data.toList c = z := ⟨_, rfl⟩
      rw [hz] at hI ⊢
      have HI := Lib.hid hI
      clear hI hz hcd h0
      by_cases hz0 : 0 ≤ z
      · rw [decide_eq_true hz0, Bool.true_and]
        have hT := trim_ok s { data := #[97, 98, 99, 100, 101, 102, 103, 104, 105, 106, 107, 108, 109, 110, 111, 112, 113, 114, 115, 116, 117, 118, 119, 120, 121, 122, 65, 66, 67, 68, 69, 70, 71, 72, 73, 74, 75, 76, 77, 78, 79, 80, 81, 82, 83, 84, 85, 86, 87, 88, 89, 90, 48, 49, 50, 51, 52, 53, 54, 55, 56, 57, 95] } W hs (by decide +kernel) (by decide +kernel)
        obtain ⟨T, hTT⟩ : ∃ T, Lib.trimS s.data.toList restL = T := ⟨_, rfl⟩
        have hT2 : Calls Tryz.prog 107 #[.string s, .string { data := #[97, 98, 99, 100, 101, 102, 103, 104, 105, 106, 107, 108, 109, 110, 111, 112, 113, 114, 115, 116, 117, 118, 119, 120, 121, 122, 65, 66, 67, 68, 69, 70, 71, 72, 73, 74, 75, 76, 77, 78, 79, 80, 81, 82, 83, 84, 85, 86, 87, 88, 89, 90, 48, 49, 50, 51, 52, 53, 54, 55, 56, 57, 95] }] W fun e W' => e = .returned (.string ⟨T.toArray⟩) ∧ Below W.heap.size W W' := by rw [← hTT]; exact hT
        rw [hTT]
        have HT := Lib.hid hT2
        have hte := toList_nil ⟨T.toArray⟩
        rw [show (⟨T.toArray⟩ : ByteArray).data.toList = T from rfl] at hte
        obtain ⟨U, hU⟩ : ∃ U : ByteArray, (⟨T.toArray⟩ : ByteArray) = U := ⟨_, rfl⟩
        rw [hU] at HT hte
        clear hT hT2 hTT hU
        go_enter Tryz.func84, Tryz.ntmps84
        go_wp2_with fail
        refine HI.out.mono ?_
        rintro e w ⟨rfl, rfl⟩
        go_wp2_with fail
        refine HT.out.mono ?_
        rintro e w ⟨rfl, hb⟩
        have HB := Lib.hid hb
        clear hb
        go_wp2_with fail
        go_ret
        exact ⟨rfl, HB.out⟩
      · rw [decide_eq_false hz0, Bool.false_and]
        go_enter Tryz.func84, Tryz.ntmps84
        go_wp2_with fail
        refine HI.out.mono ?_
        rintro e w ⟨rfl, rfl⟩
        go_wp2_with fail
        go_ret
        exact ⟨rfl, Below.refl _ _⟩
    · rw [decide_eq_false h64, Bool.false_and, Bool.false_and]
      have h64i : ¬ ((s.size : Int) ≤ 64) := by omega
      go_enter Tryz.func84, Tryz.ntmps84
      go_wp2_with fail
      go_ret
      exact ⟨rfl, Below.refl _ _⟩
end Go.Proofs.YtgegjjfjhpokpaaGreatDoor

/- Texts, ranges and bareness of nodes. -/
namespace Go.Proofs.YtgegjjfjhpokpaaGreatDoor
open Go.RowKit

def textB (s : ByteArray) : Bool := decide (s.data.toList ≠ []) && decide (bad s < 0)
set_option maxHeartbeats 4000000 in
set_option maxRecDepth 20000 in
theorem ntext_ok (s : ByteArray) (W : World) (hs : s.size ≤ 140737488355328) (hT : Lib.Utf8Tabs 1 2 W) : Calls Tryz.prog 85 #[.string s] W fun e W' => e = .returned (.bool (textB s)) ∧ Below W.heap.size W W' := by
  have hem := toList_nil s
  unfold textB
  by_cases h0 : s.data.toList = []
  · rw [decide_eq_true h0] at hem
    rw [decide_eq_false (by simpa using h0), Bool.false_and]
    clear h0
    go_enter Tryz.func85, Tryz.ntmps85
    go_wp2_with fail
    go_ret
    exact ⟨rfl, Below.refl _ _⟩
  · rw [decide_eq_false h0] at hem
    rw [decide_eq_true h0, Bool.true_and]
    have hB := bad_ok s W hs hT
    generalize bad s = z at *
    have HB := Lib.hid hB
    clear hB h0
    go_enter Tryz.func85, Tryz.ntmps85
    go_wp2_with fail
    refine HB.out.mono ?_
    rintro e w ⟨rfl, hb⟩
    have HBB := Lib.hid hb
    clear hb
    go_wp2_with fail
    go_ret
    exact ⟨rfl, HBB.out⟩
/-- a range that may not be -/
def badR (r : Int × Int) : Bool := decide (r.2 < r.1) || !Lib.validRune r.1 || !Lib.validRune r.2
set_option maxHeartbeats 4000000 in
set_option maxRecDepth 20000 in
theorem nbad_ok (r : Int × Int) (W : World) : Calls Tryz.prog 87 #[.agg #[.int .i32 r.1, .int .i32 r.2]] W fun e W' => e = .returned (.bool (badR r)) ∧ Below W.heap.size W W' := by
  have h1 := fun w => Tryz.utf8_ValidRune r.1 w
  have h2 := fun w => Tryz.utf8_ValidRune r.2 w
  unfold badR
  obtain ⟨a, b⟩ := r
  simp only at h1 h2 ⊢
  cases hv1 : Lib.validRune a <;> cases hv2 : Lib.validRune b
  all_goals
    rw [hv1] at h1
    rw [hv2] at h2
    have H1 := Lib.hid h1
    have H2 := Lib.hid h2
    clear h1 h2 hv1 hv2
    by_cases hlt : b < a
    · rw [decide_eq_true hlt]
      go_enter Tryz.func87, Tryz.ntmps87
      go_wp2_with fail
      go_ret
      exact ⟨rfl, grew_alloc _ _⟩
    · rw [decide_eq_false hlt]
      go_enter Tryz.func87, Tryz.ntmps87
      go_wp2_with fail
      refine (H1.out _).mono ?_
      rintro e w ⟨rfl, rfl⟩
      go_wp2_with fail
      first
        | (go_ret; exact ⟨rfl, grew_alloc _ _⟩)
        | (refine (H2.out _).mono ?_; rintro e w ⟨rfl, rfl⟩; go_wp2_with fail; go_ret; exact ⟨rfl, grew_alloc _ _⟩)
theorem RangesAt.get {W : World} {lim : Nat} {a : Option Addr} : ∀ {l : List (Int × Int)} {i k : Nat} (_ : RangesAt W lim a i l) (hk : k < l.length),
    ∃ b off, a = some ⟨b, off, none⟩ ∧ b < lim ∧ W.cell? ⟨b, off + (i + k) * 2, none⟩ = some (.int .i32 l[k].1) ∧ W.cell? ⟨b, off + (i + k) * 2 + 1, none⟩ = some (.int .i32 l[k].2)
  | [], _, _, _, hk => absurd hk (by simp)
  | x :: r, i, 0, h, _ => h.1
  | x :: r, i, k + 1, h, hk => by
    obtain ⟨b, off, h1, h2, h3, h4⟩ := RangesAt.get (k := k) h.2 (by simpa using hk)
    have e : i + 1 + k = i + (k + 1) := by omega
    rw [e] at h3 h4
    exact ⟨b, off, h1, h2, by simpa using h3, by simpa using h4⟩
theorem enters_nbad : Enters 87 := fun _ _ => by kernel_rfl
set_option maxHeartbeats 1000000 in
set_option maxRecDepth 20000 in
theorem indexRanges_ok (l : List (Int × Int)) (W : World) (a : Option Addr) (cap : Nat) (hl : l.length ≤ reachN) (hR : RangesAt W W.heap.size a 0 l) :
    Calls Tryz.prog 109 #[.slice a l.length cap, .func (.func 87) #[] #[]] W fun e W' => e = .returned (.int .i64 (ixOf l badR)) ∧ Below W.heap.size W W' := by
  unfold reachN at hl
  have hF := enters_nbad
  go_enter Tryz.func109, Tryz.ntmps109
  go_wp2
  go_loopw [8] (fun i wr => ∃ (j : Nat), i = .int .i64 j ∧ j ≤ l.length ∧ Hid (NoneTo l badR j) ∧ Below W.heap.size W wr) (fun i _ => l.length - (intOf i).toNat)
  case atStart =>
    exact ⟨0, rfl, by omega, fun i hi h => absurd h (by omega), Below.refl _ _⟩
  case round =>
    obtain ⟨j, rfl, hj, hf, hbw⟩ := hrel
    by_cases hlt : j < l.length
    · obtain ⟨b, off, rfl, hb, e0, e1⟩ := (hR.keep hbw).get hlt
      simp only [Nat.zero_add] at e0 e1
      have hbl : b < wr.heap.size := by have := hbw.size; omega
      have HS := Lib.hid (nbad_ok l[j] wr)
      clear hR
      have hFx := hF
      unfold Enters at hFx
      clear hF
      obtain ⟨t, ht⟩ : ∃ t, t = badR l[j] := ⟨_, rfl⟩
      rw [← ht] at HS
      have HQ := Lib.hid ht
      clear ht
      cases t
      · go_wp2_with (refine HS.out.mono ?_; rintro e w2 ⟨rfl, hb2⟩)
        exact ⟨⟨j + 1, by go_num, by omega, noneTo_next hf.out hlt HQ.out.symm, hbw.trans (hb2.mono hbw.size)⟩, by simp [intOf]; omega⟩
      · go_wp2_with (refine HS.out.mono ?_; rintro e w2 ⟨rfl, hb2⟩)
        go_ret
        exact ⟨ret_int (ixOf_at hlt hf.out HQ.out.symm).symm, hbw.trans (hb2.mono hbw.size)⟩
    · go_wp2_with fail
      go_ret
      exact ⟨ret_int (ixOf_none fun i hi => hf.out i hi (by omega)).symm, hbw⟩
theorem contRanges_ok (l : List (Int × Int)) (W : World) (a : Option Addr) (cap : Nat) (hl : l.length ≤ reachN) (hR : RangesAt W W.heap.size a 0 l) :
    Calls Tryz.prog 86 #[.slice a l.length cap, .func (.func 87) #[] #[]] W fun e W' => e = .returned (.bool (l.any badR)) ∧ Below W.heap.size W W' := by
  have hS := Lib.hid (indexRanges_ok l W a cap hl hR)
  clear hR
  go_enter Tryz.func86, Tryz.ntmps86
  go_wp2_with (go_at_call 109; refine hS.out.mono ?_; rintro e w' ⟨rfl, hb2⟩)
  go_ret
  exact ⟨ret_bool (ixOf_any l badR), hb2⟩
/-- is a node a predicate? -/
def predB (n : Nd) : Bool := n.kind == 7
theorem enters_pred : Enters 83 := fun _ _ => by kernel_rfl
set_option maxRecDepth 20000 in
theorem predicts_ok (n : Nd) (W : World) (lim : Nat) (v0 v1 v2 v3 v4 : Value) (hN : NodeAt W lim (some v0) (some v1) (some v2) (some v3) (some v4) n) : Calls Tryz.prog 83 #[.agg #[v0, v1, v2, v3, v4]] W fun e W' => e = .returned (.bool (predB n)) ∧ Below W.heap.size W W' := by
  obtain ⟨k, nm, tx, set, subs⟩ := n
  rw [NodeAt] at hN
  obtain ⟨hk, h1, h2, h3, h4, h5, ⟨sa, sc, h6, h6', h7⟩, na, nc, h8, h8', h9⟩ := hN
  obtain rfl := Option.some.inj h3
  obtain rfl := Option.some.inj h4
  obtain rfl := Option.some.inj h5
  obtain rfl := Option.some.inj h6
  obtain rfl := Option.some.inj h8
  clear h3 h4 h5 h6 h7 h8 h9
  unfold predB
  show Calls _ _ _ _ fun e W' => e = .returned (.bool (k == 7)) ∧ Below W.heap.size W W'
  go_enter Tryz.func83, Tryz.ntmps83
  go_wp2_with fail
  go_ret
  exact ⟨rfl, grew_alloc _ _⟩
/-- has a node nothing that its kind does not have? (x, y, z: no name, no text, no set) -/
def bareK (k : Int) (x y z : Bool) : Bool := if k = 5 ∨ k = 6 then y && z else if k = 8 then x && z else if k = 9 then x && y else x && y && z
def bareB (n : Nd) : Bool := bareK n.kind (decide (n.name.data.toList = [])) (decide (n.text.data.toList = [])) (decide (n.set = []))
end Go.Proofs.YtgegjjfjhpokpaaGreatDoor

/- bare and plain: may a node be, its Subs let be? -/
namespace Go.Proofs.YtgegjjfjhpokpaaGreatDoor
open Go.RowKit

set_option maxHeartbeats 8000000 in
set_option maxRecDepth 20000 in
theorem bare_ok (n : Nd) (W : World) (lim : Nat) (v0 v1 v2 v3 v4 : Value) (hN : NodeAt W lim (some v0) (some v1) (some v2) (some v3) (some v4) n) : Calls Tryz.prog 82 #[.agg #[v0, v1, v2, v3, v4]] W fun e W' => e = .returned (.bool (bareB n)) ∧ Below W.heap.size W W' := by
  obtain ⟨k, nm, tx, set, subs⟩ := n
  rw [NodeAt] at hN
  obtain ⟨hk, h1, h2, h3, h4, h5, ⟨sa, sc, h6, h6', h7⟩, na, nc, h8, h8', h9⟩ := hN
  obtain rfl := Option.some.inj h3
  obtain rfl := Option.some.inj h4
  obtain rfl := Option.some.inj h5
  obtain rfl := Option.some.inj h6
  obtain rfl := Option.some.inj h8
  clear h3 h4 h5 h6 h7 h8 h9
  have en := toList_nil nm
  have et := toList_nil tx
  have es : ((set.length : Int) == 0) = decide (set = []) := by
    cases set with
    | nil => rfl
    | cons x l => rw [decide_eq_false (by simp), beq_eq_false_iff_ne]; simp; omega
  obtain ⟨B, hB⟩ : ∃ B, bareB (.mk k nm tx set subs) = B := ⟨_, rfl⟩
  rw [hB]
  have hB : bareK k (decide (nm.data.toList = [])) (decide (tx.data.toList = [])) (decide (set = [])) = B := hB
  generalize decide (nm.data.toList = []) = x at *
  generalize decide (tx.data.toList = []) = y at *
  generalize decide (set = []) = z at *
  generalize set.length = sl at *
  unfold bareK at hB
  by_cases k5 : k = 5
  · subst k5
    rw [if_pos (.inl rfl)] at hB
    subst hB
    cases y <;> cases z
    all_goals
      go_enter Tryz.func82, Tryz.ntmps82
      go_wp2_with fail
      go_ret
      exact ⟨rfl, grew_alloc _ _⟩
  · by_cases k6 : k = 6
    · subst k6
      rw [if_pos (.inr rfl)] at hB
      subst hB
      cases y <;> cases z
      all_goals
        go_enter Tryz.func82, Tryz.ntmps82
        go_wp2_with fail
        go_ret
        exact ⟨rfl, grew_alloc _ _⟩
    · rw [if_neg (by omega)] at hB
      by_cases k8 : k = 8
      · subst k8
        rw [if_pos rfl] at hB
        subst hB
        cases x <;> cases z
        all_goals
          go_enter Tryz.func82, Tryz.ntmps82
          go_wp2_with fail
          go_ret
          exact ⟨rfl, grew_alloc _ _⟩
      · rw [if_neg k8] at hB
        by_cases k9 : k = 9
        · subst k9
          rw [if_pos rfl] at hB
          subst hB
          cases x <;> cases y
          all_goals
            go_enter Tryz.func82, Tryz.ntmps82
            go_wp2_with fail
            go_ret
            exact ⟨rfl, grew_alloc _ _⟩
        · rw [if_neg k9] at hB
          subst hB
          have q5 : (k == 5) = false := beq_eq_false_iff_ne.2 k5
          have q6 : (k == 6) = false := beq_eq_false_iff_ne.2 k6
          have q8 : (k == 8) = false := beq_eq_false_iff_ne.2 k8
          have q9 : (k == 9) = false := beq_eq_false_iff_ne.2 k9
          clear k5 k6 k8 k9
          cases x <;> cases y <;> cases z
          all_goals
            go_enter Tryz.func82, Tryz.ntmps82
            go_wp2_with fail
            go_ret
            exact ⟨rfl, grew_alloc _ _⟩
end Go.Proofs.YtgegjjfjhpokpaaGreatDoor
