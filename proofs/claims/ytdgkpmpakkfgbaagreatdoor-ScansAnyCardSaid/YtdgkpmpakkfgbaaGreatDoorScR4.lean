/- The document's Bad and Place. -/
import Derived.Test.YtdgkpmpakkfgbaaGreatDoorScR3
namespace Go.Proofs.YtdgkpmpakkfgbaaGreatDoor
open Go.RowKit

theorem rdec_ok (u : List UInt8) (hne : u ≠ []) (hb : ¬ badAt u) : rdec u = ((Lib.decodeL u).1, (Lib.decodeL u).2, true) := by
  unfold rdec
  rw [if_neg hne, if_neg hb]
theorem rdec_bad (u : List UInt8) (hne : u ≠ []) (hb : badAt u) : rdec u = (0, 1, false) := by
  unfold rdec
  rw [if_neg hne, if_pos hb]
theorem rdec_wid (u : List UInt8) (hne : u ≠ []) : (rdec u).2.1 = (Lib.decodeL u).2 := by
  by_cases hb : badAt u
  · rw [rdec_bad u hne hb]
    exact hb.2.symm
  · rw [rdec_ok u hne hb]
theorem decodeL_four (u : List UInt8) : (Lib.decodeL u).2 ≤ 4 := width_le ⟨u.toArray⟩ 0
theorem drop_some (s : ByteArray) (j : Nat) (h : j < s.size) : s.data.toList.drop j ≠ [] := fun e => by
  have := congrArg List.length e
  rw [List.length_drop, ← Lib.size_eq] at this
  simp at this
  omega

set_option maxHeartbeats 1000000 in
set_option maxRecDepth 20000 in
theorem refBad_ok (s : ByteArray) (W : World) (hs : s.size ≤ 65536) :
    Calls Tryz.prog 16 #[.string s] W fun e W' => e = .returned (.int .i64 (badOf s.data.toList 0)) ∧ Below W.heap.size W W' := by
  obtain ⟨B, hB⟩ : ∃ B, badOf s.data.toList 0 = B := ⟨_, rfl⟩
  rw [hB]
  have HB := Lib.hid hB
  clear hB
  go_enter Tryz.func16, Tryz.ntmps16
  go_wp2_with fail
  go_loopw [3] (fun c wr => ∃ j : Nat, c = .int .i64 j ∧ j ≤ s.size ∧ Hid (badOf (s.data.toList.drop j) j = B) ∧ Hid (Below W.heap.size W wr)) (fun c _ => s.size - (intOf c).toNat)
  case atStart => exact ⟨0, rfl, by omega, by rw [List.drop_zero]; exact HB, Below.refl _ _⟩
  case round =>
    obtain ⟨j, rfl, hj, hb, hbw⟩ := hrel
    by_cases hlt : j < s.size
    · have hD := refDecode_ok s j wr hj hs
      have hne := drop_some s j hlt
      have hbj := hb.out
      rw [badOf_cons _ _ hne] at hbj
      have hw := rdec_wid _ hne
      have hp := decodeL_pos (s.data.toList.drop j)
      by_cases hba : badAt (s.data.toList.drop j)
      · rw [rdec_bad _ hne hba] at hD
        rw [if_pos hba] at hbj
        subst hbj
        have HD := Lib.hid hD
        clear hD hb hne hw hp hba
        go_wp2_with fail
        refine HD.out.mono ?_
        rintro e w ⟨rfl, hb2⟩
        go_wp2_with fail
        go_ret
        exact ⟨rfl, hbw.out.trans (hb2.mono (by have := hbw.out.size; omega))⟩
      · have hle := (decodeL_ext _ [] hba hne).2.2
        rw [List.length_drop, ← Lib.size_eq] at hle
        rw [rdec_ok _ hne hba] at hD
        rw [if_neg hba, List.drop_drop] at hbj
        generalize Lib.decodeL (s.data.toList.drop j) = p at *
        obtain ⟨r, z⟩ := p
        simp only at hle hp hbj
        have HD := Lib.hid hD
        have HBJ := Lib.hid hbj
        clear hD hb hne hw hba hbj
        go_wp2_with fail
        refine HD.out.mono ?_
        rintro e w ⟨rfl, hb2⟩
        go_wp2_with fail
        exact ⟨⟨j + z, by go_num, by omega, HBJ, Lib.hid (hbw.out.trans (hb2.mono (by have := hbw.out.size; omega)))⟩, by simp [intOf]; omega⟩
    · have : j = s.size := by omega
      have hbj := hb.out
      rw [List.drop_eq_nil_of_le (by rw [← Lib.size_eq]; omega), badOf_nil] at hbj
      subst hbj
      go_wp2_with fail
      go_ret
      exact ⟨rfl, hbw.out⟩

/-- what the document's Place answers for a place of the text -/
def RPlaceIs (l : List UInt8) (k : Nat) (W : World) (e : Ending) (W' : World) : Prop :=
  e = .returned (.agg #[.int .i64 k, .int .i64 (placeOf (l.take k) 1 1).1, .int .i64 (placeOf (l.take k) 1 1).2]) ∧ Below W.heap.size W W'

set_option maxHeartbeats 2000000 in
set_option maxRecDepth 20000 in
theorem refPlace_ok (s : ByteArray) (k : Nat) (W : World) (hs : s.size ≤ 65536) (hk : k ≤ s.size) : Calls Tryz.prog 15 #[.string s, .int .i64 k] W (RPlaceIs s.data.toList k W) := by
  unfold RPlaceIs
  obtain ⟨t, ht⟩ : ∃ t, s.extract 0 k = t := ⟨_, rfl⟩
  have htl : t.data.toList = s.data.toList.take k := by rw [← ht, Lib.extract_from_zero]
  have hsz : t.size = k := by
    rw [Lib.size_eq, htl, List.length_take, ← Lib.size_eq]
    omega
  rw [← htl]
  have hv : ∀ j (h : j < s.size), j < k → t.data.toList[j]? = some (s[j]'h) := fun j h h2 => by
    rw [htl, List.getElem?_take, if_pos h2]
    have h' : j < s.data.toList.length := by rw [← Lib.size_eq]; exact h
    rw [List.getElem?_eq_getElem h']
    rfl
  obtain ⟨⟨L, C⟩, ho⟩ : ∃ o, placeOf t.data.toList 1 1 = o := ⟨_, rfl⟩
  rw [ho]
  simp only
  have HO := Lib.hid ho
  have HT := Lib.hid ht
  have HV := Lib.hid hv
  clear ho ht htl hv
  obtain ⟨W1, hW1⟩ : ∃ W1, W.alloc (.cells #[.int .i64 0, .int .i64 0, .int .i64 0] 26) = W1 := ⟨_, rfl⟩
  have o1 := Owns.alloc W [.int .i64 0, .int .i64 0, .int .i64 0] 26
  have g1 : Below W.heap.size W (W.alloc (.cells #[.int .i64 0, .int .i64 0, .int .i64 0] 26)) := Below.alloc (Below.refl _ _) (Nat.le_refl _) _
  rw [show ([Value.int .i64 0, .int .i64 0, .int .i64 0] : List Value).toArray = #[.int .i64 0, .int .i64 0, .int .i64 0] from rfl, hW1] at o1
  rw [hW1] at g1
  have O1 := Lib.hid o1
  have G1 := Lib.hid g1
  have HW1 := Lib.hid hW1
  clear o1 g1 hW1
  have n0 : decide (s.size < k) = false := decide_eq_false (by omega)
  have n1 : decide ((k : Int) < 0) = false := decide_eq_false (by omega)
  go_enter Tryz.func15, Tryz.ntmps15
  go_wp2_with fail
  rw [HW1.out]
  try simp only [n0, n1]
  go_loopw [5, 6, 7] (fun vl vf vi wr => ∃ i f : Nat, vi = .int .i64 i ∧ i ≤ k ∧ vl = .int .i64 ((1 + (t.data.toList.take i).count 10 : Nat) : Int) ∧ vf = .int .i64 f ∧ f ≤ i ∧ Hid (f = 0 ∨ t.data.toList[f - 1]? = some 10) ∧ Hid (∀ b ∈ (t.data.toList.take i).drop f, b ≠ 10) ∧ wr = W1) (fun _ _ vi _ => k - (intOf vi).toNat)
  case atStart => exact ⟨0, 0, rfl, by omega, rfl, rfl, by omega, Lib.hid (.inl rfl), Lib.hid (by simp), rfl⟩
  case round =>
    obtain ⟨i, f, rfl, hi, rfl, rfl, hf, HF, HN, rfl⟩ := hrel
    by_cases hlt : i < k
    · have hlt2 : i < s.size := by omega
      have hv := HV.out i hlt2 hlt
      have hlt3 : i < t.data.toList.length := by rw [← Lib.size_eq]; omega
      have htk : t.data.toList.take (i + 1) = t.data.toList.take i ++ [s[i]'hlt2] := by
        rw [List.take_add_one, hv]
        rfl
      have hcb : (t.data.toList.take i).count 10 ≤ i := Nat.le_trans (List.count_le_length) (by rw [List.length_take]; omega)
      have hlen : (t.data.toList.take i).length = i := by rw [List.length_take]; omega
      by_cases hb : s[i]'hlt2 = 10
      · have hb10 : ((s[i]'hlt2).toNat : Int) = 10 := by rw [hb]; rfl
        have hcn : (t.data.toList.take (i + 1)).count 10 = (t.data.toList.take i).count 10 + 1 := by
          rw [htk, hb, List.count_append]
          rfl
        have hnx : ∀ b ∈ (t.data.toList.take (i + 1)).drop (i + 1), b ≠ 10 := fun b hb2 => by
          rw [List.drop_eq_nil_of_le (by rw [List.length_take]; omega)] at hb2
          exact absurd hb2 (by simp)
        rw [hb] at hv
        have HV2 := Lib.hid hv
        have HCN := Lib.hid hcn
        have HNX := Lib.hid hnx
        generalize (t.data.toList.take i).count 10 = cn at *
        clear hv htk hcn hlen hnx hlt3
        go_wp2_with fail
        refine ⟨⟨i + 1, i + 1, by go_num, by omega, ?_, by go_num, by omega, Lib.hid (.inr HV2.out), HNX, trivial⟩, by simp [intOf]; omega⟩
        rw [HCN.out]
        go_num
      · have hb10 : ¬ ((s[i]'hlt2).toNat : Int) = 10 := fun e => hb (UInt8.toNat_inj.1 (by show _ = 10; omega))
        have hcn : (t.data.toList.take (i + 1)).count 10 = (t.data.toList.take i).count 10 := by
          rw [htk, List.count_append, List.count_singleton, if_neg (by simpa using hb)]
          rfl
        have hnx : ∀ b ∈ (t.data.toList.take (i + 1)).drop f, b ≠ 10 := fun b hb2 => by
          rw [htk, List.drop_append_of_le_length (by omega)] at hb2
          rcases List.mem_append.1 hb2 with h | h
          · exact HN.out b h
          · rw [List.mem_singleton.1 h]
            exact hb
        have HCN := Lib.hid hcn
        have HNX := Lib.hid hnx
        generalize (t.data.toList.take i).count 10 = cn at *
        clear hv htk hcn hlen hnx hlt3
        go_wp2_with fail
        refine ⟨⟨i + 1, f, by go_num, by omega, ?_, rfl, by omega, HF, HNX, trivial⟩, by simp [intOf]; omega⟩
        rw [HCN.out]
    · have hik : k = i := by omega
      subst hik
      have htt : t.data.toList.take k = t.data.toList := List.take_of_length_le (by rw [← Lib.size_eq]; omega)
      rw [htt] at HN ⊢
      have hrp := ref_place t.data.toList f (by rw [← Lib.size_eq]; omega) HF.out HN.out
      rw [HO.out] at hrp
      have hL : 1 + t.data.toList.count 10 = L := (congrArg Prod.fst hrp).symm
      have hC : colL (t.data.toList.drop f) 1 = C := (congrArg Prod.snd hrp).symm
      rw [hL]
      have HC := Lib.hid hC
      clear hC hL hrp htt HN HF HO HV
      go_wp2_with fail
      rw [HT.out]
      go_loopw [6, 8] (fun vf vc wr => ∃ q c : Nat, vf = .int .i64 q ∧ vc = .int .i64 c ∧ q ≤ k ∧ c ≤ q + 1 ∧ Hid (colL (t.data.toList.drop q) c = C) ∧ Hid (Owns wr W.heap.size [.int .i64 0, .int .i64 0, .int .i64 0] 26) ∧ Hid (Below W.heap.size W wr)) (fun vf _ _ => k - (intOf vf).toNat)
      case atStart => exact ⟨f, 1, rfl, rfl, by omega, by omega, HC, O1, G1⟩
      case round =>
        obtain ⟨q, c, rfl, rfl, hq, hc, HQ, HO2, HG⟩ := hrel
        by_cases hlt2 : q < k
        · have hD := refDecode_ok t q wr (by omega) (by omega)
          have hne := drop_some t q (by omega)
          have hcl := HQ.out
          rw [colL_cons _ _ hne, List.drop_drop] at hcl
          have hw := rdec_wid _ hne
          have hp := decodeL_pos (t.data.toList.drop q)
          have hle : (Lib.decodeL (t.data.toList.drop q)).2 ≤ k - q := by
            by_cases hba : badAt (t.data.toList.drop q)
            · have := hba.2
              omega
            · have := (decodeL_ext _ [] hba hne).2.2
              rw [List.length_drop, ← Lib.size_eq] at this
              omega
          rw [← hw] at hle hp hcl
          generalize rdec (t.data.toList.drop q) = p at *
          obtain ⟨r, z, ok⟩ := p
          simp only at hle hp hcl
          have HD := Lib.hid hD
          have HCL := Lib.hid hcl
          clear hD hw hcl hne
          go_wp2_with fail
          refine HD.out.mono ?_
          rintro e w ⟨rfl, hb2⟩
          have o3 := Lib.hid (HO2.out.keep hb2)
          go_wp2_with fail
          exact ⟨⟨q + z, c + 1, by go_num, by go_num, by omega, by omega, HCL, o3, Lib.hid (HG.out.trans (hb2.mono (by have := HG.out.size; omega)))⟩, by simp [intOf]; omega⟩
        · have hqk : t.data.toList.drop q = [] := List.drop_eq_nil_of_le (by rw [← Lib.size_eq]; omega)
          have hcC := HQ.out
          rw [hqk, colL_nil] at hcC
          rw [hcC]
          have hres := HO2.out
          have f0 := hres.free 0
          have f1 := hres.free 1
          have f2 := hres.free 2
          have g0 := hres.cell_at (i := 0) rfl
          have g1 := hres.cell_at (i := 1) rfl
          have g2 := hres.cell_at (i := 2) rfl
          clear hqk hres hcC
          go_wp2_with fail
          have hres := HO2.out
          have hbw := HG.out
          have q := ((hres.set 0 (.int .i64 k)).set 1 (.int .i64 L)).set 2 (.int .i64 C)
          have hbq := ((hbw.setCell (p := ⟨W.heap.size, 0, none⟩) (by simp) (.int .i64 k)).setCell (p := ⟨W.heap.size, 1, none⟩) (by simp) (.int .i64 L)).setCell (p := ⟨W.heap.size, 2, none⟩) (by simp) (.int .i64 C)
          generalize ((wr.setCell ⟨W.heap.size, 0, none⟩ (.int .i64 k)).setCell ⟨W.heap.size, 1, none⟩ (.int .i64 L)).setCell ⟨W.heap.size, 2, none⟩ (.int .i64 C) = w3 at *
          have k0 := q.cell_at (i := 0) rfl
          have k1 := q.cell_at (i := 1) rfl
          have k2 := q.cell_at (i := 2) rfl
          refine bodyPost_ret (by simp [results, Tryz.results15, go_sem, k0, k1, k2]; try rfl) rfl ?_
          exact ⟨rfl, hbq⟩
end Go.Proofs.YtdgkpmpakkfgbaaGreatDoor
