/- The document's one. -/
import Derived.Test.YtdgkpmpakkfgbaaGreatDoorScR6
namespace Go.Proofs.YtdgkpmpakkfgbaaGreatDoor
open Go.RowKit

/-- the runes that stand for themselves in neither -/
def butOf (set : Bool) : List UInt8 := if set = true then [91, 93, 45] else [39]
/-- what the document's one answers -/
def ROneIs (o : Option (Nat × Nat)) (k : Nat) (W : World) (e : Ending) (W' : World) : Prop :=
  e = .returned (.tuple #[.int .i32 ((o.getD (0, 0)).1 : Nat), .int .i64 (match o with | none => -1 | some x => (k : Int) + x.2)]) ∧ Below W.heap.size W W'

set_option maxHeartbeats 8000000 in
set_option maxRecDepth 20000 in
theorem r2one_ok (s : ByteArray) (k : Nat) (set : Bool) (W : World) (hs : s.size ≤ 65536) (hk : k ≤ s.size) : Calls Tryz.prog 35 #[.string s, .int .i64 k, .bool set] W (ROneIs (runeF (butOf set) (s.data.toList.drop k)) k W) := by
  have hE := fun w => refEsc_ok s k w hs hk
  have hD := fun w => refDecode_ok s k w hk hs
  unfold ROneIs
  unfold runeF
  have hul : (s.data.toList.drop k).length ≤ s.size := by rw [List.length_drop, ← Lib.size_eq]; omega
  generalize s.data.toList.drop k = u at *
  cases he : escF u with
  | some x =>
    rw [he] at hE
    obtain ⟨r, n⟩ := x
    have hn : n ≤ 65536 := by have := (escF_in u r n he).2.1; omega
    have wkn : wrap64 ((k : Int) + n) = (k : Int) + n := by
      have := wrap_smallN (k + n) (by omega)
      simpa using this
    have HE := Lib.hid hE
    clear hE hD he
    go_enter Tryz.func35, Tryz.ntmps35
    go_wp2_with fail
    refine (HE.out _).mono ?_
    rintro e w ⟨rfl, rfl⟩
    go_wp2_with fail
    go_ret2
    exact ⟨rfl, Below.refl _ _⟩
  | none =>
    rw [he] at hE
    have HE := Lib.hid hE
    clear hE he
    by_cases hne : u = []
    · subst hne
      rw [show rdec [] = (0, 0, false) from rfl] at hD
      simp only [true_or, if_true]
      have HD := Lib.hid hD
      clear hD
      go_enter Tryz.func35, Tryz.ntmps35
      go_wp2_with fail
      refine (HE.out _).mono ?_
      rintro e w ⟨rfl, rfl⟩
      go_wp2_with fail
      refine (HD.out _).mono ?_
      rintro e w2 ⟨rfl, hb⟩
      go_wp2_with fail
      go_ret2
      exact ⟨rfl, hb⟩
    by_cases hba : badAt u
    · rw [rdec_bad u hne hba] at hD
      simp only [hba, true_or, or_true, if_true]
      have HD := Lib.hid hD
      clear hD hba hne
      go_enter Tryz.func35, Tryz.ntmps35
      go_wp2_with fail
      refine (HE.out _).mono ?_
      rintro e w ⟨rfl, rfl⟩
      go_wp2_with fail
      refine (HD.out _).mono ?_
      rintro e w2 ⟨rfl, hb⟩
      go_wp2_with fail
      go_ret2
      exact ⟨rfl, hb⟩
    · have hin : (Lib.decodeL u).2 ≤ 4 := decodeL_four u
      have hvr := decode_valid u
      rw [rdec_ok u hne hba] at hD
      simp only [hba, hne, false_or]
      generalize Lib.decodeL u = p at *
      obtain ⟨r, n⟩ := p
      simp only at hD hin hvr ⊢
      have hrr := valid_range _ hvr
      have wkn : wrap64 ((k : Int) + n) = (k : Int) + n := by
        have := wrap_smallN (k + n) (by omega)
        simpa using this
      have HD := Lib.hid hD
      have hset : (r < 128 ∧ amongB (butOf set) (UInt8.ofNat r) = true) ↔ ((set = false ∧ r = 39) ∨ (set = true ∧ (r = 91 ∨ r = 93 ∨ r = 45))) := by
        cases set
        · have h39 : ∀ c : UInt8, amongB [39] c = decide (c.toNat = 39) := all256 (by decide +kernel)
          show (r < 128 ∧ amongB [39] (UInt8.ofNat r) = true) ↔ _
          rw [h39, decide_eq_true_eq]
          constructor
          · rintro ⟨h, h2⟩
            rw [ofNat_n r (by omega)] at h2
            exact .inl ⟨rfl, h2⟩
          · rintro (⟨-, h⟩ | ⟨h, -⟩)
            · subst h; exact ⟨by omega, by decide⟩
            · exact absurd h (by simp)
        · have h3 : ∀ c : UInt8, amongB [91, 93, 45] c = decide (c.toNat = 91 ∨ c.toNat = 93 ∨ c.toNat = 45) := all256 (by decide +kernel)
          show (r < 128 ∧ amongB [91, 93, 45] (UInt8.ofNat r) = true) ↔ _
          rw [h3, decide_eq_true_eq]
          constructor
          · rintro ⟨h, h2⟩
            rw [ofNat_n r (by omega)] at h2
            exact .inr ⟨rfl, h2⟩
          · rintro (⟨h, -⟩ | ⟨-, h⟩)
            · exact absurd h (by simp)
            · rcases h with h | h | h
              all_goals (subst h; exact ⟨by omega, by decide⟩)
      simp only [hset]
      clear hD hba hne hset hvr
      cases set
      · by_cases hc : r = 10 ∨ r = 92 ∨ r = 39
        · have hcc : r = 10 ∨ r = 92 ∨ (false = false ∧ r = 39 ∨ false = true ∧ (r = 91 ∨ r = 93 ∨ r = 45)) := by
            rcases hc with h | h | h
            · exact .inl h
            · exact .inr (.inl h)
            · exact .inr (.inr (.inl ⟨rfl, h⟩))
          rw [if_pos hcc]
          clear hcc
          rcases hc with rfl | rfl | rfl
          all_goals
            go_enter Tryz.func35, Tryz.ntmps35
            go_wp2_with fail
            refine (HE.out _).mono ?_
            rintro e w ⟨rfl, rfl⟩
            go_wp2_with fail
            refine (HD.out _).mono ?_
            rintro e w2 ⟨rfl, hb⟩
            go_wp2_with fail
            go_ret2
            exact ⟨rfl, hb⟩
        · have hcc : ¬ (r = 10 ∨ r = 92 ∨ (false = false ∧ r = 39 ∨ false = true ∧ (r = 91 ∨ r = 93 ∨ r = 45))) := by
            rintro (h | h | ⟨-, h⟩ | ⟨h, -⟩)
            · exact hc (.inl h)
            · exact hc (.inr (.inl h))
            · exact hc (.inr (.inr h))
            · exact absurd h (by simp)
          rw [if_neg hcc]
          have n1 : ¬ (r : Int) = 10 := fun e => hc (.inl (by omega))
          have n2 : ¬ (r : Int) = 92 := fun e => hc (.inr (.inl (by omega)))
          have n3 : ¬ (r : Int) = 39 := fun e => hc (.inr (.inr (by omega)))
          clear hcc hc
          focus
            go_enter Tryz.func35, Tryz.ntmps35
            go_wp2_with fail
            refine (HE.out _).mono ?_
            rintro e w ⟨rfl, rfl⟩
            go_wp2_with fail
            refine (HD.out _).mono ?_
            rintro e w2 ⟨rfl, hb⟩
            go_wp2_with fail
            all_goals first
              | (go_ret2; exact ⟨rfl, hb⟩)
              | exact absurd ‹(((r : Int) == 10) = true ∨ ((r : Int) == 92) = true) ∨ ((r : Int) == 39) = true› (by simp [n1, n2, n3])
      · by_cases hc : r = 10 ∨ r = 92 ∨ r = 91 ∨ r = 93 ∨ r = 45
        · have hcc : r = 10 ∨ r = 92 ∨ (true = false ∧ r = 39 ∨ true = true ∧ (r = 91 ∨ r = 93 ∨ r = 45)) := by
            rcases hc with h | h | h
            · exact .inl h
            · exact .inr (.inl h)
            · exact .inr (.inr (.inr ⟨rfl, h⟩))
          rw [if_pos hcc]
          clear hcc
          rcases hc with rfl | rfl | rfl | rfl | rfl
          all_goals
            go_enter Tryz.func35, Tryz.ntmps35
            go_wp2_with fail
            refine (HE.out _).mono ?_
            rintro e w ⟨rfl, rfl⟩
            go_wp2_with fail
            refine (HD.out _).mono ?_
            rintro e w2 ⟨rfl, hb⟩
            go_wp2_with fail
            go_ret2
            exact ⟨rfl, hb⟩
        · have hcc : ¬ (r = 10 ∨ r = 92 ∨ (true = false ∧ r = 39 ∨ true = true ∧ (r = 91 ∨ r = 93 ∨ r = 45))) := by
            rintro (h | h | ⟨h, -⟩ | ⟨-, h⟩)
            · exact hc (.inl h)
            · exact hc (.inr (.inl h))
            · exact absurd h (by simp)
            · exact hc (.inr (.inr h))
          rw [if_neg hcc]
          have n1 : ¬ (r : Int) = 10 := fun e => hc (.inl (by omega))
          have n2 : ¬ (r : Int) = 92 := fun e => hc (.inr (.inl (by omega)))
          have n3 : ¬ (r : Int) = 91 := fun e => hc (.inr (.inr (.inl (by omega))))
          have n4 : ¬ (r : Int) = 93 := fun e => hc (.inr (.inr (.inr (.inl (by omega)))))
          have n5 : ¬ (r : Int) = 45 := fun e => hc (.inr (.inr (.inr (.inr (by omega)))))
          clear hcc hc
          focus
            go_enter Tryz.func35, Tryz.ntmps35
            go_wp2_with fail
            refine (HE.out _).mono ?_
            rintro e w ⟨rfl, rfl⟩
            go_wp2_with fail
            refine (HD.out _).mono ?_
            rintro e w2 ⟨rfl, hb⟩
            go_wp2_with fail
            all_goals first
              | (go_ret2; exact ⟨rfl, hb⟩)
              | exact absurd ‹(((r : Int) == 10) = true ∨ ((r : Int) == 92) = true) ∨ (((r : Int) == 91) = true ∨ ((r : Int) == 93) = true) ∨ ((r : Int) == 45) = true› (by simp [n1, n2, n3, n4, n5])
end Go.Proofs.YtdgkpmpakkfgbaaGreatDoor
