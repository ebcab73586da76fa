/- How many bytes of a kind come, byte by byte. -/
import Derived.Test.YtdgkpmpakkfgbaaGreatDoorScLaw2
namespace Go.Proofs.YtdgkpmpakkfgbaaGreatDoor
open Go.Lib

theorem among_has {l : List UInt8} {c : UInt8} (h : c ∈ l) : amongB l c = true := by
  unfold amongB
  apply decide_eq_true
  induction l with
  | nil => exact absurd h (by simp)
  | cons x t ih =>
    rw [indexByte]
    by_cases hx : (x == c) = true
    · rw [if_pos hx]; omega
    · rw [if_neg hx]
      have : c ∈ t := by
        rcases List.mem_cons.1 h with rfl | h
        · simp at hx
        · exact h
      have := ih this
      cases hi : indexByte t c with
      | ofNat n => simp; omega
      | negSucc n => omega
theorem among_iff (cs : List UInt8) (c : UInt8) : amongB cs c = true ↔ c ∈ cs := ⟨among_mem cs c, among_has⟩
theorem many_nil (cs : List UInt8) : manyN [] cs = 0 := rfl
theorem many_cons (cs : List UInt8) (c : UInt8) (t : List UInt8) : manyN (c :: t) cs = if amongB cs c = true then manyN t cs + 1 else 0 := by
  by_cases h : c ∈ cs
  · rw [if_pos ((among_iff cs c).2 h)]
    have hle := trimLeftS_le t cs
    unfold manyN trimLeftS at *
    rw [List.dropWhile_cons_of_pos (by simpa using h)]
    simp only [List.length_cons]
    omega
  · rw [if_neg (fun e => h ((among_iff cs c).1 e))]
    unfold manyN trimLeftS
    rw [List.dropWhile_cons_of_neg (by simpa using h)]
    omega
/-- a byte more -/
theorem many_yes (l cs : List UInt8) (q p : Nat) (hp : p < l.length) (h : manyN (l.drop q) cs = (p - q) + manyN (l.drop p) cs) (hq : q ≤ p) (hc : amongB cs l[p] = true) : manyN (l.drop q) cs = (p + 1 - q) + manyN (l.drop (p + 1)) cs := by
  rw [h, List.drop_eq_getElem_cons hp, many_cons, if_pos hc]
  omega
theorem many_no (l cs : List UInt8) (q p : Nat) (h : manyN (l.drop q) cs = (p - q) + manyN (l.drop p) cs) (hc : ∀ hp : p < l.length, amongB cs l[p] = false) : manyN (l.drop q) cs = p - q := by
  by_cases hp : p < l.length
  · rw [h, List.drop_eq_getElem_cons hp, many_cons, if_neg (by rw [hc hp]; simp)]
    rfl
  · rw [h, List.drop_eq_nil_of_le (by omega)]
    rfl
theorem wordF_name (l : List UInt8) (p : Nat) (h : amongB lettersL ((l.drop p).getD 0 0) = true) : wordF l p = if 64 < manyN (l.drop p) nameL then (⟨0, [], [], p⟩, p, 3) else (⟨0, (l.drop p).take (manyN (l.drop p) nameL), [], p⟩, p + manyN (l.drop p) nameL, 0) := by
  unfold wordF
  simp only [h, if_true]
theorem wordF_num (l : List UInt8) (p : Nat) (h1 : amongB lettersL ((l.drop p).getD 0 0) = false) (h : amongB digitsL ((l.drop p).getD 0 0) = true) : wordF l p = if 9 < manyN (l.drop p) digitsL then (⟨1, [], [], p⟩, p, 3) else (⟨1, (l.drop p).take (manyN (l.drop p) digitsL), [], p⟩, p + manyN (l.drop p) digitsL, 0) := by
  unfold wordF
  simp only [h, h1, if_true, Bool.false_eq_true, if_false]
theorem wordF_text (l : List UInt8) (p : Nat) (h : (l.drop p).getD 0 0 = 39) : wordF l p = (⟨2, (textF l p (l.length + 1) (p + 1) []).2.2, [], p⟩, (textF l p (l.length + 1) (p + 1) []).1, (textF l p (l.length + 1) (p + 1) []).2.1) := by
  unfold wordF
  simp only [h, show amongB lettersL 39 = false by decide +kernel, show amongB digitsL 39 = false by decide +kernel, Bool.false_eq_true, if_false, if_true]
theorem wordF_set (l : List UInt8) (p : Nat) (h : (l.drop p).getD 0 0 = 91) : wordF l p = (⟨3, [], (setF l p (l.length + 1) (p + 1) []).2.2, p⟩, (setF l p (l.length + 1) (p + 1) []).1, (setF l p (l.length + 1) (p + 1) []).2.1) := by
  unfold wordF
  simp only [h, show amongB lettersL 91 = false by decide +kernel, show amongB digitsL 91 = false by decide +kernel, show ((91 : UInt8) = 39) = False by decide, Bool.false_eq_true, if_false, if_true]
theorem wordF_mark (l : List UInt8) (p : Nat) (h1 : amongB lettersL ((l.drop p).getD 0 0) = false) (h2 : amongB digitsL ((l.drop p).getD 0 0) = false) (h3 : (l.drop p).getD 0 0 ≠ 39) (h4 : (l.drop p).getD 0 0 ≠ 91) : wordF l p = (⟨4, (l.drop p).take (markF (l.drop p)), [], p⟩, p + markF (l.drop p), if markF (l.drop p) = 0 then 4 else 0) := by
  unfold wordF
  simp only [h1, h2, h3, h4, Bool.false_eq_true, if_false]
theorem slice_list (s : ByteArray) (q m n : Nat) (h : m = q + n) : (s.extract q m).data.toList = (s.data.toList.drop q).take n := by
  subst h
  simp [ByteArray.data_extract, List.extract_eq_take_drop]
end Go.Proofs.YtdgkpmpakkfgbaaGreatDoor
