/- RunesBack: it answers true, for every two numbers and every two texts. -/
import Derived.Test.YtajfhlnckjnboaaDoorRuW
namespace Go.Proofs.YtajfhlnckjnboaaDoor
open Go.RowKit

/-- the shapes of a rune's text -/
theorem textL_shape (r : Int) (h : Lib.validRune r = true) :
    (∃ c : UInt8, textL r = [92, c] ∧ ((c = 110 ∧ r = 10) ∨ (c = 114 ∧ r = 13) ∨ (c = 116 ∧ r = 9) ∨ (c = 92 ∧ r = 92) ∨ (c = 39 ∧ r = 39) ∨ (c = 93 ∧ r = 93) ∨ (c = 91 ∧ r = 91) ∨ (c = 45 ∧ r = 45))) ∨
    (32 ≤ r ∧ r ≤ 126 ∧ textL r = [UInt8.ofNat r.toNat] ∧ bytesOf r = [UInt8.ofNat r.toNat]) ∨ textL r = [92, 117, 123] ++ hexL r.toNat ++ [125] := by
  by_cases h10 : r = 10
  · subst h10
    exact .inl ⟨110, by decide +kernel, by simp⟩
  by_cases h13 : r = 13
  · subst h13
    exact .inl ⟨114, by decide +kernel, by simp⟩
  by_cases h9 : r = 9
  · subst h9
    exact .inl ⟨116, by decide +kernel, by simp⟩
  by_cases hp : r = 92 ∨ r = 39 ∨ r = 93 ∨ r = 91 ∨ r = 45
  · rcases hp with rfl | rfl | rfl | rfl | rfl
    · exact .inl ⟨92, by decide +kernel, by simp⟩
    · exact .inl ⟨39, by decide +kernel, by simp⟩
    · exact .inl ⟨93, by decide +kernel, by simp⟩
    · exact .inl ⟨91, by decide +kernel, by simp⟩
    · exact .inl ⟨45, by decide +kernel, by simp⟩
  have ht : textL r = if 32 ≤ r ∧ r ≤ 126 then [UInt8.ofNat r.toNat] else [92, 117, 123] ++ hexL r.toNat ++ [125] := by
    unfold textL
    rw [if_neg (by rw [h]; decide), if_neg h10, if_neg h13, if_neg h9, if_neg hp]
  by_cases hin : 32 ≤ r ∧ r ≤ 126
  · right; left
    rw [if_pos hin] at ht
    refine ⟨hin.1, hin.2, ht, ?_⟩
    rcases bytesOf_shape r h with ⟨_, e⟩ | ⟨_, _, e⟩ | ⟨_, _, e⟩ | ⟨_, e⟩
    · exact e
    · omega
    · omega
    · omega
  · right; right
    rw [if_neg hin] at ht
    exact ht

/-- the rune of a text -/
def codeOf (l : List UInt8) : Int :=
  if l.length = 1 then ((l.getD 0 0).toNat : Int)
  else if l.length = 2 then (if l.getD 1 0 = 110 then 10 else if l.getD 1 0 = 114 then 13 else if l.getD 1 0 = 116 then 9 else ((l.getD 1 0).toNat : Int))
  else ((hexV 0 ((l.drop 3).dropLast) : Nat) : Int)
theorem valid_range (r : Int) (h : Lib.validRune r = true) : 0 ≤ r ∧ r ≤ 1114111 := by
  have hv : (0 ≤ r ∧ r < 0xD800) ∨ (0xDFFF < r ∧ r ≤ 0x10FFFF) := of_decide_eq_true h
  omega
theorem codeOf_text (r : Int) (h : Lib.validRune r = true) : codeOf (textL r) = r := by
  have hr := valid_range r h
  rcases textL_shape r h with ⟨c, ht, hc⟩ | ⟨h1, h2, ht, _⟩ | ht
  · rw [ht]
    rcases hc with ⟨rfl, rfl⟩ | ⟨rfl, rfl⟩ | ⟨rfl, rfl⟩ | ⟨rfl, rfl⟩ | ⟨rfl, rfl⟩ | ⟨rfl, rfl⟩ | ⟨rfl, rfl⟩ | ⟨rfl, rfl⟩ <;> decide
  · rw [ht]
    unfold codeOf
    rw [if_pos (show ([UInt8.ofNat r.toNat] : List UInt8).length = 1 from rfl)]
    simp only [List.getD_cons_zero]
    rw [ofNat_n _ (by omega)]
    omega
  · have hl := hexL_len r.toNat
    rw [ht]
    unfold codeOf
    rw [if_neg (by simp), if_neg (by simp)]
    have e : (([92, 117, 123] ++ hexL r.toNat ++ [125]).drop 3).dropLast = hexL r.toNat := by simp
    rw [e, hexL_val _ (by omega)]
    omega
theorem textL_none (r : Int) (h : Lib.validRune r = false) : textL r = [] := by
  unfold textL
  rw [if_pos h]
theorem textL_ne (r : Int) (h : Lib.validRune r = true) : textL r ≠ [] := by
  rcases textL_shape r h with ⟨c, ht, hc⟩ | ⟨h1, h2, ht, _⟩ | ht <;> rw [ht] <;> simp
theorem textL_inj (q r : Int) (h : Lib.validRune r = true) : textL q = textL r ↔ q = r := by
  refine ⟨fun he => ?_, fun he => by rw [he]⟩
  cases hq : Lib.validRune q
  · rw [textL_none q hq] at he
    exact absurd he.symm (textL_ne r h)
  · rw [← codeOf_text q hq, he, codeOf_text r h]
theorem bytes_ne (r : Int) (h : Lib.validRune r = true) : bytesOf r ≠ [] := by
  have := (decode_bytes r h []).2
  intro h0
  rw [h0] at this
  simp at this
theorem text_own (r : Int) (h : Lib.validRune r = true) (he : textL r = bytesOf r) : 32 ≤ r ∧ r ≤ 126 := by
  have hr := valid_range r h
  have h4 := bytesOf_len r
  rcases textL_shape r h with ⟨c, ht, hc⟩ | ⟨h1, h2, ht, _⟩ | ht
  · rw [ht] at he
    have h1 : bytesOf r = [UInt8.ofNat r.toNat] := by
      rcases bytesOf_shape r h with ⟨_, e⟩ | ⟨_, _, e⟩ | ⟨_, _, e⟩ | ⟨_, e⟩
      · exact e
      all_goals omega
    rw [h1] at he
    simp at he
  · exact ⟨h1, h2⟩
  · have := congrArg List.length ht
    rw [he] at this
    have hl := hexL_len r.toNat
    simp at this
    omega
theorem mid_drop (a m b : ByteArray) : (a ++ m ++ b).data.toList.drop a.size = m.data.toList ++ b.data.toList := by
  rw [app_list, app_list, List.append_assoc, Lib.size_eq, List.drop_left]
theorem rune_mid (a m b : ByteArray) (r : Int) (h : Lib.validRune r = true) (hm : m.data.toList = bytesOf r) : runeAt (a ++ m ++ b) (a.size : Int) = (r.toNat, m.size, true) := by
  have hd := decode_bytes r h b.data.toList
  have hg := bytes_good r h b.data.toList
  have hsz : (a ++ m ++ b).size = a.size + m.size + b.size := by rw [ByteArray.size_append, ByteArray.size_append]
  have hml : m.size = (bytesOf r).length := by rw [Lib.size_eq, hm]
  have hdec : Utf8.decode (a ++ m ++ b) a.size = (r.toNat, (bytesOf r).length) := by
    rw [← Lib.decodeL_drop, mid_drop, hm]
    exact hd.1
  unfold badAt at hg
  rw [hd.1] at hg
  unfold runeAt
  rw [if_neg (by omega), Int.toNat_natCast, hdec, if_neg (fun he => hg ⟨(Prod.mk.inj he).1, (Prod.mk.inj he).2⟩), hml]

set_option maxHeartbeats 4000000 in
/-- a rune's text, that is not itself, is an escape of it, wherever it stands -/
theorem escape_mid (a t b : ByteArray) (r : Int) (h : Lib.validRune r = true) (ht : t.data.toList = textL r) (hne : textL r ≠ bytesOf r) (hs : (a ++ t ++ b).size < 4294967281) (W : World) (hW : Laid W) :
    Calls Tryd.prog 15 #[.string (a ++ t ++ b), .int .i64 a.size] W fun e W' => e = .returned (.tuple #[.int .i32 r, .int .i64 t.size, .bool true]) ∧ Below W.heap.size W W' := by
  have hr := valid_range r h
  have hd := mid_drop a t b
  rw [ht] at hd
  have htl : t.size = (textL r).length := by rw [Lib.size_eq, ht]
  obtain ⟨n, rfl⟩ := Int.eq_ofNat_of_zero_le hr.1
  rcases textL_shape (n : Int) h with ⟨c, hx, hc⟩ | ⟨h1, h2, hx, hy⟩ | hx
  · rw [hx] at hd htl
    rw [htl]
    refine (escape2_ok (a ++ t ++ b) a.size c n b.data.toList hd hs W (by exact_mod_cast hc)).mono ?_
    rintro e W' ⟨rfl, rfl⟩
    exact ⟨rfl, Below.refl _ _⟩
  · rw [hx, hy] at hne
    exact absurd rfl hne
  · rw [hx] at hd htl
    have hl : (([92, 117, 123] ++ hexL n ++ [125] : List UInt8)).length = (hexL n).length + 4 := by simp
    rw [Int.toNat_natCast] at hd htl
    rw [htl, hl]
    exact escape3_ok (a ++ t ++ b) a.size n b.data.toList (by rw [hd]; simp) h hs W hW
end Go.Proofs.YtajfhlnckjnboaaDoor
