/- Numbers in digits of 16, as bytes: the number is got back from them. -/
import Derived.Lib.Hide
namespace Go.Proofs.YtdgkpmpakkfgbaaGreatDoor

def dig (d : Nat) : UInt8 := if d < 10 then UInt8.ofNat (48 + d) else UInt8.ofNat (87 + d)
def undig (b : UInt8) : Nat := if b.toNat < 58 then b.toNat - 48 else b.toNat - 87
def isHex (b : UInt8) : Prop := (48 ≤ b.toNat ∧ b.toNat ≤ 57) ∨ (97 ≤ b.toNat ∧ b.toNat ≤ 102)
theorem dig_nat (d : Nat) (h : d < 16) : (dig d).toNat = if d < 10 then 48 + d else 87 + d := by
  unfold dig
  split <;> simp <;> omega
theorem dig_hex (d : Nat) (h : d < 16) : isHex (dig d) := by
  unfold isHex
  rw [dig_nat d h]
  split <;> omega
theorem undig_dig (d : Nat) (h : d < 16) : undig (dig d) = d := by
  unfold undig
  rw [dig_nat d h]
  split <;> split <;> omega
theorem undig_lt (b : UInt8) (h : isHex b) : undig b < 16 := by
  unfold isHex at h
  unfold undig
  split <;> omega

def hexF : Nat → Nat → List UInt8
  | 0, _ => []
  | f + 1, n => if n < 16 then [dig n] else hexF f (n / 16) ++ [dig (n % 16)]
/-- a number in digits of 16 -/
def hexL (n : Nat) : List UInt8 := hexF 6 n
theorem hexF_len : ∀ (f n : Nat), 0 < f → 1 ≤ (hexF f n).length ∧ (hexF f n).length ≤ f
  | 0, _, h => absurd h (by omega)
  | f + 1, n, _ => by
    rw [hexF]
    split
    · exact ⟨Nat.le_refl _, by simp⟩
    · rw [List.length_append, List.length_singleton]
      refine ⟨by omega, ?_⟩
      cases f with
      | zero => simp [hexF]
      | succ f =>
        have := hexF_len (f + 1) (n / 16) (by omega)
        omega
theorem hexF_hex : ∀ (f n : Nat), ∀ b ∈ hexF f n, isHex b
  | 0, _, b, h => by simp [hexF] at h
  | f + 1, n, b, h => by
    rw [hexF] at h
    split at h
    · simp only [List.mem_singleton] at h
      subst h
      exact dig_hex _ (by assumption)
    · rw [List.mem_append, List.mem_singleton] at h
      rcases h with h | rfl
      · exact hexF_hex f _ b h
      · exact dig_hex _ (by omega)
theorem hexF_fuel : ∀ (f g n : Nat), n < 16 ^ f → n < 16 ^ g → 0 < f → 0 < g → hexF f n = hexF g n
  | 0, _, _, _, _, h, _ => absurd h (by omega)
  | _ + 1, 0, _, _, _, _, h => absurd h (by omega)
  | f + 1, g + 1, n, h1, h2, _, _ => by
    rw [hexF, hexF]
    split
    · rfl
    · next hn =>
      rw [Nat.pow_succ] at h1 h2
      have hf : 0 < f := by
        cases f with
        | zero => omega
        | succ f => omega
      have hg : 0 < g := by
        cases g with
        | zero => omega
        | succ g => omega
      rw [hexF_fuel f g (n / 16) (by omega) (by omega) hf hg]

/-- the number that digits are -/
def hexV : Nat → List UInt8 → Nat
  | acc, [] => acc
  | acc, b :: t => hexV (acc * 16 + undig b) t
theorem hexV_app : ∀ (a b : List UInt8) (acc : Nat), hexV acc (a ++ b) = hexV (hexV acc a) b
  | [], _, _ => rfl
  | x :: a, b, acc => by
    rw [List.cons_append, hexV, hexV]
    exact hexV_app a b _
theorem hexV_hexF : ∀ (f n : Nat), n < 16 ^ f → 0 < f → hexV 0 (hexF f n) = n
  | 0, _, _, h => absurd h (by omega)
  | f + 1, n, h, _ => by
    rw [hexF]
    split
    · next hn =>
      show 0 * 16 + undig (dig n) = n
      rw [undig_dig n hn]
      omega
    · next hn =>
      rw [Nat.pow_succ] at h
      have hf : 0 < f := by
        cases f with
        | zero => omega
        | succ f => omega
      rw [hexV_app, hexV_hexF f (n / 16) (by omega) hf]
      show n / 16 * 16 + undig (dig (n % 16)) = n
      rw [undig_dig _ (by omega)]
      omega
theorem hexL_val (n : Nat) (h : n < 16777216) : hexV 0 (hexL n) = n := hexV_hexF 6 n h (by omega)
theorem hexL_len (n : Nat) : 1 ≤ (hexL n).length ∧ (hexL n).length ≤ 6 := hexF_len 6 n (by omega)
theorem hexL_hex (n : Nat) : ∀ b ∈ hexL n, isHex b := hexF_hex 6 n
end Go.Proofs.YtdgkpmpakkfgbaaGreatDoor
