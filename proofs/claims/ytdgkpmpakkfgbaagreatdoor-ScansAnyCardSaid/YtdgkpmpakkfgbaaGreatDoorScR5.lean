/- The document's gap. -/
import Derived.Test.YtdgkpmpakkfgbaaGreatDoorScR4
namespace Go.Proofs.YtdgkpmpakkfgbaaGreatDoor
open Go.RowKit

/-- where a line ends -/
def lineEnd (l : List UInt8) (p : Nat) : Nat := if 0 ≤ Lib.indexByte (l.drop p) 10 then p + (Lib.indexByte (l.drop p) 10).toNat else l.length
theorem lineEnd_done (l : List UInt8) (p : Nat) (hp : p = l.length) : lineEnd l p = p := by
  subst hp
  unfold lineEnd
  rw [List.drop_length]
  rfl
theorem lineEnd_ten (l : List UInt8) (p : Nat) (hp : p < l.length) (h : l[p] = 10) : lineEnd l p = p := by
  unfold lineEnd
  rw [List.drop_eq_getElem_cons hp, h, Lib.indexByte]
  simp
theorem lineEnd_next (l : List UInt8) (p : Nat) (hp : p < l.length) (h : l[p] ≠ 10) : lineEnd l p = lineEnd l (p + 1) := by
  have e : Lib.indexByte (l.drop p) 10 = if Lib.indexByte (l.drop (p + 1)) 10 == -1 then -1 else Lib.indexByte (l.drop (p + 1)) 10 + 1 := by
    rw [List.drop_eq_getElem_cons hp, Lib.indexByte, if_neg (by simpa using h)]
  have := Lib.indexByte_ge (l.drop (p + 1)) 10
  unfold lineEnd
  rw [e]
  generalize Lib.indexByte (l.drop (p + 1)) 10 = x at *
  by_cases hx : x = -1
  · subst hx; rfl
  · have hx2 : (if x == -1 then -1 else x + 1) = x + 1 := if_neg (by simpa using hx)
    rw [hx2, if_pos (by omega), if_pos (by omega)]
    omega
theorem lineEnd_le (l : List UInt8) (p : Nat) (hp : p ≤ l.length) : p ≤ lineEnd l p ∧ lineEnd l p ≤ l.length := by
  unfold lineEnd
  split
  · next h =>
    have := (indexByte_in _ _ h).1
    rw [List.length_drop] at this
    omega
  · omega

/-- where a comment's end begins; the text's length and more: nowhere -/
def starAt (l : List UInt8) (p : Nat) : Option Nat := if Lib.index (l.drop p) [42, 47] < 0 then none else some (p + (Lib.index (l.drop p) [42, 47]).toNat)
theorem starAt_done (l : List UInt8) (p : Nat) (hp : l.length ≤ p) : starAt l p = none := by
  unfold starAt
  rw [List.drop_eq_nil_of_le hp]
  rfl
theorem starAt_here (l : List UInt8) (p : Nat) (hp : p < l.length) (h : Lib.hasPrefix (l.drop p) [42, 47] = true) : starAt l p = some p := by
  unfold starAt
  unfold Lib.hasPrefix at h
  rw [List.drop_eq_getElem_cons hp] at h ⊢
  rw [Lib.index, if_pos h]
  rfl
theorem starAt_next (l : List UInt8) (p : Nat) (hp : p < l.length) (h : Lib.hasPrefix (l.drop p) [42, 47] = false) : starAt l p = starAt l (p + 1) := by
  have e : Lib.index (l.drop p) [42, 47] = if Lib.index (l.drop (p + 1)) [42, 47] == -1 then -1 else Lib.index (l.drop (p + 1)) [42, 47] + 1 := by
    unfold Lib.hasPrefix at h
    rw [List.drop_eq_getElem_cons hp] at h ⊢
    rw [Lib.index, if_neg (by rw [h]; exact Bool.false_ne_true)]
  have := Lib.index_ge (l.drop (p + 1)) [42, 47]
  unfold starAt
  rw [e]
  generalize Lib.index (l.drop (p + 1)) [42, 47] = x at *
  by_cases hx : x = -1
  · subst hx; rfl
  · have hx2 : (if x == -1 then -1 else x + 1) = x + 1 := if_neg (by simpa using hx)
    rw [hx2, if_neg (by omega), if_neg (by omega)]
    congr 1
    omega
theorem pre_room (l : List UInt8) (p : Nat) (w : List UInt8) (hw : 0 < w.length) (h : Lib.hasPrefix (l.drop p) w = true) : p + w.length ≤ l.length := by
  unfold Lib.hasPrefix at h
  have := (List.isPrefixOf_iff_prefix.1 h).length_le
  rw [List.length_drop] at this
  omega

theorem gapF_step (l : List UInt8) (k p : Nat) (hp : p < l.length) :
    gapF l (k + 1) p = if amongB blanksL l[p] = true then gapF l k (p + 1)
      else if Lib.hasPrefix (l.drop p) [47, 47] = true then gapF l k (lineEnd l p)
      else if Lib.hasPrefix (l.drop p) [47, 42] = true then (match starAt l (p + 2) with
        | none => (p, 4)
        | some e => gapF l k (e + 2))
      else (p, 0) := by
  have hne : l.drop p ≠ [] := by
    intro e
    have := congrArg List.length e
    rw [List.length_drop] at this
    simp at this
    omega
  have hg : (l.drop p).getD 0 0 = l[p] := by
    rw [List.drop_eq_getElem_cons hp]
    rfl
  rw [gapF, hg]
  by_cases h1 : amongB blanksL l[p] = true
  · rw [if_pos h1, if_pos ⟨hne, h1⟩]
  · rw [if_neg h1, if_neg (fun h => h1 h.2)]
    split
    · rfl
    · split
      · unfold starAt
        rw [List.drop_drop]
        split
        · rfl
        · simp only
          congr 1
          omega
      · rfl
theorem gapF_end (l : List UInt8) (k p : Nat) (hp : p = l.length) : gapF l k p = (p, 0) := by
  cases k with
  | zero => rfl
  | succ k =>
    rw [gapF, List.drop_eq_nil_of_le (by omega)]
    rfl

def gapZ (g : Nat × Nat) : Int := if g.2 = 0 then (g.1 : Int) else -1 - g.1
theorem gapF_fuel2 : ∀ (j k : Nat) (l : List UInt8) (p : Nat), l.length < p + j → l.length < p + k → p ≤ l.length → gapF l j p = gapF l k p
  | 0, _, l, p, h, _, h2 => by omega
  | _, 0, l, p, _, h, h2 => by omega
  | j + 1, k + 1, l, p, h1, h2, h3 => by
    by_cases hp : p < l.length
    · rw [gapF_step l j p hp, gapF_step l k p hp]
      split
      · exact gapF_fuel2 j k l _ (by omega) (by omega) (by omega)
      · split
        · next hs =>
          have hne : l[p] ≠ 10 := fun e => by
            unfold Lib.hasPrefix at hs
            rw [List.drop_eq_getElem_cons hp, e] at hs
            simp [List.isPrefixOf] at hs
          rw [lineEnd_next l p hp hne]
          have := lineEnd_le l (p + 1) (by omega)
          exact gapF_fuel2 j k l _ (by omega) (by omega) this.2
        · split
          · cases hse : starAt l (p + 2) with
            | none => rfl
            | some e =>
              simp only
              unfold starAt at hse
              split at hse
              · exact absurd hse (by simp)
              · next hi =>
                have hr := Lib.index_room (l.drop (p + 2)) [42, 47] (by omega)
                rw [List.length_drop] at hr
                simp only [List.length_cons, List.length_nil] at hr
                have := Option.some.inj hse
                exact gapF_fuel2 j k l _ (by omega) (by omega) (by omega)
          · rfl
    · rw [gapF_end l _ p (by omega), gapF_end l _ p (by omega)]

set_option maxHeartbeats 4000000 in
set_option maxRecDepth 20000 in
theorem r2gap_ok (s : ByteArray) (k : Nat) (W : World) (hs : s.size ≤ 65536) (hk : k ≤ s.size) : Calls Tryz.prog 17 #[.string s, .int .i64 k] W fun e W' => e = .returned (.int .i64 (gapZ (gapF s.data.toList (s.size + 1) k))) ∧ W' = W := by
  obtain ⟨l, hl⟩ : ∃ l, s.data.toList = l := ⟨_, rfl⟩
  have hsz : s.size = l.length := by rw [Lib.size_eq, hl]
  rw [hl]
  obtain ⟨G, hG⟩ : ∃ G, gapF l (s.size + 1) k = G := ⟨_, rfl⟩
  rw [hG]
  have hv : ∀ j (h : j < s.size) (h2 : j < l.length), s[j]'h = l[j]'h2 := fun j h h2 => by
    subst hl
    rfl
  have HG := Lib.hid hG
  have HV := Lib.hid hv
  have HL := Lib.hid hl
  clear hG hv hl
  go_enter Tryz.func17, Tryz.ntmps17
  go_wp2_with fail
  go_loopw [1] (fun v wr => ∃ q : Nat, v = .int .i64 q ∧ q ≤ s.size ∧ Hid (gapF l (s.size + 1) q = G) ∧ wr = W) (fun v _ => s.size - (intOf v).toNat)
  case atStart => exact ⟨k, rfl, hk, HG, rfl⟩
  case round =>
    obtain ⟨q, rfl, hq, HQ, rfl⟩ := hrel
    by_cases hlt : q < s.size
    · have hg := HQ.out
      have hql : q < l.length := by omega
      have hv := HV.out q hlt hql
      rw [gapF_step l s.size q hql] at hg
      by_cases hb : amongB blanksL l[q] = true
      · rw [if_pos hb, gapF_fuel2 s.size (s.size + 1) l (q + 1) (by omega) (by omega) (by omega)] at hg
        have HG2 := Lib.hid hg
        rw [blank_is, ← hv, decide_eq_true_eq] at hb
        clear hg hv
        rcases hb with hb | hb | hb | hb
        · have hc : ((s[q]'hlt).toNat : Int) = 32 := by omega
          clear hb
          go_wp2_with fail
          exact ⟨⟨q + 1, by go_num, by omega, HG2, trivial⟩, by simp [intOf]; omega⟩
        · have hc : ((s[q]'hlt).toNat : Int) = 9 := by omega
          clear hb
          go_wp2_with fail
          exact ⟨⟨q + 1, by go_num, by omega, HG2, trivial⟩, by simp [intOf]; omega⟩
        · have hc : ((s[q]'hlt).toNat : Int) = 10 := by omega
          clear hb
          go_wp2_with fail
          exact ⟨⟨q + 1, by go_num, by omega, HG2, trivial⟩, by simp [intOf]; omega⟩
        · have hc : ((s[q]'hlt).toNat : Int) = 13 := by omega
          clear hb
          go_wp2_with fail
          exact ⟨⟨q + 1, by go_num, by omega, HG2, trivial⟩, by simp [intOf]; omega⟩
      · rw [if_neg hb] at hg
        have hne10 : l[q] ≠ 10 := fun e => hb (by rw [e]; decide +kernel)
        rw [blank_is, ← hv, decide_eq_true_eq] at hb
        have c1 : ¬ ((s[q]'hlt).toNat : Int) = 32 := by omega
        have c2 : ¬ ((s[q]'hlt).toNat : Int) = 9 := by omega
        have c3 : ¬ ((s[q]'hlt).toNat : Int) = 10 := by omega
        have c4 : ¬ ((s[q]'hlt).toNat : Int) = 13 := by omega
        have hB1 := fun w => begins_ok s { data := #[47, 47] } q w (by omega) hs (by decide)
        have hB2 := fun w => begins_ok s { data := #[47, 42] } q w (by omega) hs (by decide)
        rw [HL.out, show (({ data := #[47, 47] } : ByteArray).data.toList) = [47, 47] from rfl] at hB1
        rw [HL.out, show (({ data := #[47, 42] } : ByteArray).data.toList) = [47, 42] from rfl] at hB2
        have hr2 := pre_room l q [47, 42] (by decide)
        simp only [List.length_cons, List.length_nil] at hr2
        obtain ⟨b1, hb1⟩ : ∃ b, Lib.hasPrefix (l.drop q) [47, 47] = b := ⟨_, rfl⟩
        obtain ⟨b2, hb2⟩ : ∃ b, Lib.hasPrefix (l.drop q) [47, 42] = b := ⟨_, rfl⟩
        rw [hb1] at hB1 hg
        rw [hb2] at hB2 hg hr2
        have HB1 := Lib.hid hB1
        have HB2 := Lib.hid hB2
        have HR2 := Lib.hid hr2
        have HNE := Lib.hid hne10
        clear hB1 hB2 hb hv hr2 hne10 hb1 hb2
        cases b1 with
        | true =>
          rw [if_pos rfl] at hg
          have hE := lineEnd_next l q hql HNE.out
          have hE2 := lineEnd_le l (q + 1) (by omega)
          rw [← hE] at hE2
          rw [gapF_fuel2 s.size (s.size + 1) l (lineEnd l q) (by omega) (by omega) (by omega)] at hg
          obtain ⟨E, hEE⟩ : ∃ E, lineEnd l q = E := ⟨_, rfl⟩
          rw [hEE] at hg hE2
          have HE := Lib.hid hEE
          have HG2 := Lib.hid hg
          clear hE hEE hg
          go_wp2_with fail
          · exfalso
            rename_i hh
            revert hh
            simp [c1, c2, c3, c4]
          refine (HB1.out _).mono ?_
          rintro e w ⟨rfl, rfl⟩
          go_wp2_with fail
          go_loopw [1] (fun v w2 => ∃ p : Nat, v = .int .i64 p ∧ p ≤ s.size ∧ Hid (lineEnd l p = E) ∧ w2 = w) (fun v _ => s.size - (intOf v).toNat)
          case atStart => exact ⟨q, rfl, by omega, HE, rfl⟩
          case round =>
            obtain ⟨p, rfl, hp, HP, rfl⟩ := hrel
            by_cases hpl : p < s.size
            · have hpl2 : p < l.length := by omega
              have hv2 := HV.out p hpl hpl2
              by_cases h10 : l[p] = 10
              · have hc10 : ((s[p]'hpl).toNat : Int) = 10 := by rw [hv2, h10]; rfl
                have hh := HP.out
                rw [lineEnd_ten l p hpl2 h10] at hh
                subst hh
                clear hv2 h10
                go_wp2_with fail
                exact ⟨⟨p, rfl, by omega, HG2, trivial⟩, by simp [intOf]; omega⟩
              · have hc10 : ¬ ((s[p]'hpl).toNat : Int) = 10 := fun e => h10 (by rw [← hv2]; exact UInt8.toNat_inj.1 (by show _ = 10; omega))
                have hh := HP.out
                rw [lineEnd_next l p hpl2 h10] at hh
                have HH := Lib.hid hh
                clear hv2 h10 hh
                go_wp2_with fail
                exact ⟨⟨p + 1, by go_num, by omega, HH, trivial⟩, by simp [intOf]; omega⟩
            · have hh := HP.out
              rw [lineEnd_done l p (by omega)] at hh
              subst hh
              go_wp2_with fail
              exact ⟨⟨p, rfl, by omega, HG2, trivial⟩, by simp [intOf]; omega⟩
        | false =>
          rw [if_neg Bool.false_ne_true] at hg
          cases b2 with
          | false =>
            rw [if_neg Bool.false_ne_true] at hg
            subst hg
            go_wp2_with fail
            · exfalso
              rename_i hh
              revert hh
              simp [c1, c2, c3, c4]
            refine (HB1.out _).mono ?_
            rintro e w ⟨rfl, rfl⟩
            go_wp2_with fail
            refine (HB2.out _).mono ?_
            rintro e w2 ⟨rfl, rfl⟩
            go_wp2_with fail
            go_ret
            exact ⟨rfl, rfl⟩
          | true =>
            rw [if_pos rfl] at hg
            have hr2 := HR2.out rfl
            obtain ⟨S, hS⟩ : ∃ S, starAt l (q + 2) = S := ⟨_, rfl⟩
            rw [hS] at hg
            have HS := Lib.hid hS
            have HG2 := Lib.hid hg
            clear hS hg
            go_wp2_with fail
            · exfalso
              rename_i hh
              revert hh
              simp [c1, c2, c3, c4]
            refine (HB1.out _).mono ?_
            rintro e w ⟨rfl, rfl⟩
            go_wp2_with fail
            refine (HB2.out _).mono ?_
            rintro e w2 ⟨rfl, rfl⟩
            go_wp2_with fail
            go_loopw [6] (fun v w3 => ∃ p : Nat, v = .int .i64 p ∧ q + 2 ≤ p ∧ p ≤ s.size ∧ Hid (starAt l p = S) ∧ w3 = w2) (fun v _ => s.size - (intOf v).toNat)
            case atStart => exact ⟨q + 2, by go_num, by omega, by omega, HS, rfl⟩
            case round =>
              obtain ⟨p, rfl, hqp, hp, HP, rfl⟩ := hrel
              by_cases hpl : p < s.size
              · have hB3 := fun w => begins_ok s { data := #[42, 47] } p w (by omega) hs (by decide)
                rw [HL.out, show (({ data := #[42, 47] } : ByteArray).data.toList) = [42, 47] from rfl] at hB3
                have hr3 := pre_room l p [42, 47] (by decide)
                simp only [List.length_cons, List.length_nil] at hr3
                obtain ⟨b3, hb3⟩ : ∃ b, Lib.hasPrefix (l.drop p) [42, 47] = b := ⟨_, rfl⟩
                rw [hb3] at hB3 hr3
                have HB3 := Lib.hid hB3
                clear hB3
                cases b3 with
                | true =>
                  have hr4 := hr3 rfl
                  have hh := HP.out
                  rw [starAt_here l p (by omega) hb3] at hh
                  have hg := HG2.out
                  rw [← hh] at hg
                  simp only at hg
                  rw [gapF_fuel2 s.size (s.size + 1) l (p + 2) (by omega) (by omega) (by omega)] at hg
                  have HG3 := Lib.hid hg
                  clear hr3 hb3 hh hg
                  go_wp2_with fail
                  refine (HB3.out _).mono ?_
                  rintro e w3 ⟨rfl, rfl⟩
                  go_wp2_with fail
                  exact ⟨⟨p + 2, by go_num, by omega, HG3, trivial⟩, by simp [intOf]; omega⟩
                | false =>
                  have hh := HP.out
                  rw [starAt_next l p (by omega) hb3] at hh
                  have HH := Lib.hid hh
                  clear hr3 hb3 hh
                  go_wp2_with fail
                  refine (HB3.out _).mono ?_
                  rintro e w3 ⟨rfl, rfl⟩
                  go_wp2_with fail
                  exact ⟨⟨p + 1, by go_num, by omega, by omega, HH, trivial⟩, by simp [intOf]; omega⟩
              · have hh := HP.out
                rw [starAt_done l p (by omega)] at hh
                have hg := HG2.out
                rw [← hh] at hg
                simp only at hg
                subst hg
                clear hh
                go_wp2_with fail
                go_ret
                exact ⟨rfl, rfl⟩
    · have hg := HQ.out
      rw [gapF_end l _ q (by omega)] at hg
      subst hg
      go_wp2_with fail
      go_ret
      exact ⟨rfl, rfl⟩
end Go.Proofs.YtdgkpmpakkfgbaaGreatDoor
