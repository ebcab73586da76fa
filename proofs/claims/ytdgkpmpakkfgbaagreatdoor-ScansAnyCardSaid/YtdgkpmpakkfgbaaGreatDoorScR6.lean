/- The document's Escape. -/
import Derived.Test.YtdgkpmpakkfgbaaGreatDoorScR5
import Derived.Test.YtdgkpmpakkfgbaaGreatDoorScTx
namespace Go.Proofs.YtdgkpmpakkfgbaaGreatDoor
open Go.RowKit

theorem hexVA_app : ∀ (a b : List UInt8) (acc : Nat), hexVA acc (a ++ b) = hexVA (hexVA acc a) b
  | [], _, _ => rfl
  | x :: a, b, acc => by
    rw [List.cons_append, hexVA, hexVA]
    exact hexVA_app a b _
theorem hexVA_lt7 (l : List UInt8) (h : ∀ b ∈ l, isHexA b = true) (h7 : l.length ≤ 7) : hexVA 0 l < 268435456 := by
  have h1 := hexVA_lt l 0 (List.all_eq_true.2 h)
  have h2 : 16 ^ l.length ≤ 16 ^ 7 := Nat.pow_le_pow_right (by omega) h7
  have h3 : 16 ^ 7 = 268435456 := by decide
  omega
theorem not_hex_end : isHexA 125 = false := by decide

theorem ref_num (u : List UInt8) (m : Nat) (h7 : m ≤ 7) (hl : m ≤ u.length) (hh : ∀ b ∈ u.take m, isHexA b = true) (hs : m = 7 ∨ m = u.length ∨ ∃ b, u[m]? = some b ∧ isHexA b = false) :
    numF u = if 1 ≤ m ∧ m ≤ 6 ∧ u[m]? = some 125 ∧ Lib.validRune (hexVA 0 (u.take m)) = true then some (hexVA 0 (u.take m), m + 1) else none := by
  have hlt : (u.take m).length = m := by rw [List.length_take]; omega
  by_cases h125 : u[m]? = some 125
  · have hml : m < u.length := (List.getElem?_eq_some_iff.1 h125).1
    have hv : u[m] = 125 := by
      have := List.getElem?_eq_getElem hml
      rw [this] at h125
      exact Option.some.inj h125
    have hu : u = u.take m ++ 125 :: u.drop (m + 1) := by
      conv => lhs; rw [← List.take_append_drop m u, List.drop_eq_getElem_cons hml, hv]
    have hc : Lib.cut u [125] = (u.take m, u.drop (m + 1), true) := by
      conv => lhs; rw [hu]
      exact cut_here _ _ _ fun x hx e => by
        have := hh x hx
        rw [e, not_hex_end] at this
        exact absurd this (by simp)
    unfold numF
    rw [hc]
    simp only
    rw [hlt]
    have hall : (u.take m).all isHexA = true := List.all_eq_true.2 hh
    by_cases hcond : 1 ≤ m ∧ m ≤ 6 ∧ u[m]? = some 125 ∧ Lib.validRune (hexVA 0 (u.take m)) = true
    · rw [if_pos hcond, if_pos]
      refine ⟨trivial, fun e => ?_, hcond.2.1, hall, hcond.2.2.2⟩
      rw [e] at hlt
      simp at hlt
      omega
    · rw [if_neg hcond, if_neg]
      rintro ⟨-, h1, h2, -, h3⟩
      refine hcond ⟨?_, h2, h125, h3⟩
      apply Classical.byContradiction
      intro h0
      have : m = 0 := by omega
      subst this
      exact h1 rfl
  · rw [if_neg fun h => h125 h.2.2.1]
    unfold numF
    simp only
    rw [if_neg]
    rintro ⟨h1, h2, h3, h4, -⟩
    unfold Lib.cut at h1 h2 h3 h4
    by_cases hi : 0 ≤ Lib.index u [125]
    · rw [if_pos hi] at h2 h3 h4
      simp only at h2 h3 h4
      rw [Lib.index_one] at hi h2 h3 h4
      obtain ⟨hj, he⟩ := indexByte_in u 125 hi
      generalize (Lib.indexByte u 125).toNat = j at *
      have hjl : (u.take j).length = j := by rw [List.length_take]; omega
      rw [hjl] at h3
      rcases Nat.lt_trichotomy j m with h | h | h
      · have : (125 : UInt8) ∈ u.take m := by
          rw [List.mem_iff_getElem?]
          exact ⟨j, by rw [List.getElem?_take, if_pos h]; exact he⟩
        have := hh _ this
        rw [not_hex_end] at this
        exact absurd this (by simp)
      · subst h
        exact h125 he
      · rcases hs with h0 | h0 | ⟨b, hb, hx⟩
        · omega
        · omega
        · have : b ∈ u.take j := by
            rw [List.mem_iff_getElem?]
            exact ⟨m, by rw [List.getElem?_take, if_pos h]; exact hb⟩
          have := List.all_eq_true.1 h4 b this
          rw [hx] at this
          exact absurd this (by simp)
    · rw [if_neg hi] at h1
      exact absurd h1 (by simp)

/-- what the document's Escape answers -/
def REscIs (o : Option (Nat × Nat)) (W : World) (e : Ending) (W' : World) : Prop :=
  e = .returned (.tuple #[.int .i32 ((o.getD (0, 0)).1 : Nat), .int .i64 ((o.getD (0, 0)).2 : Nat), .bool o.isSome]) ∧ W' = W

set_option maxHeartbeats 8000000 in
set_option maxRecDepth 20000 in
theorem refEsc_ok (s : ByteArray) (k : Nat) (W : World) (hs : s.size ≤ 65536) (hk : k ≤ s.size) : Calls Tryz.prog 48 #[.string s, .int .i64 k] W (REscIs (escF (s.data.toList.drop k)) W) := by
  unfold REscIs
  have hlen : (s.data.toList.drop k).length = s.size - k := by rw [List.length_drop, ← Lib.size_eq]
  rcases hl : s.data.toList.drop k with _ | ⟨x, _ | ⟨c, l⟩⟩
  · rw [hl] at hlen
    simp only [List.length_nil] at hlen
    have : k = s.size := by omega
    subst this
    have he : escF [] = none := rfl
    rw [he]
    clear hl hlen
    go_enter Tryz.func48, Tryz.ntmps48
    go_wp2_with fail
    go_ret3
    exact ⟨rfl, rfl⟩
  · rw [hl] at hlen
    simp only [List.length_cons, List.length_nil] at hlen
    have he : escF [x] = none := by
      unfold escF
      split
      · next e => simp at e
      · rfl
    rw [he]
    have hz : s.size = k + 1 := by omega
    clear hl hlen
    go_enter Tryz.func48, Tryz.ntmps48
    go_wp2_with fail
    go_ret3
    exact ⟨rfl, rfl⟩
  · rw [hl] at hlen
    simp only [List.length_cons] at hlen
    obtain ⟨hk0, hv0⟩ := get_drop s k _ _ hl
    have hl1 : s.data.toList.drop (k + 1) = c :: l := by rw [← List.drop_drop, hl]; rfl
    obtain ⟨hk1, hv1⟩ := get_drop s (k + 1) _ _ hl1
    by_cases hx : x = 92
    · subst hx
      have d1 : ¬ ((k : Int) < 0) := by omega
      have d2 : ¬ ((s.size : Int) - 1 ≤ k) := by omega
      have hc92 : ((s[k]'hk0).toNat : Int) = 92 := by rw [hv0 hk0]; rfl
      have hO := fun w => refOwn_ok c w
      have hcv := hv1 hk1
      have hown := own_is c
      obtain ⟨bo, hbo⟩ : ∃ bo, amongB [92, 39, 93, 91, 45] c = bo := ⟨_, rfl⟩
      rw [hbo] at hO hown
      have HO := Lib.hid hO
      clear hO hv0 hv1 hl
      cases bo with
      | true =>
        have he : escF (92 :: c :: l) = some (c.toNat, 2) := by
          have h := of_decide_eq_true hown.symm
          have hc : c = 92 ∨ c = 39 ∨ c = 93 ∨ c = 91 ∨ c = 45 := by
            rcases h with h | h | h | h | h
            · exact .inl (UInt8.toNat_inj.1 h)
            · exact .inr (.inl (UInt8.toNat_inj.1 h))
            · exact .inr (.inr (.inl (UInt8.toNat_inj.1 h)))
            · exact .inr (.inr (.inr (.inl (UInt8.toNat_inj.1 h))))
            · exact .inr (.inr (.inr (.inr (UInt8.toNat_inj.1 h))))
          rcases hc with rfl | rfl | rfl | rfl | rfl <;> rfl
        rw [he]
        have hct := c.toNat_lt
        have w32 : IntKind.i32.wrap (c.toNat : Int) = c.toNat := wrap_small32 _ (by omega)
        clear he hl1 hown hbo
        go_enter Tryz.func48, Tryz.ntmps48
        go_wp2_with fail
        refine (HO.out _).mono ?_
        rintro e w ⟨rfl, rfl⟩
        go_wp2_with fail
        go_ret3
        refine ⟨?_, rfl⟩
        simp
        try omega
      | false =>
        have hno := of_decide_eq_false hown.symm
        by_cases c1 : c = 110
        · subst c1
          rw [show escF (92 :: 110 :: l) = some (10, 2) from rfl]
          clear hl1 hown hbo hno
          go_enter Tryz.func48, Tryz.ntmps48
          go_wp2_with fail
          refine (HO.out _).mono ?_
          rintro e w ⟨rfl, rfl⟩
          go_wp2_with fail
          go_ret3
          exact ⟨rfl, rfl⟩
        by_cases c2 : c = 114
        · subst c2
          rw [show escF (92 :: 114 :: l) = some (13, 2) from rfl]
          clear hl1 hown hbo hno
          go_enter Tryz.func48, Tryz.ntmps48
          go_wp2_with fail
          refine (HO.out _).mono ?_
          rintro e w ⟨rfl, rfl⟩
          go_wp2_with fail
          go_ret3
          exact ⟨rfl, rfl⟩
        by_cases c3 : c = 116
        · subst c3
          rw [show escF (92 :: 116 :: l) = some (9, 2) from rfl]
          clear hl1 hown hbo hno
          go_enter Tryz.func48, Tryz.ntmps48
          go_wp2_with fail
          refine (HO.out _).mono ?_
          rintro e w ⟨rfl, rfl⟩
          go_wp2_with fail
          go_ret3
          exact ⟨rfl, rfl⟩
        by_cases c4 : c = 117
        · subst c4
          clear c1 c2 c3 hown hbo hno
          have hl2 : s.data.toList.drop (k + 2) = l := by rw [show k + 2 = (k + 1) + 1 by omega, ← List.drop_drop, hl1]; rfl
          clear hl1
          rcases hlL : l with _ | ⟨y, U⟩
          · rw [show escF [92, 117] = none from rfl]
            have hz : s.size = k + 2 := by rw [hlL] at hlen; simp at hlen; omega
            have d3 : ((s.size : Int) ≤ (k : Int) + 2) := by omega
            clear hl2 hlL
            go_enter Tryz.func48, Tryz.ntmps48
            go_wp2_with fail
            refine (HO.out _).mono ?_
            rintro e w ⟨rfl, rfl⟩
            go_wp2_with fail
            go_ret3
            exact ⟨rfl, rfl⟩
          subst hlL
          obtain ⟨hk2, hv2⟩ := get_drop s (k + 2) _ _ hl2
          have d3 : ¬ ((s.size : Int) ≤ (k : Int) + 2) := by omega
          by_cases hy : y = 123
          · subst hy
            rw [show escF (92 :: 117 :: 123 :: U) = (numF U).map fun (r, n) => (r, n + 3) from rfl]
            have hv := hv2 hk2
            have hU : s.data.toList.drop (k + 3) = U := by rw [show k + 3 = (k + 2) + 1 by omega, ← List.drop_drop, hl2]; rfl
            simp only [List.length_cons] at hlen
            have hget : ∀ m (h : m < U.length) (h2 : k + 3 + m < s.size), s[k + 3 + m]'h2 = U[m] := fun m h h2 => by
              obtain ⟨_, h4⟩ := get_drop s (k + 3 + m) U[m] (U.drop (m + 1)) (by rw [← List.drop_drop, hU, List.drop_eq_getElem_cons h])
              exact h4 h2
            have HGET := Lib.hid hget
            obtain ⟨O, hOO⟩ : ∃ O, (numF U).map (fun (r, n) => (r, n + 3)) = O := ⟨_, rfl⟩
            rw [hOO]
            have HOO := Lib.hid hOO
            clear hOO hget hU hl2 hv2
            go_enter Tryz.func48, Tryz.ntmps48
            go_wp2_with fail
            refine (HO.out _).mono ?_
            rintro e w ⟨rfl, rfl⟩
            go_wp2_with fail
            go_loopw [8, 9, 10] (fun vn vm vi wr => ∃ m i : Nat, vi = .int .i64 i ∧ Hid (i = k + 3 + m) ∧ vm = .int .i64 m ∧ vn = .int .i64 (hexVA 0 (U.take m)) ∧ m ≤ 7 ∧ m ≤ U.length ∧ Hid (∀ b ∈ U.take m, isHexA b = true) ∧ wr = w) (fun _ _ vi _ => s.size - (intOf vi).toNat)
            case atStart => exact ⟨0, k + 3, by go_num, Lib.hid (by omega), rfl, rfl, by omega, by omega, Lib.hid (by simp), rfl⟩
            case round =>
              obtain ⟨m, i, rfl, HIM, rfl, rfl, hm7, hml, HH, rfl⟩ := hrel
              have hlim := hexVA_lt7 (U.take m) HH.out (by rw [List.length_take]; omega)
              have hrn := ref_num U m hm7 hml HH.out
              have hst : m < U.length → U[m]? = some (U.getD m 0) := fun h => by
                rw [List.getD_eq_getElem?_getD, List.getElem?_eq_getElem h]
                rfl
              by_cases hmU : m < U.length
              · have hi : i < s.size := by have := HIM.out; omega
                have hb := HGET.out m hmU (by omega)
                have hb2 : s[i]'hi = U[m] := by
                  rw [← hb]
                  have h0 := HIM.out
                  congr 1
                have htk : U.take (m + 1) = U.take m ++ [U[m]] := by rw [List.take_add_one, List.getElem?_eq_getElem hmU]; rfl
                have hg : U[m]? = some U[m] := List.getElem?_eq_getElem hmU
                obtain ⟨b, hbb⟩ : ∃ b, U[m] = b := ⟨_, rfl⟩
                rw [hbb] at hb2 htk hg
                have hD := fun w => digit16_ok b w
                have hva : hexVA 0 (U.take (m + 1)) = hexVA 0 (U.take m) * 16 + undigA b := by rw [htk, hexVA_app]; rfl
                have HRN := Lib.hid hrn
                have HG := Lib.hid hg
                have HTK := Lib.hid htk
                clear hrn hst hb hbb
                cases hx : isHexA b with
                | true =>
                  have hz : digZ b = (undigA b : Int) := by unfold digZ; rw [if_pos hx]
                  have hul := undigA_lt b hx
                  rw [hz] at hD
                  generalize undigA b = D at *
                  obtain ⟨x, hxe⟩ : ∃ x, hexVA 0 (U.take m) = x := ⟨_, rfl⟩
                  rw [hxe] at hva hlim ⊢
                  have HVA := Lib.hid hva
                  have HD := Lib.hid hD
                  have HXE := Lib.hid hxe
                  have HX := Lib.hid hx
                  clear hva hD hz hx hg htk hxe
                  by_cases h7 : m < 7
                  · go_wp2_with fail
                    refine (HD.out _).mono ?_
                    rintro e w2 ⟨rfl, rfl⟩
                    go_wp2_with fail
                    refine (HD.out _).mono ?_
                    rintro e w3 ⟨rfl, rfl⟩
                    go_wp2_with fail
                    refine ⟨⟨m + 1, i + 1, by go_num, Lib.hid (by have := HIM.out; omega), by go_num, ?_, by omega, by omega, Lib.hid ?_, trivial⟩, by simp [intOf]; omega⟩
                    · rw [HVA.out, Nat.mul_comm x 16]
                      rfl
                    · rw [HTK.out]
                      intro z hz
                      rcases List.mem_append.1 hz with h | h
                      · exact HH.out z h
                      · rw [List.mem_singleton.1 h]
                        exact HX.out
                  · have hO : O = none := by
                      rw [← HOO.out, HRN.out (.inl (by omega)), if_neg (fun h => by omega)]
                      rfl
                    have HON := Lib.hid hO
                    have g1 : ¬ ((m : Int) < 1) := by omega
                    have g2 : (6 : Int) < m := by omega
                    clear hO
                    go_wp2_with fail
                    refine (HD.out _).mono ?_
                    rintro e w2 ⟨rfl, rfl⟩
                    go_wp2_with fail
                    go_ret3
                    rw [HON.out]
                    exact ⟨rfl, rfl⟩
                | false =>
                  have hz : digZ b = -1 := by unfold digZ; rw [hx]; rfl
                  rw [hz] at hD
                  have HD := Lib.hid hD
                  have hr := HRN.out (.inr (.inr ⟨b, HG.out, hx⟩))
                  have hgb := HG.out
                  rw [hgb] at hr
                  obtain ⟨x, hxe⟩ : ∃ x, hexVA 0 (U.take m) = x := ⟨_, rfl⟩
                  rw [hxe] at hr hlim ⊢
                  clear hz hx hD hgb hva htk hg hxe HRN HTK
                  by_cases hc : 1 ≤ m ∧ m ≤ 6 ∧ b = 125
                  · obtain ⟨q1, q2, q3⟩ := hc
                    have hb5 : (b.toNat : Int) = 125 := by rw [q3]; rfl
                    have hD5 := HD.out
                    simp only [hb5] at hD5
                    have HD5 := Lib.hid hD5
                    clear hD5
                    have g1 : ¬ ((m : Int) < 1) := by omega
                    have g2 : ¬ ((6 : Int) < m) := by omega
                    have g3 : ¬ ((s.size : Int) ≤ i) := by omega
                    have hI := fun w => refIs_ok (x : Int) w
                    have w32 : IntKind.i32.wrap (x : Int) = x := wrap_small32 _ (by omega)
                    cases hvl : Lib.validRune (x : Int) with
                    | true =>
                      have hO : O = some (x, m + 1 + 3) := by
                        rw [← HOO.out, hr, if_pos ⟨q1, q2, by rw [q3], hvl⟩]
                        rfl
                      rw [hvl] at hI
                      have HI := Lib.hid hI
                      have HON := Lib.hid hO
                      clear hI hO hr q3
                      go_wp2_with fail
                      refine (HD5.out _).mono ?_
                      rintro e w2 ⟨rfl, rfl⟩
                      go_wp2_with fail
                      refine (HI.out _).mono ?_
                      rintro e w3 ⟨rfl, rfl⟩
                      clear hb2 q1 q2 hm7 hml hmU hvl hc92 hcv hv d1 d2 d3 HO HD HD5 HI HGET
                      have w64 : IntKind.i64.wrap ((i : Int) + 1) = (i : Int) + 1 := wrap_smallS _ (by omega) (by omega)
                      have w65 : IntKind.i64.wrap ((i : Int) + 1 - k) = (i : Int) + 1 - k := wrap_smallS _ (by omega) (by omega)
                      have W32 := Lib.hid w32
                      clear w32
                      go_wp2_with fail
                      have hi3 := HIM.out
                      go_ret3
                      rw [HON.out]
                      refine ⟨?_, rfl⟩
                      rw [show (i : Int) + 1 - k = ((m + 1 + 3 : Nat) : Int) by omega]
                      rfl
                    | false =>
                      have hO : O = none := by
                        rw [← HOO.out, hr, if_neg (fun h => by rw [hvl] at h; exact absurd h.2.2.2 (by simp))]
                        rfl
                      rw [hvl] at hI
                      have HI := Lib.hid hI
                      have HON := Lib.hid hO
                      clear hI hO hr q3
                      go_wp2_with fail
                      refine (HD5.out _).mono ?_
                      rintro e w2 ⟨rfl, rfl⟩
                      go_wp2_with fail
                      refine (HI.out _).mono ?_
                      rintro e w3 ⟨rfl, rfl⟩
                      go_wp2_with fail
                      go_ret3
                      rw [HON.out]
                      exact ⟨rfl, rfl⟩
                  · have hO : O = none := by
                      rw [← HOO.out, hr, if_neg (fun h => hc ⟨h.1, h.2.1, Option.some.inj h.2.2.1⟩)]
                      rfl
                    have HON := Lib.hid hO
                    clear hO hr
                    by_cases hm1 : m < 1
                    · clear hc
                      go_wp2_with fail
                      refine (HD.out _).mono ?_
                      rintro e w2 ⟨rfl, rfl⟩
                      go_wp2_with fail
                      go_ret3
                      rw [HON.out]
                      exact ⟨rfl, rfl⟩
                    by_cases hm6 : 6 < m
                    · clear hc
                      go_wp2_with fail
                      refine (HD.out _).mono ?_
                      rintro e w2 ⟨rfl, rfl⟩
                      go_wp2_with fail
                      go_ret3
                      rw [HON.out]
                      exact ⟨rfl, rfl⟩
                    have hb5 : ¬ (b.toNat : Int) = 125 := fun e => hc ⟨by omega, by omega, UInt8.toNat_inj.1 (by show _ = 125; omega)⟩
                    have g1 : ¬ ((m : Int) < 1) := by omega
                    have g2 : ¬ ((6 : Int) < m) := by omega
                    have g3 : ¬ ((s.size : Int) ≤ i) := by omega
                    clear hc
                    go_wp2_with fail
                    refine (HD.out _).mono ?_
                    rintro e w2 ⟨rfl, rfl⟩
                    go_wp2_with fail
                    all_goals (go_ret3; rw [HON.out]; exact ⟨rfl, rfl⟩)
              · have hO : O = none := by
                  rw [← HOO.out, hrn (.inr (.inl (by omega))), if_neg]
                  · rfl
                  · rintro ⟨-, -, h, -⟩
                    have := (List.getElem?_eq_some_iff.1 h).1
                    omega
                have HON := Lib.hid hO
                have hiz : (s.size : Int) ≤ i := by have := HIM.out; omega
                clear hO hrn hst
                go_wp2_with fail
                all_goals
                  go_ret3
                  rw [HON.out]
                  exact ⟨rfl, rfl⟩
          · have he : escF (92 :: 117 :: y :: U) = none := by
              unfold escF
              simp only [show (117 : UInt8) ≠ 110 by decide, show (117 : UInt8) ≠ 114 by decide, show (117 : UInt8) ≠ 116 by decide, show amongB [92, 39, 93, 91, 45] 117 = false by decide, if_false, Bool.false_eq_true, if_true]
              split
              · next e => exact absurd (List.cons.inj e).1 hy
              · rfl
            rw [he]
            have hc123 : ¬ ((s[k + 2]'hk2).toNat : Int) = 123 := fun e => hy (by rw [← hv2 hk2]; exact UInt8.toNat_inj.1 (by show _ = 123; omega))
            clear he hl2 hv2
            go_enter Tryz.func48, Tryz.ntmps48
            go_wp2_with fail
            refine (HO.out _).mono ?_
            rintro e w ⟨rfl, rfl⟩
            go_wp2_with fail
            · go_ret3
              exact ⟨rfl, rfl⟩
            · exfalso
              exact absurd (‹_ ∧ (((s[k + 2]'hk2).toNat : Int) != 123) = false›).2 (by simp [hc123])
        · have he : escF (92 :: c :: l) = none := by
            unfold escF
            simp only [c1, c2, c3, c4, hbo, if_false, Bool.false_eq_true]
          rw [he]
          have n1 : ¬ (c.toNat : Int) = 110 := fun e => c1 (UInt8.toNat_inj.1 (by show _ = 110; omega))
          have n2 : ¬ (c.toNat : Int) = 114 := fun e => c2 (UInt8.toNat_inj.1 (by show _ = 114; omega))
          have n3 : ¬ (c.toNat : Int) = 116 := fun e => c3 (UInt8.toNat_inj.1 (by show _ = 116; omega))
          have n4 : ¬ (c.toNat : Int) = 117 := fun e => c4 (UInt8.toNat_inj.1 (by show _ = 117; omega))
          clear he hl1 hown hbo hno c1 c2 c3 c4
          go_enter Tryz.func48, Tryz.ntmps48
          go_wp2_with fail
          refine (HO.out _).mono ?_
          rintro e w ⟨rfl, rfl⟩
          go_wp2_with fail
          go_ret3
          exact ⟨rfl, rfl⟩
    · have he : escF (x :: c :: l) = none := by
        unfold escF
        split
        · next e => exact absurd (List.cons.inj e).1 hx
        · rfl
      rw [he]
      have hc92 : ¬ ((s[k]'hk0).toNat : Int) = 92 := fun e => hx (by rw [← hv0 hk0]; exact UInt8.toNat_inj.1 (by show _ = 92; omega))
      have d1 : ¬ ((k : Int) < 0) := by omega
      have d2 : ¬ ((s.size : Int) - 1 ≤ k) := by omega
      clear hl hl1 hv0 hv1 he
      go_enter Tryz.func48, Tryz.ntmps48
      go_wp2_with fail
      go_ret3
      exact ⟨rfl, rfl⟩
end Go.Proofs.YtdgkpmpakkfgbaaGreatDoor
