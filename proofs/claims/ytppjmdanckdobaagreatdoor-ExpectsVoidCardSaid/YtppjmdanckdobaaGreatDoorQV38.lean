/- fill: a list from a place on. -/
import Derived.Test.YtppjmdanckdobaaGreatDoorQV37
import Derived.Test.YtppjmdanckdobaaGreatDoorQV9
import Derived.Test.YtppjmdanckdobaaGreatDoorQV8
namespace Go.Proofs.YtppjmdanckdobaaGreatDoor
open Go.RowKit Go.Sort
theorem intsR_at (p : List Int) (x : Int) (q : List Int) (rest : List Value) : (intVs (p ++ x :: q) ++ rest)[p.length]? = some (.int .i64 x) := by
  simp [intVs]
theorem intsR_set (p : List Int) (x t : Int) (q : List Int) (rest : List Value) : (intVs (p ++ x :: q) ++ rest).set p.length (.int .i64 t) = intVs (p ++ t :: q) ++ rest := by
  simp [intVs]
theorem ownsR_ints {w : World} {b T : Nat} {l : List Int} {rest : List Value} (h : Owns w b (intVs l ++ rest) T) : IntsAt w w.heap.size (some ⟨b, 0, none⟩) l := fun k hk =>
  ⟨b, 0, rfl, h.lt, by rw [Nat.zero_add]; exact h.cell_at (by simp [intVs, hk, List.getElem?_append])⟩
structure FilAt (B : Bk) (r : Nat) (w : List Int) (n i : Nat) (v : List Int) : Prop where
  le : i ≤ n
  len : v.length = i
  der : B.D r (w ++ v ++ rep (n - i))
  fil : ∀ u, Fil B r (w ++ v) (n - i) u → Fil B r w n (v ++ u)
theorem FilAt.start {B : Bk} {r : Nat} {w : List Int} {n : Nat} (h : B.D r (w ++ rep n)) : FilAt B r w n 0 [] := ⟨Nat.zero_le _, rfl, by rw [List.append_nil]; exact h, fun u hu => by rw [List.append_nil] at hu; exact hu⟩
theorem FilAt.more {B : Bk} {r : Nat} {w v : List Int} {n i : Nat} (h : FilAt B r w n i v) (hi : i < n) {x : Int} (hx : x ∈ B.kinds) (hd : B.D r (w ++ v ++ x :: rep (n - (i + 1)))) (hno : ∀ y ∈ B.kinds, y < x → ¬ B.D r (w ++ v ++ y :: rep (n - (i + 1)))) : FilAt B r w n (i + 1) (v ++ [x]) := by
  have e : n - i = n - (i + 1) + 1 := by omega
  refine ⟨hi, by rw [List.length_append, h.len]; rfl, by rw [← List.append_assoc, List.append_assoc (w ++ v)]; exact hd, fun u hu => ?_⟩
  have := h.fil (x :: u) (by
    rw [e]
    exact ⟨x, u, rfl, hx, hd, hno, by rw [← List.append_assoc] at hu; exact hu⟩)
  rw [List.append_assoc]
  exact this
theorem first_kind {K : List Int} (hr : K.Pairwise (· < ·)) {j : Nat} (hj : j < K.length) {P : Int → Prop} (hno : ∀ x ∈ K.take j, ¬ P x) : ∀ y ∈ K, y < K[j] → ¬ P y := by
  intro y hy hl
  obtain ⟨i, hi, rfl⟩ := List.mem_iff_getElem.1 hy
  by_cases hij : i < j
  · exact hno _ (List.mem_iff_getElem.2 ⟨i, by rw [List.length_take]; omega, by rw [List.getElem_take]⟩)
  · rcases Nat.lt_or_ge j i with h | h
    · have := List.pairwise_iff_getElem.1 hr j i hj hi h
      omega
    · have : i = j := by omega
      subst this
      omega
set_option maxHeartbeats 8000000 in
set_option maxRecDepth 40000 in
theorem xfill_ok (T : XT) (hG : T.B.Good) (hB : T.B.Lng) (k : Nat) (hk : k < T.B.bodies.length) (hT : ∀ n ∈ T.B.bodies, TokIn T.B n) (hR : T.B.kinds.Pairwise (· < ·)) (hkl : T.B.kinds.length ≤ 1000) (w : List Int) (n lim g cap : Nat) (rest : List Value) (hn : w.length + n ≤ 48) (hlg : lim ≤ g) (W : World) (hA : T.At lim W) (hO : Owns W g (intVs (w ++ rep n) ++ rest) 3) (hd : T.B.D k (w ++ rep n)) :
    Calls Tryz.prog 25 #[T.ptr, .int .i64 (k : Int), .slice (some ⟨g, 0, none⟩) (w.length + n) cap, .int .i64 (w.length : Int)] W fun e W' => e = .returned (.tuple #[]) ∧ ∃ v, Fil T.B k w n v ∧ Owns W' g (intVs (w ++ v) ++ rest) 3 ∧ Below lim W W' := by
  have HDR : Hid (∀ (u : List Int) (wi : World), u.length = w.length + n → Below lim W wi → Owns wi g (intVs u ++ rest) 3 → Calls Tryz.prog 24 #[T.ptr, .int .i64 (k : Int), .slice (some ⟨g, 0, none⟩) (w.length + n) cap] wi fun e w' => ∃ b, e = .returned (.bool b) ∧ (b = true ↔ T.B.D k u) ∧ Grew wi w') := Lib.hid fun u wi hu hb ho => by
    have h1 := xderived_ok T hG hB k hk (some ⟨g, 0, none⟩) cap u (by omega) wi ((hA.keep hb).mono (Nat.le_trans hA.low hb.size) (Nat.le_refl _)) (ownsR_ints ho)
    rw [hu] at h1
    exact h1
  have HSOME : Hid (∀ p q, T.B.D k (p ++ -2 :: q) → ∃ x ∈ T.B.kinds, T.B.D k (p ++ x :: q)) := Lib.hid fun p q h => d_some hT h
  have HR := Lib.hid hR
  have HA := Lib.hid hA
  have HO := Lib.hid hO
  have HF0 := Lib.hid (FilAt.start hd)
  have c0 := hA.box.cell_at (i := 0) rfl
  have c3 := hA.box.cell_at (i := 3) rfl
  have cl := hA.box.lt
  have htlo := hA.tbl
  obtain ⟨ka, kc, hkv, hks⟩ := hA.kinds
  unfold XT.e at c3 cl hkv hks htlo
  dsimp only at c3 cl hkv hks htlo
  rw [hkv] at c3
  obtain ⟨kn, hkn⟩ : ∃ kn, T.B.kinds.length = kn := ⟨_, rfl⟩
  rw [hkn] at c3 hkl
  have HKN := Lib.hid hkn
  have HKS := Lib.hid hks
  have HC3 : Hid (∀ wr, Below lim W wr → wr.cell? ⟨T.tb, 3, none⟩ = some (.slice ka kn kc) ∧ T.tb < wr.heap.size) := Lib.hid fun wr hb => ⟨by rw [hb.cell htlo]; exact c3, Nat.lt_of_lt_of_le cl hb.size⟩
  obtain ⟨wn, hwn⟩ : ∃ wn, w.length = wn := ⟨_, rfl⟩
  have HWN := Lib.hid hwn
  unfold XT.ptr at *
  rw [hwn] at HDR hn ⊢
  obtain ⟨N, hN⟩ : ∃ N, wn + n = N := ⟨_, rfl⟩
  rw [hN] at HDR hn ⊢
  have HNN := Lib.hid hN
  clear hkv hks hkn c0 c3 cl htlo hG hB hT hR hA hO hd hwn hk hN
  go_enter Tryz.func25, Tryz.ntmps25
  go_wp2_with fail
  go_loopw [8] (fun c wr => ∃ (a i : Nat) (v : List Int), c = .int .i64 (a : Int) ∧ a ≤ N ∧ Hid (a = wn + i) ∧ Hid (FilAt T.B k w n i v) ∧ Hid (Owns wr g (intVs (w ++ v ++ rep (n - i)) ++ rest) 3) ∧ Hid (Below lim W wr)) (fun c _ => N - (intOf c).toNat)
  case atStart =>
    exact ⟨wn, 0, [], rfl, by have := HNN.out; omega, rfl, HF0.out, by unfold Hid; rw [List.append_nil]; exact HO.out, Below.refl _ _⟩
  case round =>
    obtain ⟨a, i, v, rfl, ha, HAI, HF, HOW, HBL⟩ := hrel
    by_cases hltN : a < N
    · have HLTN : Hid (i < n) := Lib.hid (by have := HAI.out; have := HNN.out; omega)
      obtain ⟨c3, cl⟩ := HC3.out wr HBL.out
      obtain ⟨wo, rfl⟩ : ∃ wo : World, wo = wr := ⟨_, rfl⟩
      obtain ⟨m, hm⟩ : ∃ m, n - (i + 1) = m := ⟨_, rfl⟩
      have HM := Lib.hid hm
      have HOW2 : Hid (Owns wo g (intVs (w ++ v ++ -2 :: rep m) ++ rest) 3) := Lib.hid (by
        have := HOW.out
        rw [show n - i = m + 1 by have := HLTN.out; omega, rep_succ] at this
        exact this)
      have HLV : Hid ((w ++ v).length = a) := Lib.hid (by rw [List.length_append, HWN.out, HF.out.len, HAI.out])
      clear hm
      go_wp2_with fail
      go_loopw [24] (fun c wi => ∃ (j : Nat) (y : Int), c = .int .i64 (j : Int) ∧ j ≤ kn ∧ Hid (∀ x ∈ T.B.kinds.take j, ¬ T.B.D k (w ++ v ++ x :: rep m)) ∧ Hid (Owns wi g (intVs (w ++ v ++ y :: rep m) ++ rest) 3) ∧ Hid (Below lim W wi)) (fun c _ => kn - (intOf c).toNat)
      case atStart => exact ⟨0, -2, rfl, Nat.zero_le _, fun x hx => by simp at hx, HOW2.out, HBL.out⟩
      case round =>
        obtain ⟨j, y, rfl, hj, HNO, HOI, HBI⟩ := hrel
        obtain ⟨wi, rfl⟩ : ∃ wi : World, wi = wr := ⟨_, rfl⟩
        by_cases hjl : j < kn
        · have hjl' : j < T.B.kinds.length := by rw [HKN.out]; exact hjl
          obtain ⟨b, off, rfl, hb, hkc⟩ := HKS.out j hjl'
          have hlw := (HA.out.keep HBI.out).low
          have hkc2 : wi.cell? ⟨b, off + j, none⟩ = some (.int .i64 T.B.kinds[j]) := by rw [HBI.out.cell hb]; exact hkc
          have hb2 : b < wi.heap.size := Nat.lt_of_lt_of_le hb hlw
          have HTK := Lib.hid (List.take_succ_eq_append_getElem hjl')
          have HFK := Lib.hid (first_kind HR.out hjl' (P := fun x => T.B.D k (w ++ v ++ x :: rep m)) HNO.out)
          have HMEM := Lib.hid (List.getElem_mem hjl')
          obtain ⟨t, ht⟩ : ∃ t, T.B.kinds[j] = t := ⟨_, rfl⟩
          rw [ht] at hkc2 HTK HFK HMEM
          have w0 : wi.cell? ⟨g, a, none⟩ = some (.int .i64 y) := by rw [← HLV.out, HOI.out.cell]; exact intsR_at _ _ _ _
          have wl := HOI.out.lt
          have wf := HOI.out.free a
          have hat2 : (a : Int) < (N : Int) := by omega
          have ho2 : Owns (wi.setCell ⟨g, a, none⟩ (.int .i64 t)) g (intVs (w ++ v ++ t :: rep m) ++ rest) 3 := by
            have := HOI.out.set a (.int .i64 t)
            rw [← HLV.out, intsR_set, HLV.out] at this
            exact this
          have HO2 := Lib.hid ho2
          have hbt := set_but (i := a) (v := .int .i64 t) HOI.out
          have HBL2 := Lib.hid (Below.trans HBI.out (hbt.below hlw fun q e => by rw [e]; exact hlg))
          have hD := HDR.out (w ++ v ++ t :: rep m) (wi.setCell ⟨g, a, none⟩ (.int .i64 t)) (by rw [List.length_append, HLV.out, List.length_cons, rep_len]; have := HM.out; have := HAI.out; have := HNN.out; omega) HBL2.out HO2.out
          have HD := Lib.hid hD
          clear ht hkc hb hjl' ho2 hbt hlw hD
          go_wp2_with fail
          refine HD.out.mono ?_
          rintro e w3 ⟨b3, rfl, hb3, hg3⟩
          have HB3 := Lib.hid hb3
          have HG3 := Lib.hid (Below.trans HBL2.out (hg3.mono (HA.out.keep HBL2.out).low))
          have HO3 := Lib.hid (HO2.out.keep hg3)
          clear hb3 hg3 HD w0 wl wf hkc2 hb2
          cases b3
          · have HN2 : Hid (∀ x ∈ T.B.kinds.take (j + 1), ¬ T.B.D k (w ++ v ++ x :: rep m)) := Lib.hid fun x hx => by
              rw [HTK.out] at hx
              rcases List.mem_append.1 hx with hx | hx
              · exact HNO.out x hx
              · rw [List.mem_singleton.1 hx]
                exact fun h => by have := HB3.out.2 h; cases this
            go_wp2_with fail
            refine ⟨⟨j + 1, t, by go_num, by omega, HN2.out, HO3.out, HG3.out⟩, by simp [intOf]; omega⟩
          · have HF2 := Lib.hid (HF.out.more HLTN.out HMEM.out (by rw [HM.out]; exact HB3.out.1 rfl) (by rw [HM.out]; exact HFK.out))
            go_wp2_with fail
            refine ⟨⟨a + 1, i + 1, v ++ [t], by go_num, by omega, by unfold Hid; rw [HAI.out]; rfl, HF2.out, ?_, HG3.out⟩, by simp [intOf]; omega⟩
            unfold Hid
            rw [HM.out, ← List.append_assoc, List.append_assoc (w ++ v)]
            exact HO3.out
        · obtain rfl : j = kn := by omega
          exfalso
          have hd := HF.out.der
          have hm := HM.out
          rw [show n - i = m + 1 by have := HLTN.out; omega, rep_succ] at hd
          obtain ⟨x, hx, hdx⟩ := HSOME.out _ _ hd
          exact HNO.out x (by rw [List.take_of_length_le (by rw [HKN.out]; exact Nat.le_refl _)]; exact hx) hdx
    · obtain rfl : a = N := by omega
      obtain rfl : i = n := by have := HAI.out; have := HNN.out; omega
      have HFIN : Hid (∃ v, Fil T.B k w i v ∧ Owns wr g (intVs (w ++ v) ++ rest) 3 ∧ Below lim W wr) := Lib.hid (by
        refine ⟨v, ?_, ?_, HBL.out⟩
        · have := HF.out.fil [] (by rw [Nat.sub_self]; rfl)
          rw [List.append_nil] at this
          exact this
        · have := HOW.out
          rw [Nat.sub_self, show rep 0 = [] from rfl, List.append_nil] at this
          exact this)
      go_wp2_with fail
      go_end0
      exact ⟨rfl, HFIN.out⟩
end Go.Proofs.YtppjmdanckdobaaGreatDoor

/- Rest: the first list that ends what is begun. -/
namespace Go.Proofs.YtppjmdanckdobaaGreatDoor
open Go.RowKit Go.Sort
def askR (B : Bk) (r : Int) (w : List Int) (more : Int) : Bool := hasX B r w.length && (decide (0 ≤ more) && (decide (more ≤ 8) && !(w.any fun y => (-2 : Int) == y)))
def mostN (w : List Int) (more : Int) : Nat := min more.toNat (48 - w.length)
structure RestV (B : Bk) (r : Nat) (w : List Int) (more : Int) (v : List Int) : Prop where
  le : v.length ≤ mostN w more
  no : ∀ m, m < v.length → ¬ B.D r (w ++ rep m)
  der : B.D r (w ++ rep v.length)
  fil : Fil B r w v.length v
def RestIs (B : Bk) (r : Int) (w : List Int) (more : Int) (W : World) (e : Ending) (W' : World) : Prop := Grew W W' ∧
  if askR B r w more then (∃ (v : List Int) (y : Value), e = .returned (.tuple #[y, .bool true]) ∧ looseRow W' W.heap.size 3 1 y v.length (intVs v) ∧ RestV B r.toNat w more v) ∨
    (e = .returned (.tuple #[.slice none 0 0, .bool false]) ∧ ∀ m, m ≤ mostN w more → ¬ B.D r.toNat (w ++ rep m))
  else e = .returned (.tuple #[.slice none 0 0, .bool false])
theorem loose_cap {w : World} {base e size n : Nat} {a : Option Addr} {c : Nat} {xs : List Value} (h : looseRow w base e size (.slice a n c) n xs) : n ≤ c := by
  rcases h.2 with ⟨h1, h0⟩ | ⟨b, cap, cur, h1, h2, h3, h4, h5⟩
  · omega
  · obtain ⟨-, -, rfl⟩ := Value.slice.inj h1
    exact h4
theorem size_intY (u : World) : (sizeOf (Tryz.prog.elem 22)).run Tryz.prog u = .ok 1 u := by kernel_rfl
theorem xfill_none (T : XT) (r at0 : Int) (h0 : 0 ≤ at0) (a : Option Addr) (c : Nat) (W : World) : Calls Tryz.prog 25 #[T.ptr, .int .i64 r, .slice a 0 c, .int .i64 at0] W fun e W' => e = .returned (.tuple #[]) ∧ W' = W := by
  unfold XT.ptr
  go_enter Tryz.func25, Tryz.ntmps25
  go_wp2_with fail
  go_loopw [8] (fun c wr => c = .int .i64 at0 ∧ wr = W) (fun c _ => 0)
  case atStart => exact ⟨rfl, rfl⟩
  case round =>
    obtain ⟨rfl, rfl⟩ := hrel
    go_wp2_with fail
    go_end0
    exact ⟨rfl, rfl⟩
theorem xfill_row (T : XT) (hG : T.B.Good) (hB : T.B.Lng) (k : Nat) (hk : k < T.B.bodies.length) (hT : ∀ n ∈ T.B.bodies, TokIn T.B n) (hR : T.B.kinds.Pairwise (· < ·)) (hkl : T.B.kinds.length ≤ 1000) (w : List Int) (n lim base : Nat) (y : Value) (hn : w.length + n ≤ 48) (hlg : lim ≤ base) (W : World) (hA : T.At lim W) (hO : looseRow W base 3 1 y (w.length + n) (intVs (w ++ rep n))) (hd : T.B.D k (w ++ rep n)) :
    Calls Tryz.prog 25 #[T.ptr, .int .i64 (k : Int), y, .int .i64 (w.length : Int)] W fun e W' => e = .returned (.tuple #[]) ∧ ∃ v, Fil T.B k w n v ∧ looseRow W' base 3 1 y (w.length + n) (intVs (w ++ v)) ∧ Below lim W W' := by
  rcases hO.2 with ⟨rfl, h0⟩ | ⟨g, cap, cur, rfl, h1, h2, h3, h4, h5, h6⟩
  · have hw : w = [] := List.eq_nil_of_length_eq_zero (by omega)
    have hn0 : n = 0 := by omega
    subst hw hn0
    refine (xfill_none T k 0 (Int.le_refl _) none 0 W).mono ?_
    rintro e W' ⟨rfl, rfl⟩
    exact ⟨rfl, [], rfl, hO, Below.refl _ _⟩
  · have hcur : cur = (intVs (w ++ rep n) ++ cur.toList.drop (w.length + n)).toArray := by
      rw [Nat.mul_one] at h6
      rw [← h6, List.take_append_drop, Array.toArray_toList]
    have ho : Owns W g (intVs (w ++ rep n) ++ cur.toList.drop (w.length + n)) 3 := by
      unfold Owns
      rw [h2, ← hcur]
    refine (xfill_ok T hG hB k hk hT hR hkl w n lim g cap _ hn (Nat.le_trans hlg h1) W hA ho hd).mono ?_
    rintro e W' ⟨rfl, v, k1, k2, k3⟩
    have hvl : (intVs (w ++ v)).length = w.length + n := by simp [intVs, k1.len]
    refine ⟨rfl, v, k1, ⟨by rw [hvl, Nat.mul_one], .inr ⟨g, cap, _, rfl, h1, k2, h3, h4, ?_, ?_⟩⟩, k3⟩
    · simp [hvl]
      omega
    · rw [Nat.mul_one, ← hvl, List.take_left]
theorem xdrop {W : World} {lim sc : Nat} {wa : Option Addr} {wl : List Int} (hI : IntsAt W lim wa wl) (hsc : wl.length ≤ sc) {j : Nat} (hj : j ≤ wl.length) :
    ∃ a' c', (∀ u : World, (Instr.slice 22 (.slice wa wl.length sc) (some (.int .i64 (j : Int))) none none).run Tryz.prog u = .ok (.slice a' (wl.length - j) c') u) ∧ IntsAt W lim a' (wl.drop j) := by
  have h0 : ∀ u : World, (Instr.slice 22 (.slice wa wl.length sc) (some (.int .i64 (j : Int))) none none).run Tryz.prog u = .ok (sliced wa j wl.length sc 1) u := fun u => by
    have := run_slice_l (P := Tryz.prog) u 22 wa wl.length sc (by kernel_rfl) .i64 (j : Int) (by omega) (by omega)
    rw [this, size_intY, Int.toNat_natCast]
    rfl
  refine ⟨_, _, h0, fun k hk => ?_⟩
  rw [List.length_drop] at hk
  obtain ⟨b, off, rfl, hb, hc⟩ := hI (j + k) (by omega)
  refine ⟨b, off + j, ?_, hb, by rw [List.getElem_drop, Nat.add_assoc]; exact hc⟩
  rw [if_neg (by omega)]
  simp [Addr.add]
set_option maxHeartbeats 8000000 in
set_option maxRecDepth 40000 in
theorem xrest_ok (T : XT) (hG : T.B.Good) (hB : T.B.Lng) (hT : ∀ n ∈ T.B.bodies, TokIn T.B n) (hR : T.B.kinds.Pairwise (· < ·)) (hkl : T.B.kinds.length ≤ 1000) (r more : Int) (wa : Option Addr) (sc : Nat) (wl : List Int) (W : World) (hA : T.At W.heap.size W) (hI : IntsAt W W.heap.size wa wl) (hwl : wl.length ≤ reachN) :
    Calls Tryz.prog 6 #[T.ptr, .int .i64 r, .slice wa wl.length sc, .int .i64 more] W (RestIs T.B r wl more W) := by
  have HH := Lib.hid (xhas_ok T r wa wl.length sc W hA)
  have HCO := Lib.hid (containsInt_ok wl (-2) W (.slice wa wl.length sc) hwl ⟨wa, sc, rfl, hI⟩)
  obtain ⟨Q, hQ⟩ : ∃ Q, RestIs T.B r wl more W = Q := ⟨_, rfl⟩
  rw [hQ]
  have HQ := Lib.hid hQ
  have HNO : Hid (askR T.B r wl more = false → ∀ w', Grew W w' → Q (.returned (.tuple #[.slice none 0 0, .bool false])) w') := Lib.hid fun h w' hw => by
    rw [← HQ.out]
    unfold RestIs
    rw [if_neg (by rw [h]; simp)]
    exact ⟨hw, rfl⟩
  have HA := Lib.hid hA
  have HI := Lib.hid hI
  have HDR : Hid (∀ k : Nat, k < T.B.bodies.length → ∀ (u : List Int) (y : Value) (wi : World), u.length ≤ 48 → Grew W wi → looseRow wi W.heap.size 3 1 y u.length (intVs u) → Calls Tryz.prog 24 #[T.ptr, .int .i64 (k : Int), y] wi fun e w' => ∃ b, e = .returned (.bool b) ∧ (b = true ↔ T.B.D k u) ∧ Grew wi w') := Lib.hid fun k hk u y wi hu hb ho => by
    obtain ⟨a, c, rfl, hi⟩ := loose_ints ho
    exact xderived_ok T hG hB k hk a c u hu wi (hA.grew hb) hi
  have HFL : Hid (∀ k : Nat, k < T.B.bodies.length → ∀ (n : Nat) (y : Value) (wi : World), wl.length + n ≤ 48 → Grew W wi → looseRow wi W.heap.size 3 1 y (wl.length + n) (intVs (wl ++ rep n)) → T.B.D k (wl ++ rep n) → Calls Tryz.prog 25 #[T.ptr, .int .i64 (k : Int), y, .int .i64 (wl.length : Int)] wi fun e W' => e = .returned (.tuple #[]) ∧ ∃ v, Fil T.B k wl n v ∧ looseRow W' W.heap.size 3 1 y (wl.length + n) (intVs (wl ++ v)) ∧ Grew W W') := Lib.hid fun k hk n y wi hn hb ho hd => by
    refine (xfill_row T hG hB k hk hT hR hkl wl n W.heap.size W.heap.size y hn (Nat.le_refl _) wi (hA.keep hb) ho hd).mono ?_
    rintro e W' ⟨rfl, v, k1, k2, k3⟩
    exact ⟨rfl, v, k1, k2, Below.trans hb k3⟩
  unfold XT.ptr at *
  clear hA hI hQ hG hB hT hR hkl
  cases hh : hasX T.B r wl.length with
  | false =>
    rw [hh] at HH
    have HX := Lib.hid (HNO.out (by unfold askR; rw [hh]; rfl) _ (Grew.refl _))
    clear hh
    go_enter Tryz.func6, Tryz.ntmps6
    go_wp2_with fail
    refine HH.out.mono ?_
    rintro e w1 ⟨rfl, rfl⟩
    go_wp2_with fail
    exact HX.out
  | true =>
    have hh' := hh
    unfold hasX at hh'
    simp only [Bool.and_eq_true, decide_eq_true_eq] at hh'
    obtain ⟨k, rfl⟩ := Int.eq_ofNat_of_zero_le hh'.1
    have HKB := Lib.hid (show k < T.B.bodies.length by omega)
    have HW48 := Lib.hid hh'.2.2
    rw [hh] at HH
    have HHH := Lib.hid hh
    obtain ⟨n, hn⟩ : ∃ n, wl.length = n := ⟨_, rfl⟩
    have HN := Lib.hid hn
    rw [hn] at HH HCO HFL hwl ⊢
    clear hh hh' hn
    by_cases hm0 : more < 0
    · have hm1 : decide (more < 0) = true := decide_eq_true hm0
      have HX := Lib.hid (HNO.out (by unfold askR; rw [HHH.out, decide_eq_false (by omega)]; rfl) _ (Grew.refl _))
      go_enter Tryz.func6, Tryz.ntmps6
      go_wp2_with fail
      refine HH.out.mono ?_
      rintro e w1 ⟨rfl, rfl⟩
      go_wp2_with fail
      exact HX.out
    · have hm1 : decide (more < 0) = false := decide_eq_false hm0
      by_cases hm8 : 8 < more
      · have hm2 : decide (8 < more) = true := decide_eq_true hm8
        have HX := Lib.hid (HNO.out (by unfold askR; rw [HHH.out, decide_eq_true (by omega), decide_eq_false (by omega)]; rfl) _ (Grew.refl _))
        go_enter Tryz.func6, Tryz.ntmps6
        go_wp2_with fail
        refine HH.out.mono ?_
        rintro e w1 ⟨rfl, rfl⟩
        go_wp2_with fail
        exact HX.out
      · have hm2 : decide (8 < more) = false := decide_eq_false hm8
        obtain ⟨cb, hcb⟩ : ∃ cb, (wl.any fun y => (-2 : Int) == y) = cb := ⟨_, rfl⟩
        rw [hcb] at HCO
        have HCB := Lib.hid hcb
        clear hcb
        cases cb
        · have HASK : Hid (askR T.B (k : Int) wl more = true) := Lib.hid (by
            unfold askR
            rw [HHH.out, decide_eq_true (by omega), decide_eq_true (by omega), HCB.out]
            rfl)
          obtain ⟨mm, rfl⟩ := Int.eq_ofNat_of_zero_le (show 0 ≤ more by omega)
          obtain ⟨M, hM⟩ : ∃ M, mostN wl (mm : Int) = M := ⟨_, rfl⟩
          have HMM := Lib.hid hM
          have hM2 : min (mm : Int) (48 - (n : Int)) = (M : Int) := by
            rw [← hM]
            unfold mostN
            have := HW48.out
            have := HN.out
            omega
          have hM8 : M ≤ 8 := by
            rw [← hM]
            unfold mostN
            omega
          have hM48 : Hid (n + M ≤ 48) := Lib.hid (by
            rw [← hM]
            unfold mostN
            have := HW48.out
            have := HN.out
            omega)
          have hN48 : n ≤ 48 := by have := HW48.out; have := HN.out; omega
          clear hM HNO
          go_enter Tryz.func6, Tryz.ntmps6
          go_wp2_with fail
          refine HH.out.mono ?_
          rintro e w1 ⟨rfl, rfl⟩
          go_wp2_with fail
          refine HCO.out.mono ?_
          rintro e w3 ⟨rfl, hg⟩
          have HG3 := Lib.hid hg
          clear hg
          go_wp2_with fail
          have HFIN : Hid (∀ (v : List Int) (y : Value) (w' : World), Grew w1 w' → looseRow w' w1.heap.size 3 1 y v.length (intVs v) → v.length ≤ M → (∀ m, m < v.length → ¬ T.B.D k (wl ++ rep m)) → T.B.D k (wl ++ rep v.length) → Fil T.B k wl v.length v → Q (.returned (.tuple #[y, .bool true])) w') := Lib.hid fun v y w' h1 h2 h3 h4 h5 h6 => by
            rw [← HQ.out]
            refine ⟨h1, ?_⟩
            rw [if_pos HASK.out]
            exact .inl ⟨v, y, rfl, h2, ⟨by rw [HMM.out]; exact h3, h4, h5, h6⟩⟩
          have HFAIL : Hid (∀ w' : World, Grew w1 w' → (∀ m, m < M + 1 → ¬ T.B.D k (wl ++ rep m)) → Q (.returned (.tuple #[.slice none 0 0, .bool false])) w') := Lib.hid fun w' h1 h2 => by
            rw [← HQ.out]
            refine ⟨h1, ?_⟩
            rw [if_pos HASK.out]
            exact .inr ⟨rfl, fun m hm => h2 m (by rw [HMM.out] at hm; omega)⟩
          go_loopw [35] (fun c wr => ∃ (j : Nat), c = .int .i64 (j : Int) ∧ j ≤ M + 1 ∧ Hid (∀ m, m < j → ¬ T.B.D k (wl ++ rep m)) ∧ Hid (Grew w1 wr)) (fun c _ => M + 1 - (intOf c).toNat)
          case atStart => exact ⟨0, rfl, Nat.zero_le _, fun m hm => absurd hm (by omega), HG3.out⟩
          case round =>
            obtain ⟨j, rfl, hj, HNOJ, HGW⟩ := hrel
            obtain ⟨wo, rfl⟩ : ∃ wo : World, wo = wr := ⟨_, rfl⟩
            by_cases hlt : j < M + 1
            · have hlti : (j : Int) < (M : Int) + 1 := by omega
              obtain ⟨b, hb⟩ : ∃ b, wo.heap.size = b := ⟨_, rfl⟩
              obtain ⟨w4, hw4⟩ : ∃ w4, wo.alloc (.cells #[.int .i64 (-2)] 3) = w4 := ⟨_, rfl⟩
              have g4 : Grew wo w4 := hw4 ▸ grew_alloc wo _
              have o4 : Owns w4 b [.int .i64 (-2)] 3 := by rw [← hw4, ← hb]; exact Owns.alloc wo _ _
              have HRP := Lib.hid (repeat_ok j (by omega) w4 b o4)
              have HG4 := Lib.hid (HGW.out.trans g4)
              clear g4 o4
              go_wp2_with fail
              refine HRP.out.mono ?_
              rintro e w5 ⟨g, rfl, hg5, o5, gr5⟩
              clear hw4 hb HRP
              obtain ⟨b5, hb5⟩ : ∃ b5, w5.heap.size = b5 := ⟨_, rfl⟩
              obtain ⟨w6, hw6⟩ : ∃ w6, w5.alloc (.cells #[.slice wa n sc, .slice (some ⟨g, 0, none⟩) j j] 22) = w6 := ⟨_, rfl⟩
              have g6 : Grew w5 w6 := hw6 ▸ grew_alloc w5 _
              have o6 : Owns w6 b5 [.slice wa n sc, .slice (some ⟨g, 0, none⟩) j j] 22 := by rw [← hw6, ← hb5]; exact Owns.alloc w5 _ _
              have HG6 := Lib.hid ((HG4.out.trans gr5).trans g6)
              have hhalf : half j j = intVs (rep j) := by simp [half, intVs, rep]
              have HIV : IntsV w6 w6.heap.size (.slice (some ⟨g, 0, none⟩) j j) (rep j) := by
                have := owns_ints (cap := j) (l := rep j) (hhalf ▸ o5.keep g6)
                rw [rep_len] at this
                exact this
              have HIW : IntsV w6 w6.heap.size (.slice wa n sc) wl := ⟨wa, sc, by rw [HN.out], IntsAt.mono HG6.out.size (IntsAt.keep HG6.out HI.out)⟩
              have HC := Lib.hid (concatInts_ok [wl, rep j] [.slice wa n sc, .slice (some ⟨g, 0, none⟩) j j] rfl (by simp [lens, rep_len]; rw [HN.out]; omega) (by simp) w6 b5 2 o6.lt (fun q hq => by
                have hk2 : q = 0 ∨ q = 1 := by simp at hq; omega
                rcases hk2 with rfl | rfl
                · exact o6.cell_at rfl
                · exact o6.cell_at rfl) (fun q hq hq2 => by
                have hk3 : q = 0 ∨ q = 1 := by simp at hq; omega
                rcases hk3 with rfl | rfl
                · exact HIW
                · exact HIV))
              simp only [List.length_cons, List.length_nil, Nat.zero_add, Nat.reduceAdd, List.flatten_cons, List.flatten_nil, List.append_nil] at HC
              clear HIV HIW hhalf o5 gr5 g6 o6 hg5
              go_wp2_with fail
              refine HC.out.mono ?_
              rintro e w7 ⟨y, rfl, hy, hg7⟩
              clear hw6 hb5 HC
              obtain ⟨ya, yc, hye⟩ := loose_form hy
              have hyl : (wl ++ rep j).length = n + j := by rw [List.length_append, HN.out, rep_len]
              rw [hyl] at hy hye
              have HY := Lib.hid (looseRow.weak hy HG6.out.size)
              have HG7 := Lib.hid (HG6.out.trans hg7)
              have hD := HDR.out k HKB.out (wl ++ rep j) y w7 (by rw [hyl]; have := hM48.out; omega) HG7.out (by rw [hyl]; exact HY.out)
              have HD := Lib.hid hD
              subst hye
              clear hy hg7 hyl hD
              go_wp2_with fail
              refine HD.out.mono ?_
              rintro e w8 ⟨d, rfl, hd, hg8⟩
              have HD8 := Lib.hid hd
              have HG8 := Lib.hid (HG7.out.trans hg8)
              have HY8 := Lib.hid (row_but HY.out (But.of_grew (F := fun _ => False) hg8) fun _ _ => id)
              clear hd hg8 HD
              cases d
              · have HN2 : Hid (∀ m, m < j + 1 → ¬ T.B.D k (wl ++ rep m)) := Lib.hid fun m hm => by
                  by_cases e : m = j
                  · rw [e]
                    exact fun h => by have := HD8.out.2 h; cases this
                  · exact HNOJ.out m (by omega)
                go_wp2_with fail
                refine ⟨⟨j + 1, by push_cast; rfl, by omega, HN2.out, HG8.out⟩, by simp [intOf]; omega⟩
              · have HDER := Lib.hid (HD8.out.1 rfl)
                have HF := Lib.hid (HFL.out k HKB.out j (.slice ya (n + j) yc) w8 (by have := hM48.out; omega) HG8.out HY8.out HDER.out)
                go_wp2_with fail
                refine HF.out.mono ?_
                rintro e w9 ⟨rfl, v, hfil, hrow9, hg9⟩
                have HFIL := Lib.hid hfil
                have HG9 := Lib.hid hg9
                have hvl : v.length = j := hfil.len
                have hwvl : (wl ++ v).length = n + j := by rw [List.length_append, HN.out, hvl]
                rw [← hwvl] at hrow9
                obtain ⟨a2, c2, hy2, hi2⟩ := loose_ints hrow9
                have hcap := loose_cap hrow9
                rw [hwvl] at hy2 hcap
                obtain ⟨rfl, -, rfl⟩ := Value.slice.inj hy2
                obtain ⟨a3, c3, hsl, hi3⟩ := xdrop hi2 (sc := yc) (j := n) (by rw [hwvl]; exact hcap) (by rw [hwvl]; omega)
                rw [hwvl] at hsl
                have hdr : (wl ++ v).drop n = v := by rw [← HN.out, List.drop_left]
                have hsb : n + j - n = j := by omega
                rw [hdr] at hi3
                rw [hsb] at hsl
                have hcl := cloneInt_ok v w9 (.slice a3 j c3) (by omega) ⟨a3, c3, by rw [hvl], hi3⟩
                rw [hvl] at hcl
                have HCL := Lib.hid hcl
                have HVL := Lib.hid hvl
                clear hfil hrow9 hg9 hvl hwvl hi2 hi3 hdr hsb hy2 hcap hcl HF
                go_wp2_with fail
                refine HCL.out.mono ?_
                rintro e w10 ⟨z, rfl, hz, hg10⟩
                obtain ⟨za, zc, hze⟩ := loose_form hz
                have HZ := Lib.hid hz
                have HG10 := Lib.hid (HG9.out.trans hg10)
                have hlow := HG9.out.size
                have hcp := clipInt_ok w10 w9.heap.size z v (by rw [HVL.out]; exact hz)
                rw [hze, HVL.out] at hcp
                have HCP := Lib.hid hcp
                have HLOW := Lib.hid hlow
                subst hze
                clear hz hg10 hcp hlow HCL
                go_wp2_with fail
                refine HCP.out.mono ?_
                rintro e w11 ⟨⟨u, rfl, hu⟩, rfl⟩
                have HX := Lib.hid (HFIN.out v u w10 HG10.out (by rw [HVL.out]; exact looseRow.weak hu HLOW.out) (by rw [HVL.out]; omega) (by rw [HVL.out]; exact HNOJ.out) (by rw [HVL.out]; exact HDER.out) (by rw [HVL.out]; exact HFIL.out))
                clear hu
                go_wp2_with fail
                exact HX.out
            · obtain rfl : j = M + 1 := by omega
              have HX := Lib.hid (HFAIL.out _ HGW.out HNOJ.out)
              go_wp2_with fail
              exact HX.out
        · have HX := Lib.hid (HNO.out (by unfold askR; rw [HCB.out]; simp))
          go_enter Tryz.func6, Tryz.ntmps6
          go_wp2_with fail
          refine HH.out.mono ?_
          rintro e w1 ⟨rfl, rfl⟩
          go_wp2_with fail
          refine HCO.out.mono ?_
          rintro e w3 ⟨rfl, hg⟩
          have HG3 := Lib.hid hg
          clear hg
          go_wp2_with fail
          exact HX.out _ HG3.out
end Go.Proofs.YtppjmdanckdobaaGreatDoor
