/- The library's functions on integers: Index, Contains, Clone. -/
import Derived.Lib.Walk
import Derived.Lib.SliceRun
import Derived.Test.YtgegjjfjhpokpaaGreatDoorQ14
namespace Go.Proofs.YtgegjjfjhpokpaaGreatDoor
open Go.RowKit

set_option maxHeartbeats 1000000 in
set_option maxRecDepth 20000 in
theorem indexInt_ok (l : List Int) (x : Int) (W : World) (v : Value) (hl : l.length ≤ reachN) (hR : IntsV W W.heap.size v l) :
    Calls Tryz.prog 36 #[v, .int .i64 x] W fun e W' => e = .returned (.int .i64 (ixOf l fun y => x == y)) ∧ Grew W W' := by
  obtain ⟨a, cap, rfl, hR⟩ := hR
  unfold reachN at hl
  go_enter Tryz.func36, Tryz.ntmps36
  go_wp2
  go_loopw [8] (fun i wr => ∃ (j : Nat), i = .int .i64 j ∧ j ≤ l.length ∧ Hid (NoneTo l (fun y => x == y) j) ∧ Hid (Grew W wr)) (fun i _ => l.length - (intOf i).toNat)
  case atStart =>
    exact ⟨0, rfl, by omega, fun i hi h => absurd h (by omega), Grew.refl W⟩
  case round =>
    obtain ⟨j, rfl, hj, hf, hbw⟩ := hrel
    by_cases hlt : j < l.length
    · obtain ⟨b, off, rfl, hb, hc⟩ := hR j hlt
      have hc' : wr.cell? ⟨b, off + j, none⟩ = some (.int .i64 l[j]) := by rw [hbw.out.cells _ _ hb]; exact hc
      clear hR hc hb
      obtain ⟨t, ht⟩ : ∃ t, (x == l[j]) = t := ⟨_, rfl⟩
      cases t
      · have HQ := Lib.hid ht
        go_wp2_with fail
        exact ⟨⟨j + 1, by go_num, by omega, noneTo_next hf.out hlt HQ.out, hbw.out⟩, by simp [intOf]; omega⟩
      · have HQ := Lib.hid ht
        go_wp2_with fail
        go_ret
        exact ⟨ret_int (ixOf_at hlt hf.out HQ.out).symm, hbw.out⟩
    · go_wp2_with fail
      go_ret
      exact ⟨ret_int (ixOf_none fun i hi => hf.out i hi (by omega)).symm, hbw.out⟩
theorem containsInt_ok (l : List Int) (x : Int) (W : World) (v : Value) (hl : l.length ≤ reachN) (hR : IntsV W W.heap.size v l) :
    Calls Tryz.prog 22 #[v, .int .i64 x] W fun e W' => e = .returned (.bool (l.any fun y => x == y)) ∧ Grew W W' := by
  have HC := Lib.hid (indexInt_ok l x W v hl hR)
  have HA := Lib.hid (ixOf_anyS l fun y => x == y)
  obtain ⟨a, cap, rfl, -⟩ := hR
  go_enter Tryz.func22, Tryz.ntmps22
  go_wp2_with (refine HC.out.mono ?_; rintro e w ⟨rfl, hb⟩; have HB := Lib.hid hb; clear hb)
  go_ret
  exact ⟨ret_bool HA.out, HB.out⟩
/-- where the cells are -/
def CellsIn (W : World) (lim : Nat) (a : Addr) (cs : List Value) : Prop := ∀ j u, cs[j]? = some u → a.block < lim ∧ W.cell? (a.add j) = some u
def Cloned (W : World) (e : TypeId) (size n : Nat) (cs : List Value) (r : Ending) (W' : World) : Prop := ∃ v', r = .returned v' ∧ looseRow W' W.heap.size e size v' n cs ∧ Grew W W'
theorem cellsIn_int {W : World} {lim : Nat} {l : List Int} {ad : Addr} (h : IntsAt W lim (some ad) l) : CellsIn W lim ad (intVs l) := by
  intro j u hj
  unfold intVs at hj
  rw [List.getElem?_map, Option.map_eq_some_iff] at hj
  obtain ⟨x, hx, rfl⟩ := hj
  obtain ⟨hk, rfl⟩ := List.getElem?_eq_some_iff.1 hx
  obtain ⟨b, o, e, hb, hc⟩ := h j hk
  cases Option.some.inj e
  exact ⟨hb, by rw [padd_off]; exact hc⟩
theorem intVs_one (l : List Int) : ∀ u ∈ intVs l, u.oneCell' = true := by
  intro u hu
  obtain ⟨x, _, rfl⟩ := List.mem_map.1 hu
  rfl
set_option maxHeartbeats 2000000 in
set_option maxRecDepth 20000 in
theorem cloneInt_cells (n c : Nat) (cs : List Value) (hl : cs.length = n * 1) (h1 : ∀ u ∈ cs, u.oneCell' = true) (hn : n ≤ 1048576) (W : World) (a : Addr) (hc : CellsIn W W.heap.size a cs) :
    Calls Tryz.prog 21 #[.slice (some a) n c] W (Cloned W 3 1 n cs) := by
  obtain ⟨i0, hi, hz0, hz1, hz2⟩ := info_parts info_int
  have q : ∀ (w : World) (a : Option Addr) (n c n' c' : Nat), (binOp .eql 22 (.slice a n c) (.slice none n' c')).run Tryz.prog w = .ok (.bool a.isNone) w := fun w a n c n' c' => Lib.run_eql_slice_nil w _ _ a n c n' c' Tryz.underlying22
  have HCS := Lib.hid hc
  have HL := Lib.hid hl
  have H1 := Lib.hid h1
  clear hc hl h1
  go_enter Tryz.func21, Tryz.ntmps21
  go_wp2_with (at_builtin; refine wpList_append_own _ rfl _ _ 22 rfl W.heap.size 3 i0 (.int .i64 0) 1 8 Tryz.underlying22 hi hz0 hz1 hz2 rfl (by decide) _ _ _ rfl (World.ownsRow_made W #[] 0 (Nat.le_refl _) (Nat.zero_le _) rfl) a n c cs rfl ?qc1 ?qc2 ?qc3 ?qc4 ?qc5 ?qc6 ?_)
  case qc1 => exact HL.out
  case qc2 =>
    intro j u hj
    exact Lib.cell?_alloc_some _ (HCS.out j u hj).2
  case qc3 => exact H1.out
  case qc4 => unfold maxLen; omega
  case qc5 => omega
  case qc6 => simp
  intro v' w1 hown hgrow hnil
  go_wp2_with fail
  go_ret
  refine ⟨v', rfl, looseRow_of (by simpa using hown), ?_⟩
  exact ((Below.refl _ W).alloc (Nat.le_refl _) _).grown hgrow (by simp) (by intro k hk; simp [Value.ownBlock] at hk; omega)
theorem cloneInt_nil (n c : Nat) (W : World) : Calls Tryz.prog 21 #[.slice none n c] W fun e W' => e = .returned (.slice none 0 0) ∧ W' = W := by
  have q : ∀ (w : World) (a : Option Addr) (n c n' c' : Nat), (binOp .eql 22 (.slice a n c) (.slice none n' c')).run Tryz.prog w = .ok (.bool a.isNone) w := fun w a n c n' c' => Lib.run_eql_slice_nil w _ _ a n c n' c' Tryz.underlying22
  go_enter Tryz.func21, Tryz.ntmps21
  go_wp2
  go_ret
  exact ⟨rfl, rfl⟩
theorem cloneInt_ok (l : List Int) (W : World) (v : Value) (hl : l.length ≤ 1000000) (hR : IntsV W W.heap.size v l) : Calls Tryz.prog 21 #[v] W (Cloned W 3 1 l.length (intVs l)) := by
  obtain ⟨a, cap, rfl, hA⟩ := hR
  cases a with
  | none =>
    have hz : l = [] := by
      cases l with
      | nil => rfl
      | cons x r => obtain ⟨b, o, e, -⟩ := hA 0 (by simp); cases e
    subst hz
    refine (cloneInt_nil _ _ W).mono ?_
    rintro e W' ⟨rfl, rfl⟩
    exact ⟨_, rfl, ⟨rfl, .inl ⟨rfl, rfl⟩⟩, Grew.refl _⟩
  | some ad => exact cloneInt_cells _ _ _ (intVs_len l) (intVs_one l) (by omega) W ad (cellsIn_int hA)
end Go.Proofs.YtgegjjfjhpokpaaGreatDoor

/- Has, Least. -/
namespace Go.Proofs.YtgegjjfjhpokpaaGreatDoor
open Go.RowKit

def HasIs (B : Bk) (r : Int) (wl : List Int) (W : World) (e : Ending) (W' : World) : Prop := ∃ b, e = .returned (.bool b) ∧ (b = true ↔ hasR B r = true ∧ wl.length ≤ 64 ∧ -2 ∉ wl ∧ B.D r.toNat wl) ∧ Grew W W'
set_option maxHeartbeats 4000000 in
set_option maxRecDepth 20000 in
theorem sHas_ok (B : Bk) (hG : B.Good) (r : Int) (V : BV) (bk lim : Nat) (wl : List Int) (hwl : wl.length ≤ reachN) (wv : Value) (W : World) (hB : BookAt W lim bk V B) (hT : IntsV W W.heap.size wv wl) :
    Calls Tryz.prog 7 #[.pointer (some ⟨bk, 0, none⟩), .int .i64 r, wv] W (HasIs B r wl W) := by
  have HH := Lib.hid (sbhas_ok B r V bk lim W hB)
  have HC := Lib.hid (containsInt_ok wl (-2) W wv hwl hT)
  have HB := Lib.hid hB
  have HT := Lib.hid hT
  obtain ⟨Q, hQ⟩ : ∃ Q, HasIs B r wl W = Q := ⟨_, rfl⟩
  have HF : Hid (∀ (b : Bool) w', (b = true ↔ hasR B r = true ∧ wl.length ≤ 64 ∧ -2 ∉ wl ∧ B.D r.toNat wl) → Grew W w' → Q (.returned (.bool b)) w') := Lib.hid fun b w' h1 h2 => by rw [← hQ]; exact ⟨b, rfl, h1, h2⟩
  rw [hQ]
  clear hQ
  have HG := Lib.hid hG
  obtain ⟨a, cap, rfl, -⟩ := hT
  obtain ⟨n, hn⟩ : ∃ n, wl.length = n := ⟨_, rfl⟩
  have HN := Lib.hid hn
  unfold reachN at hwl
  rw [hn] at hwl HC ⊢
  obtain ⟨cb, hcb⟩ : ∃ cb, (wl.any fun y => -2 == y) = cb := ⟨_, rfl⟩
  have HCB := Lib.hid hcb
  rw [hcb] at HC
  clear hB hn hcb hG
  cases hh : hasR B r with
  | false =>
    rw [hh] at HH
    have HHH := Lib.hid hh
    clear hh
    go_enter Tryz.func7, Tryz.ntmps7
    go_wp2_with fail
    refine HH.out.mono ?_
    rintro e w ⟨rfl, rfl⟩
    go_wp2_with fail
    show Q (.returned (.bool false)) w
    exact HF.out _ _ ⟨fun h => (by cases h), fun h => by rw [HHH.out] at h; exact absurd h.1 (by decide)⟩ (Grew.refl _)
  | true =>
    rw [hh] at HH
    have HHH := Lib.hid hh
    have hrr : ∃ k : Nat, r = k ∧ k < B.bodies.length := by
      unfold hasR at hh
      rw [Bool.and_eq_true, decide_eq_true_eq, decide_eq_true_eq] at hh
      obtain ⟨k, rfl⟩ := Int.eq_ofNat_of_zero_le hh.1
      exact ⟨k, rfl, by omega⟩
    clear hh
    by_cases h64 : n ≤ 64
    · have h64i : (n : Int) ≤ 64 := by omega
      cases cb with
      | true =>
        go_enter Tryz.func7, Tryz.ntmps7
        go_wp2_with fail
        refine HH.out.mono ?_
        rintro e w ⟨rfl, rfl⟩
        go_wp2_with fail
        refine HC.out.mono ?_
        rintro e w2 ⟨rfl, hg⟩
        have HG2 := Lib.hid hg
        clear hg
        go_wp2_with fail
        show Q (.returned (.bool false)) w2
        refine HF.out _ _ ⟨fun h => (by cases h), fun h => ?_⟩ HG2.out
        obtain ⟨x, hx, he⟩ := List.any_eq_true.1 HCB.out
        rw [beq_iff_eq] at he
        subst he
        exact absurd hx h.2.2.1
      | false =>
        obtain ⟨k, rfl, hk⟩ := hrr
        have HK := Lib.hid hk
        clear hk
        go_enter Tryz.func7, Tryz.ntmps7
        go_wp2_with fail
        refine HH.out.mono ?_
        rintro e w ⟨rfl, rfl⟩
        go_wp2_with fail
        refine HC.out.mono ?_
        rintro e w2 ⟨rfl, hg⟩
        have HG2 := Lib.hid hg
        have HD := Lib.hid (sderives_ok B HG.out k HK.out V bk lim wl (by rw [HN.out]; exact h64) _ w2 (HB.out.keep (hg.mono HB.out.low)) ((HT.out.keep hg).mono hg.size))
        rw [HN.out] at HD
        clear hg
        go_wp2_with fail
        refine HD.out.mono ?_
        rintro e w3 ⟨b, rfl, hb, hg⟩
        have HG3 := Lib.hid (HG2.out.trans hg)
        have HBB := Lib.hid hb
        clear hg hb
        go_wp2_with fail
        show Q (.returned (.bool b)) w3
        refine HF.out _ _ (HBB.out.trans ⟨fun h => ⟨HHH.out, by rw [HN.out]; exact h64, fun hm => ?_, h⟩, fun h => h.2.2.2⟩) HG3.out
        have := List.any_eq_false.1 HCB.out (-2) hm
        simp at this
    · have h64i : ¬ (n : Int) ≤ 64 := by omega
      go_enter Tryz.func7, Tryz.ntmps7
      go_wp2_with fail
      refine HH.out.mono ?_
      rintro e w ⟨rfl, rfl⟩
      go_wp2_with fail
      show Q (.returned (.bool false)) w
      exact HF.out _ _ ⟨fun h => (by cases h), fun h => absurd (by rw [← HN.out]; exact h.2.1) h64⟩ (Grew.refl _)

/-- what Least answers -/
def Bk.leastL (B : Bk) (r : Int) : Option (List Int) :=
  if hasR B r then (match B.firsts[r.toNat]? with
    | some f => if f.long = -1 ∨ 256 < f.long then none else some f.w
    | none => none) else none
def LeastSIs (o : Option (List Int)) (W : World) (e : Ending) (W' : World) : Prop :=
  (match o with
    | none => e = .returned (.tuple #[.slice none 0 0, .bool false])
    | some l => ∃ u, e = .returned (.tuple #[u, .bool true]) ∧ looseRow W' W.heap.size 3 1 u l.length (intVs l)) ∧ Grew W W'
set_option maxHeartbeats 4000000 in
set_option maxRecDepth 20000 in
theorem sLeast_ok (B : Bk) (r : Int) (V : BV) (bk lim : Nat) (W : World) (hB : BookAt W lim bk V B) (hw : ∀ f ∈ B.firsts, f.w.length ≤ 1000) :
    Calls Tryz.prog 6 #[.pointer (some ⟨bk, 0, none⟩), .int .i64 r] W (LeastSIs (B.leastL r) W) := by
  have HH := Lib.hid (sbhas_ok B r V bk lim W hB)
  have c4 := hB.box.cell_at (i := 4) rfl
  have cl := hB.box.lt
  have hf := hB.firsts
  have hlow := hB.low
  have hlen := hB.few.2
  unfold Bk.leastL
  cases hh : hasR B r with
  | false =>
    rw [hh] at HH
    clear hf hw
    go_enter Tryz.func6, Tryz.ntmps6
    go_wp2_with fail
    refine HH.out.mono ?_
    rintro e w ⟨rfl, rfl⟩
    go_wp2_with fail
    go_ret2
    exact ⟨rfl, Grew.refl _⟩
  | true =>
    rw [hh] at HH
    unfold hasR at hh
    rw [Bool.and_eq_true, decide_eq_true_eq, decide_eq_true_eq] at hh
    obtain ⟨k, rfl⟩ := Int.eq_ofNat_of_zero_le hh.1
    have hk : k < B.firsts.length := by omega
    obtain ⟨b, off, e, hl, h1, v, h2, hrw, -⟩ := hf k hk
    have h3 := loose_ints hrw
    clear hrw
    rw [e] at c4
    have hl2 : b < W.heap.size := by omega
    have hi : (k : Int) < (B.firsts.length : Int) := by omega
    have hwk := hw _ (List.getElem_mem hk)
    have HCL := Lib.hid (cloneInt_ok _ W v (by omega) h3)
    rw [if_pos rfl, Int.toNat_natCast, List.getElem?_eq_getElem hk]
    dsimp only
    obtain ⟨fx, hfx⟩ : ∃ fx, B.firsts[k] = fx := ⟨_, rfl⟩
    rw [hfx] at h1 h3 HCL hwk ⊢
    obtain ⟨x, l⟩ := fx
    dsimp only at h1 h3 HCL hwk ⊢
    obtain ⟨va, vc, rfl, -⟩ := h3
    clear hf hfx hB e hlen hh hw hk
    generalize B.firsts.length = n at *
    by_cases hx1 : x = -1
    · subst hx1
      rw [if_pos (.inl rfl)]
      go_enter Tryz.func6, Tryz.ntmps6
      go_wp2_with fail
      refine HH.out.mono ?_
      rintro e w ⟨rfl, rfl⟩
      go_wp2_with fail
      go_ret2
      exact ⟨rfl, Grew.refl _⟩
    · have q1 : (x == -1) = false := beq_eq_false_iff_ne.2 hx1
      by_cases hx2 : 256 < x
      · rw [if_pos (.inr hx2)]
        go_enter Tryz.func6, Tryz.ntmps6
        go_wp2_with fail
        refine HH.out.mono ?_
        rintro e w ⟨rfl, rfl⟩
        go_wp2_with fail
        go_ret2
        exact ⟨rfl, Grew.refl _⟩
      · rw [if_neg (fun h => h.elim hx1 hx2)]
        go_enter Tryz.func6, Tryz.ntmps6
        go_wp2_with fail
        refine HH.out.mono ?_
        rintro e w ⟨rfl, rfl⟩
        go_wp2_with fail
        refine HCL.out.mono ?_
        rintro e w2 ⟨u, rfl, hr, hg⟩
        have HG2 := Lib.hid hg
        have HCP := Lib.hid (clipInt_ok w2 _ u l hr)
        clear hg hr
        go_wp2_with fail
        refine HCP.out.mono ?_
        rintro e w3 ⟨⟨u2, rfl, hr⟩, rfl⟩
        have HR := Lib.hid hr
        clear hr
        go_wp2_with fail
        go_ret2
        exact ⟨⟨u2, rfl, HR.out⟩, HG2.out⟩
end Go.Proofs.YtgegjjfjhpokpaaGreatDoor
