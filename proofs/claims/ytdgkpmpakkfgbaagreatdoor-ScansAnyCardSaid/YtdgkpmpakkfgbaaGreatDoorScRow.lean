/- Rows of words. -/
import Derived.Test.YtdgkpmpakkfgbaaGreatDoorScWord
import Derived.Test.YtdgkpmpakkfgbaaGreatDoorScPls
namespace Go.Proofs.YtdgkpmpakkfgbaaGreatDoor
open Go.RowKit

theorem badFrom_L (s : ByteArray) : ∀ (f p : Nat), badFrom s f p = badL f (s.data.toList.drop p) p
  | 0, _ => rfl
  | f + 1, p => by
    rw [badFrom, badL]
    by_cases h : p < s.size
    · have hne : s.data.toList.drop p ≠ [] := by
        intro h0
        have := congrArg List.length h0
        rw [List.length_drop, ← Lib.size_eq] at this
        simp at this
        omega
      rw [if_pos h, if_neg hne]
      have hr : runeAt s p = if Utf8.decode s p = (65533, 1) then (0, 1, false) else ((Utf8.decode s p).1, (Utf8.decode s p).2, true) := by
        unfold runeAt
        rw [if_neg (by omega)]
        rfl
      rw [hr]
      by_cases hb : Utf8.decode s p = (65533, 1)
      · have hba : badAt (s.data.toList.drop p) := by
          unfold badAt
          rw [Lib.decodeL_drop, hb]
          exact ⟨rfl, rfl⟩
        rw [if_pos hb, if_pos hba]
        rfl
      · have hba : ¬ badAt (s.data.toList.drop p) := by
          unfold badAt
          rw [Lib.decodeL_drop]
          exact fun h => hb (Prod.ext h.1 h.2)
        rw [if_neg hb, if_neg hba]
        simp only [if_true]
        rw [badFrom_L s f, Lib.decodeL_drop, List.drop_drop]
    · rw [if_neg h, if_pos (List.drop_eq_nil_of_le (by rw [← Lib.size_eq]; omega))]
theorem bad_L (s : ByteArray) : bad s = badOf s.data.toList 0 := by
  unfold bad badOf
  rw [badFrom_L, List.drop_zero, Lib.size_eq]
theorem badL_ge : ∀ (f : Nat) (l : List UInt8) (p : Nat), -1 ≤ badL f l p
  | 0, _, _ => by simp [badL]
  | f + 1, l, p => by
    rw [badL]
    split
    · omega
    · split
      · omega
      · exact badL_ge f _ _
theorem bad_ge (s : ByteArray) : -1 ≤ bad s := by
  rw [bad_L]
  exact badL_ge _ _ _
/-- the cells of words -/
def WCells (W : World) (base : Nat) (l : List UInt8) : List Wd → List Value → Prop
  | [], cs => cs = []
  | w :: ws, cs => ∃ (t : ByteArray) (sv : Value) (rest : List Value), cs = .int .u8 (w.kind : Nat) :: .string t :: sv :: .int .i64 (w.at_ : Nat) :: .int .i64 ((placeOf (l.take w.at_) 1 1).1 : Nat) :: .int .i64 ((placeOf (l.take w.at_) 1 1).2 : Nat) :: rest ∧
      t.data.toList = w.text ∧ RangesV W base sv w.set ∧ (∃ a n c, sv = .slice a n c) ∧ WCells W base l ws rest
theorem WCells.snoc {W : World} {base : Nat} {l : List UInt8} {w : Wd} {t : ByteArray} {sv : Value} (ht : t.data.toList = w.text) (hr : RangesV W base sv w.set) (hs : ∃ a n c, sv = .slice a n c) : ∀ {ws : List Wd} {cs : List Value}, WCells W base l ws cs →
    WCells W base l (ws ++ [w]) (cs ++ [.int .u8 (w.kind : Nat), .string t, sv, .int .i64 (w.at_ : Nat), .int .i64 ((placeOf (l.take w.at_) 1 1).1 : Nat), .int .i64 ((placeOf (l.take w.at_) 1 1).2 : Nat)])
  | [], cs, h => by
    rw [show cs = [] from h]
    exact ⟨t, sv, [], rfl, ht, hr, hs, rfl⟩
  | x :: ws, cs, h => by
    obtain ⟨t', sv', rest, rfl, h1, h2, h3, h4⟩ := h
    exact ⟨t', sv', _, rfl, h1, h2, h3, WCells.snoc ht hr hs h4⟩
theorem WCells.map {W W' : World} {base base' : Nat} {l : List UInt8} (hm : ∀ sv set, RangesV W base sv set → RangesV W' base' sv set) : ∀ {ws : List Wd} {cs : List Value}, WCells W base l ws cs → WCells W' base' l ws cs
  | [], _, h => h
  | _ :: _, _, h => by
    obtain ⟨t, sv, rest, rfl, h1, h2, h3, h4⟩ := h
    exact ⟨t, sv, rest, rfl, h1, hm _ _ h2, h3, WCells.map hm h4⟩
theorem WCells.length {W : World} {base : Nat} {l : List UInt8} : ∀ {ws : List Wd} {cs : List Value}, WCells W base l ws cs → cs.length = ws.length * 6
  | [], cs, h => by rw [show cs = [] from h]; rfl
  | _ :: ws, _, h => by
    obtain ⟨t, sv, rest, rfl, h1, h2, h3, h4⟩ := h
    have := WCells.length h4
    simp only [List.length_cons, this]
    omega
theorem WCells.ones {W : World} {base : Nat} {l : List UInt8} : ∀ {ws : List Wd} {cs : List Value}, WCells W base l ws cs → ∀ u ∈ cs, u.oneCell' = true
  | [], cs, h => by rw [show cs = [] from h]; simp
  | _ :: ws, _, h => by
    obtain ⟨t, sv, rest, rfl, h1, h2, ⟨a, n, c, rfl⟩, h4⟩ := h
    intro u hu
    simp only [List.mem_cons] at hu
    rcases hu with rfl | rfl | rfl | rfl | rfl | rfl | hu
    · rfl
    · rfl
    · rfl
    · rfl
    · rfl
    · rfl
    · exact WCells.ones h4 u hu
/-- a row of words -/
def WordsV (W : World) (base : Nat) (l : List UInt8) (v : Value) (ws : List Wd) : Prop := ∃ cs, looseRow W base 38 6 v ws.length cs ∧ WCells W base l ws cs
theorem ranges_upd {W W' : World} {base t : Nat} {v : Value} {l : List (Nat × Nat)} (h : RangesV W base v l) (hg : Upd t W W') (ht : t < base) : RangesV W' base v l := loose_upd h hg ht
/-- blocks of another element's type may turn -/
theorem ranges_other {W W' : World} {base : Nat} {row : Option Nat} {v : Value} {l : List (Nat × Nat)} (h : RangesV W base v l) (hg : W.grownBy W' row) (hr : ∀ k, row = some k → ∃ cur fr, W.heap[k]? = some (.cells cur 38 fr)) : RangesV W' base v l := by
  refine ⟨h.1, h.2.imp id ?_⟩
  rintro ⟨g, cap, cur, h1, h2, h3, h4, h5, h6, h7⟩
  have hlt : g < W.heap.size := (Array.getElem?_eq_some_iff.1 h3).1
  refine ⟨g, cap, cur, h1, h2, (hg.block g hlt fun e => ?_).trans h3, h4, h5, h6, h7⟩
  obtain ⟨c2, f2, hc⟩ := hr g e.symm
  rw [h3] at hc
  simp at hc
theorem WordsV.upd {W W' : World} {base t : Nat} {l : List UInt8} {v : Value} {ws : List Wd} (h : WordsV W base l v ws) (hg : Upd t W W') (ht : t < base) : WordsV W' base l v ws := by
  obtain ⟨cs, h1, h2⟩ := h
  exact ⟨cs, loose_upd h1 hg ht, h2.map fun _ _ h => ranges_upd h hg ht⟩
theorem WordsV.grew {W W' : World} {base : Nat} {l : List UInt8} {v : Value} {ws : List Wd} (h : WordsV W base l v ws) (hg : Grew W W') : WordsV W' base l v ws := by
  obtain ⟨cs, h1, h2⟩ := h
  have hl : ∀ {e size n : Nat} {v : Value} {xs : List Value}, looseRow W base e size v n xs → looseRow W' base e size v n xs := by
    intro e size n v xs h
    refine ⟨h.1, h.2.imp id ?_⟩
    rintro ⟨g, cap, cur, h1, h2, h3, h4, h5, h6, h7⟩
    exact ⟨g, cap, cur, h1, h2, (hg.block g (Array.getElem?_eq_some_iff.1 h3).1).trans h3, h4, h5, h6, h7⟩
  exact ⟨cs, hl h1, h2.map fun _ _ h => hl h⟩
theorem row_kind {W : World} {base e size n : Nat} {v : Value} {xs : List Value} (h : looseRow W base e size v n xs) : ∀ k, v.ownBlock = some k → ∃ cur fr, W.heap[k]? = some (.cells cur e fr) := by
  intro k hk
  rcases h.2 with ⟨rfl, _⟩ | ⟨g, cap, cur, rfl, _, h3, _⟩
  · simp [Value.ownBlock] at hk
  · simp only [Value.ownBlock, Option.some.injEq] at hk
    subst hk
    exact ⟨cur, _, h3⟩

set_option maxHeartbeats 2000000 in
theorem clipW_ok (W : World) (base n : Nat) (v : Value) (cs : List Value) (hn : n ≤ 1048576) (h : looseRow W base 38 6 v n cs) :
    Calls Tryz.prog 14 #[v] W (fun e W' => (∃ u, e = .returned u ∧ looseRow W base 38 6 u n cs) ∧ W = W') := by
  rcases h.2 with ⟨rfl, rfl⟩ | ⟨b, cap, cur, rfl, h1, h2, h3, h4, h5, h6⟩
  · have HL : Hid (looseRow W base 38 6 (.slice none 0 0) 0 cs) := Lib.hid h
    clear h
    go_enter Tryz.func14, Tryz.ntmps14
    go_wp2
    go_ret
    exact ⟨⟨_, rfl, HL.out⟩, rfl⟩
  · have HL : Hid (looseRow W base 38 6 (.slice (some ⟨b, 0, none⟩) n n) n cs) := ⟨h.1, .inr ⟨b, _, cur, rfl, h1, h2, Nat.le_refl _, Nat.le_trans h3 h4, Nat.le_trans (Nat.mul_le_mul_right _ h3) h5, h6⟩⟩
    unfold maxLen at h4
    clear h h2 h5 h6
    go_enter Tryz.func14, Tryz.ntmps14
    go_wp2
    go_ret
    exact ⟨⟨_, rfl, HL.out⟩, rfl⟩

/-- the words from a place on where no gap is -/
def wordsG (l : List UInt8) (k q : Nat) (acc : List Wd) : List Wd × Nat × Nat :=
  if l.length ≤ q then (acc, 0, 0) else if (wordF l q).2.2 ≠ 0 then ([], (wordF l q).2.1, (wordF l q).2.2) else wordsF l k (wordF l q).2.1 (acc ++ [(wordF l q).1])
theorem wordsF_G (l : List UInt8) (k p : Nat) (acc : List Wd) : wordsF l (k + 1) p acc = if (gapF l (l.length + 1) p).2 ≠ 0 then ([], (gapF l (l.length + 1) p).1, (gapF l (l.length + 1) p).2) else wordsG l k (gapF l (l.length + 1) p).1 acc := rfl
/-- where a scan stands, and what is wrong -/
def boxErr (w : World) (cb : Nat) : Nat := match w.cell? ⟨cb, 2, none⟩ with
  | some (.int _ i) => i.toNat
  | _ => 0
theorem BoxAt.err {W : World} {cb p e : Nat} {s : ByteArray} (h : BoxAt W cb s p e) : boxErr W cb = e := by
  unfold boxErr
  rw [h.c2]
  simp
end Go.Proofs.YtdgkpmpakkfgbaaGreatDoor
