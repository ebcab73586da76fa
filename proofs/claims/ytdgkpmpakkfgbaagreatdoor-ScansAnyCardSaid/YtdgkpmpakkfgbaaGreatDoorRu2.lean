/- runes.Place: what it answers. -/
import Derived.Test.YtdgkpmpakkfgbaaGreatDoorRu1
import Derived.Test.YtdgkpmpakkfgbaaGreatDoorOwn
import Derived.Lib.OthersKept
import Derived.Laws.RangeAny
namespace Go.Proofs.YtdgkpmpakkfgbaaGreatDoor
open Go.RowKit

/-- line and column behind the rest of a text -/
def placeFrom (t : ByteArray) : Nat → Nat → Nat → Nat → Nat × Nat
  | 0, _, l, c => (l, c)
  | f + 1, pos, l, c => if pos < t.size then (if (Utf8.decode t pos).1 = 10 then placeFrom t f (pos + (Utf8.decode t pos).2) (l + 1) 1 else placeFrom t f (pos + (Utf8.decode t pos).2) l (c + 1)) else (l, c)
theorem placeFrom_more (t : ByteArray) : ∀ (f g pos l c : Nat), t.size ≤ pos + f → t.size ≤ pos + g → placeFrom t f pos l c = placeFrom t g pos l c
  | 0, 0, _, _, _, _, _ => rfl
  | 0, g + 1, pos, l, c, h, _ => by rw [placeFrom, placeFrom, if_neg (by omega)]
  | f + 1, 0, pos, l, c, _, h => by rw [placeFrom, placeFrom, if_neg (by omega)]
  | f + 1, g + 1, pos, l, c, h1, h2 => by
    rw [placeFrom, placeFrom]
    by_cases h : pos < t.size
    · have := width_pos t pos
      rw [if_pos h, if_pos h]
      split
      · exact placeFrom_more t f g _ _ _ (by omega) (by omega)
      · exact placeFrom_more t f g _ _ _ (by omega) (by omega)
    · rw [if_neg h, if_neg h]
/-- a place that is asked for, within the text -/
def within (s : ByteArray) (at_ : Int) : Nat := min s.size (max 0 at_).toNat
def place (s : ByteArray) (at_ : Int) : Nat × Nat := placeFrom (s.extract 0 (within s at_)) (within s at_) 0 1 1

def PlaceIs (s : ByteArray) (at_ : Int) (W : World) (e : Ending) (W' : World) : Prop :=
  e = .returned (.agg #[.int .i64 (within s at_ : Int), .int .i64 ((place s at_).1 : Int), .int .i64 ((place s at_).2 : Int)]) ∧ Below W.heap.size W W'

set_option maxHeartbeats 2000000 in
set_option maxRecDepth 20000 in
theorem place_ok (s : ByteArray) (at_ : Int) (W : World) (hs : s.size ≤ 140737488355328) (h0 : -9223372036854775808 ≤ at_) (h1 : at_ ≤ 9223372036854775807) :
    Calls Tryz.prog 10 #[.string s, .int .i64 at_] W fun e W' => PlaceIs s at_ W e W' := by
  have hk : min (s.size : Int) (max 0 at_) = ((within s at_ : Nat) : Int) := by
    unfold within
    omega
  have hks : within s at_ ≤ s.size := by
    unfold within
    omega
  unfold PlaceIs place
  generalize within s at_ = k at *
  have hsz : (s.extract 0 k).size = k := by
    rw [Lib.size_eq, Lib.extract_data]
    have := Lib.size_eq s
    simp
    omega
  obtain ⟨t, ht⟩ : ∃ t, s.extract 0 k = t := ⟨_, rfl⟩
  rw [ht] at hsz ⊢
  subst hsz
  clear h0 h1
  go_enter Tryz.func10, Tryz.ntmps10
  go_wp2_with fail
  clear hk ht
  go_loopw [7] (fun _ wr => ∃ (pos l c : Nat), wr.heap[W.heap.size + 1 + 1]? = some (.stringIter t pos) ∧ Owns wr (W.heap.size + 1) [.int .i64 t.size, .int .i64 l, .int .i64 c] 26 ∧ Owns wr W.heap.size [.int .i64 0, .int .i64 0, .int .i64 0] 26 ∧ l ≤ pos + 1 ∧ c ≤ pos + 1 ∧
    Hid (placeFrom t (t.size - pos) pos l c = placeFrom t t.size 0 1 1) ∧ Hid (Below W.heap.size W wr)) (fun _ wr => t.size + 4 - wr.iterPos (W.heap.size + 1 + 1))
  case atStart =>
    have o1 := Owns.alloc W [.int .i64 0, .int .i64 0, .int .i64 0] 26
    have o2 := Owns.alloc (W.alloc (.cells #[.int .i64 0, .int .i64 0, .int .i64 0] 26)) [.int .i64 t.size, .int .i64 1, .int .i64 1] 26
    have g2 : Grew (W.alloc (.cells #[.int .i64 0, .int .i64 0, .int .i64 0] 26)) ((W.alloc (.cells #[.int .i64 0, .int .i64 0, .int .i64 0] 26)).alloc (.cells #[.int .i64 t.size, .int .i64 1, .int .i64 1] 26)) := Below.alloc (Below.refl _ _) (Nat.le_refl _) _
    have g3 : Grew ((W.alloc (.cells #[.int .i64 0, .int .i64 0, .int .i64 0] 26)).alloc (.cells #[.int .i64 t.size, .int .i64 1, .int .i64 1] 26)) (((W.alloc (.cells #[.int .i64 0, .int .i64 0, .int .i64 0] 26)).alloc (.cells #[.int .i64 t.size, .int .i64 1, .int .i64 1] 26)).iter t 0) := Below.alloc (Below.refl _ _) (Nat.le_refl _) _
    have hz1 : (W.alloc (.cells #[.int .i64 0, .int .i64 0, .int .i64 0] 26)).heap.size = W.heap.size + 1 := by simp
    have hz2 : ((W.alloc (.cells #[.int .i64 0, .int .i64 0, .int .i64 0] 26)).alloc (.cells #[.int .i64 t.size, .int .i64 1, .int .i64 1] 26)).heap.size = W.heap.size + 1 + 1 := by simp
    refine ⟨0, 1, 1, ?_, ?_, ?_, by omega, by omega, rfl, ?_⟩
    · rw [← hz2]
      exact World.iter_heap _ _ _
    · rw [hz1] at o2
      exact o2.keep g3
    · exact (o1.keep g2).keep g3
    · exact ((Below.alloc (Below.refl W.heap.size W) (Nat.le_refl _) _).trans (g2.mono (by omega))).trans (g3.mono (by omega))
  case round =>
    obtain ⟨pos, l, c, hit, hbox, hres, hl, hc, hpl, hbw⟩ := hrel
    have hsz : W.heap.size + 1 + 1 < wr.heap.size := (Array.getElem?_eq_some_iff.1 hit).1
    have hip : wr.iterPos (W.heap.size + 1 + 1) = pos := by
      unfold World.iterPos
      rw [hit]
    by_cases hp : pos < t.size
    · have hnx : ∀ ty, (Instr.next (.pointer (some ⟨W.heap.size + 1 + 1, 0, none⟩)) true ty).run Tryz.prog wr = _ := fun ty => Lib.run_next_any_at wr (W.heap.size + 1 + 1) t pos ty hit hp
      have hw1 := width_pos t pos
      have hw4 := width_le t pos
      have hpl2 := hpl.out
      rw [show t.size - pos = (t.size - pos - 1) + 1 by omega, placeFrom, if_pos hp] at hpl2
      generalize Utf8.decode t pos = dd at *
      obtain ⟨r, z⟩ := dd
      simp only at hnx hw1 hw4 hpl2
      have hit1 := Lib.iterAt_heap wr _ t pos (pos + z) hit
      have b1 : Owns (wr.iterAt (W.heap.size + 1 + 1) t (pos + z)) (W.heap.size + 1) [.int .i64 t.size, .int .i64 l, .int .i64 c] 26 := by
        unfold Owns
        rw [Lib.iterAt_other _ _ _ _ _ (by omega)]
        exact hbox
      have r1 : Owns (wr.iterAt (W.heap.size + 1 + 1) t (pos + z)) W.heap.size [.int .i64 0, .int .i64 0, .int .i64 0] 26 := by
        unfold Owns
        rw [Lib.iterAt_other _ _ _ _ _ (by omega)]
        exact hres
      have hb1 := Lib.hid (Lib.below_iterAt (k := W.heap.size + 1 + 1) hbw.out (by omega) t (pos + z))
      obtain ⟨w1, hw⟩ : ∃ w1, wr.iterAt (W.heap.size + 1 + 1) t (pos + z) = w1 := ⟨_, rfl⟩
      rw [hw] at hnx hit1 b1 r1 hb1
      have e1 := b1.cell_at (i := 1) rfl
      have e2 := b1.cell_at (i := 2) rfl
      have f1 := b1.free 1
      have f2 := b1.free 2
      have b2 := b1.set 2 (.int .i64 ((c : Int) + 1))
      have r2 := r1.other (a := ⟨W.heap.size + 1, 2, none⟩) (by simp) (.int .i64 ((c : Int) + 1))
      have hit2 : (w1.setCell ⟨W.heap.size + 1, 2, none⟩ (.int .i64 ((c : Int) + 1))).heap[W.heap.size + 1 + 1]? = some (.stringIter t (pos + z)) := by
        rw [Below.heap_setCell _ _ _ _ (by simp)]
        exact hit1
      have hb2 := Lib.hid (hb1.out.setCell (p := ⟨W.heap.size + 1, 2, none⟩) (by simp) (.int .i64 ((c : Int) + 1)))
      by_cases hr : r = 10
      · subst hr
        rw [if_pos rfl] at hpl2
        have HPL := Lib.hid hpl2
        clear hpl hpl2 hw hbw
        go_wp2_with fail
        have hip2 : (((w1.setCell ⟨W.heap.size + 1, 2, none⟩ (.int .i64 ((c : Int) + 1))).setCell ⟨W.heap.size + 1, 1, none⟩ (.int .i64 ((l : Int) + 1))).setCell ⟨W.heap.size + 1, 2, none⟩ (.int .i64 1)).heap[W.heap.size + 1 + 1]? = some (.stringIter t (pos + z)) := by
          rw [Below.heap_setCell _ _ _ _ (by simp), Below.heap_setCell _ _ _ _ (by simp)]
          exact hit2
        refine ⟨⟨pos + z, l + 1, 1, hip2, (b2.set 1 _).set 2 _, ((r2.other (by simp) _).other (by simp) _), by omega, by omega, ?_, ?_⟩, ?_⟩
        · unfold Hid
          rw [← HPL.out]
          exact placeFrom_more t _ _ _ _ _ (by omega) (by omega)
        · exact ((hb2.out.setCell (by simp) _).setCell (by simp) _)
        · have e := hip2
          unfold World.iterPos
          rw [e, hit]
          simp only
          omega
      · rw [if_neg hr] at hpl2
        have HPL := Lib.hid hpl2
        clear hpl hpl2 hw hbw
        go_wp2_with fail
        refine ⟨⟨pos + z, l, c + 1, hit2, b2, r2, by omega, by omega, ?_, ?_⟩, ?_⟩
        · unfold Hid
          rw [← HPL.out]
          exact placeFrom_more t _ _ _ _ _ (by omega) (by omega)
        · exact hb2.out
        · have e := hit2
          unfold World.iterPos
          rw [e, hit]
          simp only
          omega
    · have hnx : ∀ ty, (Instr.next (.pointer (some ⟨W.heap.size + 1 + 1, 0, none⟩)) true ty).run Tryz.prog wr = _ := fun ty => Lib.run_next_end_at wr (W.heap.size + 1 + 1) t pos ty hit hp
      have e0 := hbox.cell_at (i := 0) rfl
      have e1 := hbox.cell_at (i := 1) rfl
      have e2 := hbox.cell_at (i := 2) rfl
      have f0 := hres.free 0
      have f1 := hres.free 1
      have f2 := hres.free 2
      have g0 := hres.cell_at (i := 0) rfl
      have g1 := hres.cell_at (i := 1) rfl
      have g2 := hres.cell_at (i := 2) rfl
      go_wp2_with fail
      have q := ((hres.set 0 (.int .i64 t.size)).set 1 (.int .i64 l)).set 2 (.int .i64 c)
      have hbq := ((hbw.out.setCell (p := ⟨W.heap.size, 0, none⟩) (by simp) (.int .i64 t.size)).setCell (p := ⟨W.heap.size, 1, none⟩) (by simp) (.int .i64 l)).setCell (p := ⟨W.heap.size, 2, none⟩) (by simp) (.int .i64 c)
      generalize ((wr.setCell ⟨W.heap.size, 0, none⟩ (.int .i64 t.size)).setCell ⟨W.heap.size, 1, none⟩ (.int .i64 l)).setCell ⟨W.heap.size, 2, none⟩ (.int .i64 c) = w3 at *
      have k0 := q.cell_at (i := 0) rfl
      have k1 := q.cell_at (i := 1) rfl
      have k2 := q.cell_at (i := 2) rfl
      refine bodyPost_ret (by simp [results, Tryz.results10, go_sem, k0, k1, k2]; try rfl) rfl ?_
      have hh := hpl.out
      rw [show t.size - pos = 0 by omega, placeFrom] at hh
      refine ⟨?_, hbq⟩
      rw [← hh]
end Go.Proofs.YtdgkpmpakkfgbaaGreatDoor
