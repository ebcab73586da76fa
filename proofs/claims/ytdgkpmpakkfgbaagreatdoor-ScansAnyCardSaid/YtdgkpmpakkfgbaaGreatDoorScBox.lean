/- The scan's box: its text, its place, what is wrong; left, wrong, next. -/
import Derived.Test.YtdgkpmpakkfgbaaGreatDoorScLaw2
import Derived.Test.YtdgkpmpakkfgbaaGreatDoorOwn
import Derived.Lib.Hide
import Derived.Outline
import Derived.WalkKit
import Derived.ProofKit
import Derived.BigQuiet
namespace Go.Proofs.YtdgkpmpakkfgbaaGreatDoor
open Go.RowKit

/-- a scope in which nothing jumps -/
theorem wp_scope_calm {P : Program} {a : Act} {w : World} {Q : Exit → Act → World → Prop} {c : Code} (l : Nat) (hl : (findLabel c l).isSome = true) (first : c.wp P (Exit.jump l (fun _ _ => False) Q) a w) : (Code.scope c).wp P Q a w := by
  obtain ⟨rest, hf⟩ := Option.isSome_iff_exists.1 hl
  exact wp_scope_jumps l _ (fun _ _ => 0) hf first (fun _ _ h => h.elim)

/-- of what was there, only block t may have turned -/
structure Upd (t : Nat) (w w' : World) : Prop where
  os : w'.os = w.os
  tape : w'.tape = w.tape
  output : w'.output = w.output
  size : w.heap.size ≤ w'.heap.size
  block : ∀ k, k < w.heap.size → k ≠ t → w'.heap[k]? = w.heap[k]?
theorem Upd.refl (t : Nat) (w : World) : Upd t w w := ⟨rfl, rfl, rfl, Nat.le_refl _, fun _ _ _ => rfl⟩
theorem Upd.trans {t : Nat} {a b c : World} (h : Upd t a b) (k : Upd t b c) : Upd t a c :=
  ⟨k.os.trans h.os, k.tape.trans h.tape, k.output.trans h.output, Nat.le_trans h.size k.size, fun i hi hn => (k.block i (Nat.lt_of_lt_of_le hi h.size) hn).trans (h.block i hi hn)⟩
theorem Grew.upd {w w' : World} (h : Grew w w') (t : Nat) : Upd t w w' := ⟨h.os, h.tape, h.output, h.size, fun k hk _ => h.block k hk⟩
theorem Upd.below {t lim : Nat} {w w' : World} (h : Upd t w w') (hl : lim ≤ t) (hs : lim ≤ w.heap.size) : Below lim w w' := ⟨h.os, h.tape, h.output, h.size, fun k hk => h.block k (by omega) (by omega)⟩
theorem Upd.setCell {t : Nat} {a w : World} (h : Upd t a w) (o : Nat) (v : Value) : Upd t a (w.setCell ⟨t, o, none⟩ v) :=
  h.trans ⟨rfl, rfl, rfl, by simp [World.setCell], fun k _ hn => Below.heap_setCell _ _ _ _ hn⟩
theorem Upd.cell {t : Nat} {w w' : World} (h : Upd t w w') {b : Nat} (hb : b < w.heap.size) (hn : b ≠ t) (o : Nat) : w'.cell? ⟨b, o, none⟩ = w.cell? ⟨b, o, none⟩ := World.cell?_of_block (w := w) (h.block b hb hn)
theorem Owns.upd {W W' : World} {b t : Nat} {cs : List Value} {T : Nat} (h : Owns W b cs T) (hg : Upd t W W') (hn : b ≠ t) : Owns W' b cs T := by
  have := h.lt
  unfold Owns at *
  rw [hg.block b this hn]; exact h
theorem Upd.drew {t : Nat} {a w : World} (h : Upd t a w) (n : Nat) : Upd t a (w.drewN n) := by
  induction n with
  | zero => exact h
  | succ n ih => exact ⟨ih.os, ih.tape, ih.output, ih.size, ih.block⟩

theorem grew_drewN (W : World) (n : Nat) : Grew W (W.drewN n) := by
  induction n with
  | zero => exact Grew.refl _
  | succ n ih => exact ih.trans ⟨rfl, rfl, rfl, Nat.le_refl _, fun _ _ => rfl⟩

/-- the scan's box -/
structure BoxAt (W : World) (cb : Nat) (s : ByteArray) (p e : Nat) : Prop where
  owns : Owns W cb [.string s, .int .i64 p, .int .i64 e] 45
  le : p ≤ s.size
  few : s.size ≤ 65536
theorem BoxAt.keep {W W' : World} {cb p e : Nat} {s : ByteArray} (h : BoxAt W cb s p e) (hg : Grew W W') : BoxAt W' cb s p e := ⟨h.owns.keep hg, h.le, h.few⟩
theorem BoxAt.upd {W W' : World} {cb p e t : Nat} {s : ByteArray} (h : BoxAt W cb s p e) (hg : Upd t W W') (hn : cb ≠ t) : BoxAt W' cb s p e := ⟨h.owns.upd hg hn, h.le, h.few⟩
theorem BoxAt.go {W : World} {cb p e : Nat} {s : ByteArray} (h : BoxAt W cb s p e) (q : Nat) (hq : q ≤ s.size) : BoxAt (W.setCell ⟨cb, 1, none⟩ (.int .i64 q)) cb s q e := ⟨h.owns.set 1 _, hq, h.few⟩
theorem BoxAt.c0 {W : World} {cb p e : Nat} {s : ByteArray} (h : BoxAt W cb s p e) : W.cell? ⟨cb, 0, none⟩ = some (.string s) := h.owns.cell_at rfl
theorem BoxAt.c1 {W : World} {cb p e : Nat} {s : ByteArray} (h : BoxAt W cb s p e) : W.cell? ⟨cb, 1, none⟩ = some (.int .i64 p) := h.owns.cell_at rfl
theorem BoxAt.c2 {W : World} {cb p e : Nat} {s : ByteArray} (h : BoxAt W cb s p e) : W.cell? ⟨cb, 2, none⟩ = some (.int .i64 e) := h.owns.cell_at rfl
theorem BoxAt.fr {W : World} {cb p e : Nat} {s : ByteArray} (h : BoxAt W cb s p e) (i : Nat) : W.frozen? ⟨cb, i, none⟩ = false := h.owns.free i

def LeftIs (W : World) (cb : Nat) (s : ByteArray) (p e : Nat) (r : Ending) (W' : World) : Prop := r = .returned (.string (s.extract p s.size)) ∧ Grew W W' ∧ BoxAt W' cb s p e

set_option maxHeartbeats 2000000 in
theorem left_ok (W : World) (cb : Nat) (s : ByteArray) (p e : Nat) (h : BoxAt W cb s p e) :
    Calls Tryz.prog 25 #[.pointer (some ⟨cb, 0, none⟩)] W (LeftIs W cb s p e) := by
  have h0 := h.c0
  have h1 := h.c1
  have hp := h.le
  have hs := h.few
  have H := Lib.hid h
  clear h
  go_enter Tryz.func25, Tryz.ntmps25
  go_wp2_with fail
  go_quiet (fail)
  go_wp2_with fail
  go_ret
  exact ⟨rfl, grew_drewN _ _, H.out.keep (grew_drewN _ _)⟩

/-- what is left, as a text of its own -/
theorem rest_facts (s : ByteArray) (p : Nat) : (s.extract p s.size).data.toList = s.data.toList.drop p := by
  rw [Lib.extract_data, List.take_of_length_le (by rw [List.length_drop, ← Lib.size_eq]; omega)]
theorem empty_iff (t : ByteArray) : t.toList.isEmpty = decide (t.data.toList = []) := by
  rw [← decide_eq_emptyBytes]
  by_cases h : t = { data := #[] }
  · subst h; rfl
  · have h3 : ¬ t.data.toList = [] := by
      intro h2
      apply h
      cases t with
      | mk d => simpa using h2
    rw [decide_eq_false h3]
    exact decide_eq_false h
theorem head_get (t : ByteArray) (c : UInt8) (l : List UInt8) (h : t.data.toList = c :: l) : 0 < t.size ∧ ∀ hk : 0 < t.size, t[0]'hk = c := by
  have hl : 0 < t.size := by rw [Lib.size_eq, h]; simp
  refine ⟨hl, fun hk => ?_⟩
  have : t.data.toList[0]? = some c := by rw [h]; rfl
  rw [List.getElem?_eq_some_iff] at this
  obtain ⟨_, h2⟩ := this
  exact h2

def WrongIs (W : World) (cb : Nat) (s : ByteArray) (q f : Nat) (r : Ending) (W' : World) : Prop := r = .returned (.tuple #[]) ∧ Upd cb W W' ∧ BoxAt W' cb s q f
set_option maxHeartbeats 2000000 in
theorem wrong_ok (W : World) (cb : Nat) (s : ByteArray) (p : Nat) (q f : Nat) (h : BoxAt W cb s p 0) (hq : q ≤ s.size) :
    Calls Tryz.prog 29 #[.pointer (some ⟨cb, 0, none⟩), .int .i64 f, .int .i64 q] W (WrongIs W cb s q f) := by
  have h2 := h.c2
  have hf := h.fr
  have H : Hid (Upd cb W ((W.setCell ⟨cb, 2, none⟩ (.int .i64 f)).setCell ⟨cb, 1, none⟩ (.int .i64 q)) ∧ BoxAt ((W.setCell ⟨cb, 2, none⟩ (.int .i64 f)).setCell ⟨cb, 1, none⟩ (.int .i64 q)) cb s q f) :=
    ⟨((Upd.refl cb W).setCell 2 _).setCell 1 _, (h.owns.set 2 _).set 1 _, hq, h.few⟩
  have hc1 : (W.setCell ⟨cb, 2, none⟩ (.int .i64 f)).cell? ⟨cb, 1, none⟩ = some (.int .i64 p) := (h.owns.set 2 (.int .i64 f)).cell_at rfl
  have hf1 : (W.setCell ⟨cb, 2, none⟩ (.int .i64 f)).frozen? ⟨cb, 1, none⟩ = false := (h.owns.set 2 (.int .i64 f)).free 1
  clear h
  go_enter Tryz.func29, Tryz.ntmps29
  go_wp2_with fail
  go_end0
  exact ⟨rfl, H.out.1, H.out.2⟩

def nextP (l : List UInt8) (p : Nat) (c : UInt8) : Nat := if (l.drop p).head? = some c then p + 1 else p
def NextIs (W : World) (cb : Nat) (s : ByteArray) (p e : Nat) (c : UInt8) (r : Ending) (W' : World) : Prop :=
  r = .returned (.bool (decide ((s.data.toList.drop p).head? = some c))) ∧ Upd cb W W' ∧ BoxAt W' cb s (nextP s.data.toList p c) e

set_option maxHeartbeats 4000000 in
theorem next_ok (W : World) (cb : Nat) (s : ByteArray) (p e : Nat) (c : UInt8) (h : BoxAt W cb s p e) :
    Calls Tryz.prog 42 #[.pointer (some ⟨cb, 0, none⟩), .int .u8 (c.toNat : Int)] W (NextIs W cb s p e c) := by
  have hL := Lib.hid (left_ok W cb s p e h)
  have hB := h.few
  have hle := h.le
  have hr := rest_facts s p
  have hz : (s.extract p s.size).size = s.size - p := by rw [Lib.size_eq, hr, List.length_drop, ← Lib.size_eq]
  unfold LeftIs at hL
  unfold NextIs nextP
  generalize s.extract p s.size = t at *
  generalize s.data.toList.drop p = l at *
  have he := empty_iff t
  rw [hr] at he
  cases l with
  | nil =>
    rw [decide_eq_true rfl] at he
    clear hr h
    go_enter Tryz.func42, Tryz.ntmps42
    go_wp2_with (go_at_call 25; refine hL.out.mono ?_; rintro r w ⟨rfl, hg, hb⟩)
    go_ret
    exact ⟨rfl, hg.upd cb, hb⟩
  | cons c0 tl =>
    rw [decide_eq_false (by simp)] at he
    obtain ⟨h0, hv⟩ := head_get t c0 tl hr
    clear hr h
    by_cases hc : c0 = c
    · subst hc
      simp only [List.head?_cons, decide_true, if_true]
      go_enter Tryz.func42, Tryz.ntmps42
      go_wp2_with (go_at_call 25; refine hL.out.mono ?_)
      rintro r w ⟨rfl, hg, hb⟩
      have c1 := hb.c1
      have f1 := hb.fr 1
      have H := Lib.hid hg
      have H2 := Lib.hid (hb.go (p + 1) (by omega))
      have H3 := Lib.hid ((Grew.upd hg cb).setCell 1 (.int .i64 ((p + 1 : Nat) : Int)))
      clear hg hb
      go_wp2_with fail
      go_ret
      exact ⟨rfl, H3.out, H2.out⟩
    · have hne : ((c0.toNat : Int) == (c.toNat : Int)) = false := by
        rw [beq_eq_false_iff_ne]
        intro h
        exact hc (UInt8.toNat_inj.1 (by omega))
      simp only [List.head?_cons, Option.some.injEq, hc, decide_false, if_false]
      go_enter Tryz.func42, Tryz.ntmps42
      go_wp2_with (go_at_call 25; refine hL.out.mono ?_; rintro r w ⟨rfl, hg, hb⟩)
      go_ret
      exact ⟨rfl, hg.upd cb, hb⟩
end Go.Proofs.YtdgkpmpakkfgbaaGreatDoor
