/- Cells of one type may be written in place: what is kept. -/
import Derived.Test.YtdgkpmpakkfgbaaGreatDoorScSm
namespace Go.Proofs.YtdgkpmpakkfgbaaGreatDoor
open Go.RowKit

/-- blocks below B stay; the others keep their form, and what they hold, but for those of type T -/
structure Mute (T B : Nat) (w w' : World) : Prop where
  below : Below B w w'
  form : ∀ (g : Nat) (cur : Array Value) (t : Nat) (fr : Nat × Nat), w.heap[g]? = some (.cells cur t fr) → ∃ cur' : Array Value, w'.heap[g]? = some (.cells cur' t fr) ∧ cur'.size = cur.size ∧ (t ≠ T → cur' = cur)
theorem Mute.refl (T : Nat) {B : Nat} (w : World) : Mute T B w w := ⟨Below.refl _ _, fun _ cur _ _ h => ⟨cur, h, rfl, fun _ => rfl⟩⟩
theorem Mute.grew {T B : Nat} {w w' w'' : World} (h : Mute T B w w') (hg : Grew w' w'') (hB : B ≤ w.heap.size) : Mute T B w w'' := by
  have hs := h.below.size
  refine ⟨h.below.trans (hg.mono (by omega)), fun g cur t fr hh => ?_⟩
  obtain ⟨cur', h1, h2, h3⟩ := h.form g cur t fr hh
  exact ⟨cur', (hg.block g (Array.getElem?_eq_some_iff.1 h1).1).trans h1, h2, h3⟩
theorem Mute.set {T B : Nat} {w w' : World} (h : Mute T B w w') {g k : Nat} {cur : Array Value} (hb : w'.heap[g]? = some (.cells cur T (0, 0))) (hB : B ≤ g) (v : Value) : Mute T B w (w'.setCell ⟨g, k, none⟩ v) := by
  refine ⟨h.below.setCell (p := ⟨g, k, none⟩) hB v, fun b c t fr hh => ?_⟩
  obtain ⟨c', h1, h2, h3⟩ := h.form b c t fr hh
  by_cases hbg : b = g
  · subst hbg
    rw [hb] at h1
    simp only [Option.some.injEq, Obj.cells.injEq] at h1
    obtain ⟨rfl, rfl, rfl⟩ := h1
    refine ⟨cur.setIfInBounds k v, ?_, by simpa using h2, fun hn => absurd rfl hn⟩
    simp [World.setCell, Array.getElem?_modify, hb]
  · refine ⟨c', ?_, h2, h3⟩
    rw [Below.heap_setCell _ _ _ _ (fun e => hbg e)]
    exact h1
theorem WordsV.muted {W W' : World} {base B : Nat} {l : List UInt8} {v : Value} {ws : List Wd} (h : WordsV W base l v ws) (hm : Mute 40 B W W') (hB : B ≤ base) (i : Nat) (hi : i < ws.length) :
    ∃ gc cc sa sc, v = .slice (some ⟨gc, 0, none⟩) ws.length cc ∧ ws.length ≤ cc ∧ gc < W'.heap.size ∧ W'.cell? ⟨gc, i * 6 + 2, none⟩ = some (.slice sa ws[i].set.length sc) ∧ ws[i].set.length ≤ sc ∧
      ∀ k < ws[i].set.length, ∃ g x, sa = some ⟨g, 0, none⟩ ∧ g < W'.heap.size ∧ W'.cell? ⟨g, k * 2, none⟩ = some x ∧ W'.frozen? ⟨g, k * 2, none⟩ = false ∧ ∀ u, Mute 40 B W (W'.setCell ⟨g, k * 2, none⟩ u) := by
  obtain ⟨cs, h1, h2⟩ := h
  obtain ⟨-, -, ⟨sv, hsv, hr⟩, -, -, -⟩ := h2.get i hi
  rcases h1.2 with ⟨_, h0⟩ | ⟨gc, cap, cur, rfl, hb, hg, hc, hx, hsz, htk⟩
  · omega
  · obtain ⟨cur', g1, g2, g3⟩ := hm.form gc cur _ _ hg
    have := g3 (by decide)
    subst this
    have hcell : W'.cell? ⟨gc, i * 6 + 2, none⟩ = some sv := by
      rw [← htk, List.getElem?_take] at hsv
      split at hsv
      · rw [cell_of_row W' gc (i * 6 + 2) cur' 38 (0, 0) g1]
        simpa using hsv
      · cases hsv
    obtain ⟨hl, hr2⟩ := hr
    rcases hr2 with ⟨rfl, h0⟩ | ⟨g, cp, cr, rfl, rb, rg, rc, rx, rsz, rtk⟩
    · exact ⟨gc, cap, none, 0, rfl, hc, (Array.getElem?_eq_some_iff.1 g1).1, by rw [hcell, h0], by omega, fun k hk => by omega⟩
    · obtain ⟨cr', r1, r2, -⟩ := hm.form g cr _ _ rg
      refine ⟨gc, cap, _, _, rfl, hc, (Array.getElem?_eq_some_iff.1 g1).1, hcell, rc, fun k hk => ?_⟩
      have hkk : k * 2 < cr'.size := by
        have : (k + 1) * 2 ≤ cp * 2 := Nat.mul_le_mul_right _ (by omega)
        omega
      refine ⟨g, cr'[k * 2], rfl, (Array.getElem?_eq_some_iff.1 r1).1, ?_, ?_, fun u => hm.set r1 (by omega) u⟩
      · rw [cell_of_row W' g (k * 2) cr' 40 (0, 0) r1, Array.getElem?_eq_getElem hkk]
      · simp [World.frozen?, r1]
end Go.Proofs.YtdgkpmpakkfgbaaGreatDoor
