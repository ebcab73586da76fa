/- What the rows need beside: a least one is no greater than is gone through; lists of lists in memory. -/
import Derived.Test.YtogmlonhciiomaaDoorPrLives
namespace Go.Proofs.YtogmlonhciiomaaDoor
open Go.RowKit

theorem IsLeast.few {a x : Aut} (h : IsLeast a x) (ok : Okay a) (h1 : 1 ≤ a.length) (hf : a.Few) : x.Few := by
  have hm := (h.best ok h1 hf.states).most
  rcases h with ⟨_, rfl⟩ | ⟨h0, t, same, T, hs, rfl⟩
  · exact ⟨by simp, fun s hs => by simp only [List.mem_singleton] at hs; subst hs; simp, fun s hs => by simp only [List.mem_singleton] at hs; subst hs; simp⟩
  · obtain ⟨come, L⟩ := lst_of T hs h0 hf.states
    have hf1 := hf.states
    refine ⟨by omega, fun s hs => ?_, fun s hs => ?_⟩
    · obtain ⟨k, hk, rfl⟩ := List.mem_iff_getElem.1 hs
      have hk' : k < come.length := by rw [← L.len]; exact hk
      have hc := (L.live k hk').lt
      rw [← (Aut.at hk).2.1, L.alts k hk', (Aut.at hc).2.1]
      exact hf.alts _ (List.getElem_mem hc)
    · obtain ⟨k, hk, rfl⟩ := List.mem_iff_getElem.1 hs
      have hk' : k < come.length := by rw [← L.len]; exact hk
      have hc := (L.live k hk').lt
      rw [← (Aut.at hk).2.2, L.elen k hk']
      obtain ⟨p, _, he⟩ := T.edges come[k]
      rw [he, (Aut.at hc).2.2]
      exact Nat.le_trans (List.length_filter_le _ _) (hf.edges _ (List.getElem_mem hc))
theorem okay_u8 {a : Aut} (ok : Okay a) : a.U8 := fun s hs => by
  obtain ⟨k, hk, rfl⟩ := List.mem_iff_getElem.1 hs
  have := ok.kinds k
  rw [(Aut.at hk).1] at this
  omega
theorem may_len {a : Aut} {n m : Int} (h : a.mayB n m = true) : 1 ≤ a.length := by
  unfold Aut.mayB at h
  simp only [Bool.and_eq_true, decide_eq_true_eq] at h
  exact h.1.1

/-- a slice of lists -/
def ListsV (W : World) (lim : Nat) (v : Value) (l : List (List Int)) : Prop := ∃ a cap, v = .slice a l.length cap ∧ l.length ≤ cap ∧ ∀ k (h : k < l.length), ∃ b off c cc, a = some ⟨b, off, none⟩ ∧ b < lim ∧ W.cell? ⟨b, off + k, none⟩ = some (.slice c l[k].length cc) ∧ l[k].length ≤ cc ∧ IntsAt W lim c l[k]
theorem IntsAt.take {W : World} {lim : Nat} {a : Option Addr} {l : List Int} (h : IntsAt W lim a l) (n : Nat) : IntsAt W lim a (l.take n) := fun k hk => by
  have hk' : k < l.length := by simp at hk; omega
  obtain ⟨b, off, h1, h2, h3⟩ := h k hk'
  exact ⟨b, off, h1, h2, by rw [List.getElem_take]; exact h3⟩
theorem alikeB_best {a x : Aut} (h : Best a x) (w : List Int) : alikeB (runR a 0 0 w) (runR x 0 0 w) = true := (alikeB_iff _ _).2 (h.alike w)
theorem bfsL_cons {s : Stt} {r : Aut} {i : Nat} {n m : Int} (h : bfsL (s :: r) i n = some m) (hi : (i : Int) < n) : ∃ k, nextE s.edges n = some k ∧ bfsL r (i + 1) k = some m := by
  rw [bfsL, if_pos hi] at h
  cases hk : nextE s.edges n with
  | none => rw [hk] at h; cases h
  | some k => rw [hk] at h; exact ⟨k, rfl, h⟩
theorem bfsL_stop {s : Stt} {r : Aut} {i : Nat} {n m : Int} (h : bfsL (s :: r) i n = some m) (hi : ¬ (i : Int) < n) : n = m := by
  rw [bfsL, if_neg hi] at h
  exact Option.some.inj h
theorem nextE_hit {e : Ed} {r : List Ed} {n m : Int} (h : nextE (e :: r) n = some m) (he : e.tgt = n) : nextE r (n + 1) = some m := by
  rw [nextE, if_pos he] at h
  split at h
  · cases h
  · exact h
theorem nextE_miss {e : Ed} {r : List Ed} {n m : Int} (h : nextE (e :: r) n = some m) (he : e.tgt ≠ n) : e.tgt < n ∧ nextE r n = some m := by
  rw [nextE, if_neg he] at h
  split at h
  · cases h
  · exact ⟨by omega, h⟩
theorem nextE_le : ∀ (l : List Ed) {n m : Int}, nextE l n = some m → n ≤ m
  | [], n, m, h => by have := Option.some.inj h; omega
  | e :: r, n, m, h => by
    by_cases he : e.tgt = n
    · have := nextE_le r (nextE_hit h he); omega
    · exact nextE_le r (nextE_miss h he).2
theorem bfsL_le : ∀ (l : Aut) {i : Nat} {n m : Int}, bfsL l i n = some m → n ≤ m
  | [], i, n, m, h => by have := Option.some.inj h; omega
  | s :: r, i, n, m, h => by
    by_cases hi : (i : Int) < n
    · obtain ⟨k, h1, h2⟩ := bfsL_cons h hi
      have := nextE_le _ h1
      have := bfsL_le r h2
      omega
    · have := bfsL_stop h hi; omega
end Go.Proofs.YtogmlonhciiomaaDoor
