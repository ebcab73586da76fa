/- Two appends in a region that draws its order. -/
import Derived.Test.YtiiffcmojkdlaaaGreatDoorQ34
import Derived.Test.YtiiffcmojkdlaaaGreatDoorQ27
import Derived.Test.YtiiffcmojkdlaaaGreatDoorQ32
namespace Go.Proofs.YtiiffcmojkdlaaaGreatDoor
open Go.RowKit

/-- all stays, but for some blocks, each of which may come to hold what M says -/
structure OnceM (M : Nat → Option Obj) (w w' : World) : Prop where
  but : But (fun b => M b ≠ none) w w'
  row : ∀ b N, M b = some N → w'.heap[b]? = w.heap[b]? ∨ w'.heap[b]? = some N
theorem OnceM.rel (M : Nat → Option Obj) : Rel (OnceM M) where
  refl w := ⟨But.refl _ w, fun _ _ _ => .inl rfl⟩
  trans h k := ⟨h.but.trans k.but fun _ _ h => h, fun b N hb => by
    rcases k.row b N hb with h1 | h1
    · rw [h1]; exact h.row b N hb
    · exact .inr h1⟩
  drew w := ⟨⟨rfl, rfl, rfl, Nat.le_refl _, fun _ _ _ => rfl⟩, fun _ _ _ => .inl rfl⟩
section
variable {M : Nat → Option Obj} {F : Option Nat} {N : Obj} {w w' : World}
theorem OnceM.grew (h : Grew w w') (hF : ∀ b, M b ≠ none → b < w.heap.size) : OnceM M w w' := ⟨But.of_grew h, fun b N hb => .inl (h.block b (hF b (by rw [hb]; simp)))⟩
theorem OnceM.cell (h : OnceM M w w') {a : Addr} {v : Value} (hc : w.cell? a = some v) (hn : M a.block = none) : w'.cell? a = some v := by
  have hlt : a.block < w.heap.size := by
    rcases Nat.lt_or_ge a.block w.heap.size with hl | hl
    · exact hl
    · simp [World.cell?, Array.getElem?_eq_none hl] at hc
  rw [World.cell?_of_block (h.but.block _ hlt (fun e => e hn))]
  exact hc
theorem OnceM.owns (h : OnceM M w w') {b T : Nat} {cs : List Value} (hc : Owns w b cs T) (hn : M b = none) : Owns w' b cs T := h.but.owns hc fun e => e hn
theorem OnceM.size (h : OnceM M w w') : w.heap.size ≤ w'.heap.size := h.but.size
theorem AppR.keepM {S base e size n : Nat} {xs : List Value} {v : Value} (h : OnceM M w w') (hF : ∀ b, F = some b → M b = some N) (hS : ∀ b, S ≤ b → M b = none) (hr : AppR F N S base e size n xs v w) : AppR F N S base e size n xs v w' := by
  obtain ⟨g, cap, rfl, h1, h2, h3⟩ := hr
  rcases h3 with ⟨hF1, h4⟩ | ⟨hF1, h4⟩
  · have hh : w'.heap[g]? = some N := by
      rcases h.row g N (hF g hF1) with h5 | h5
      · rw [h5]; exact h4
      · exact h5
    exact ⟨g, cap, rfl, loose_same h1 (hh.trans h4.symm), Nat.lt_of_lt_of_le h2 h.size, .inl ⟨hF1, hh⟩⟩
  · exact ⟨g, cap, rfl, loose_same h1 (h.but.block g h2 (fun e => e (hS g h4))), Nat.lt_of_lt_of_le h2 h.size, .inr ⟨hF1, h4⟩⟩
end

theorem append_onceM {P : Program} (w0 : World) (t ty : TypeId) (base : Nat) (e : TypeId) (i : TypeInfo) (z : Value) (size bytes : Nat) (ht : P.underlying t = some (.slice e)) (hi : P.info? e = some i) (hz : i.zero = some z)
    (hsize : i.size = size) (hby : i.bytes = bytes) (hzs : z.cells.size = size)
    (v : Value) (n : Nat) (xs : List Value) (hown : looseRow w0 base e size v n xs)
    (m : Nat) (news : List Value) (hl : news.length = m * size) (h1 : ∀ u ∈ news, u.oneCell' = true)
    (hm : 0 < m) (h63 : n + m ≤ maxLen) (hbytes : (n + m) * bytes ≤ 140737488355328) (hbase : base ≤ w0.heap.size) :
    ∃ F N, (∀ b, F = some b → v.ownBlock = some b ∧ b < w0.heap.size) ∧ ∀ (M : Nat → Option Obj), (∀ b, M b ≠ none → b < w0.heap.size) → (∀ b, v.ownBlock = some b → M b = if F = some b then some N else none) → ∀ w ad c, OnceM M w0 w → (∀ j u, news[j]? = some u → w.cell? (ad.add j) = some u) →
      ∃ r w', (Builtin.append_ #[t, t] ty #[v, .slice (some ad) m c]).run P w = .ok r w' ∧ OnceM M w w' ∧ AppR F N w0.heap.size base e size (n + m) (xs ++ news) r w' ∧ (F = none → ∀ g, r.ownBlock = some g → w.heap.size ≤ g) ∧ ∀ b, F = some b → r.ownBlock = some b := by
  subst hsize
  subst hby
  have hsmall : n + m ≤ 9223372036854775807 := by simp only [maxLen] at h63; omega
  have hlen : (xs ++ news).length = (n + m) * i.size := by rw [List.length_append, hown.1, hl, Nat.add_mul]
  have grown : ∀ (M : Nat → Option Obj) (w : World), (∀ b, M b ≠ none → b < w.heap.size) → base ≤ w.heap.size → w0.heap.size ≤ w.heap.size → ∀ (old : Nat), old < n + m → ∀ N,
      OnceM M w (w.drew.alloc (.cells (xs.toArray ++ news.toArray ++ Builtin.zeroCells z.cells (grownCap w (n + m) old e - (n + m))) e)) ∧
      AppR none N w0.heap.size base e i.size (n + m) (xs ++ news) (.slice (some ⟨w.heap.size, 0, none⟩) (n + m) (grownCap w (n + m) old e)) (w.drew.alloc (.cells (xs.toArray ++ news.toArray ++ Builtin.zeroCells z.cells (grownCap w (n + m) old e - (n + m))) e)) := by
    intro M w hMl hbw hw0 old ho N
    have hge := grownCap_ge w (n + m) old e
    have hcm : grownCap w (n + m) old e ≤ maxLen := grownCap_le_maxLen w (n + m) old e h63
    have hgw : Grew w (w.drew.alloc (.cells (xs.toArray ++ news.toArray ++ Builtin.zeroCells z.cells (grownCap w (n + m) old e - (n + m))) e)) := ⟨rfl, rfl, rfl, by simp, fun k hk => (Below.refl _ w.drew).alloc (Nat.le_refl _) _ |>.block k hk⟩
    refine ⟨OnceM.grew hgw hMl, w.heap.size, _, rfl, ⟨hlen, .inr ⟨w.heap.size, _, _, rfl, hbw, heap_alloc_new w.drew _, hge, hcm, ?_, ?_⟩⟩, by simp, .inr ⟨rfl, hw0⟩⟩
    · apply Nat.le_of_eq
      simp only [Array.size_append, List.size_toArray, size_zeroCells, hzs, hown.1, hl, ← Nat.add_mul]
      congr 1
      omega
    · simp only [Array.toList_append, List.append_assoc]
      rw [← List.append_assoc, ← hlen]
      exact List.take_left
  have fresh : ∀ (w : World) (cap : Nat), (none : Option Nat) = none → ∀ g, (Value.slice (some ⟨w.heap.size, 0, none⟩) (n + m) cap).ownBlock = some g → w.heap.size ≤ g := fun w cap _ g hg => by simp only [Value.ownBlock, Option.some.injEq] at hg; omega
  rcases hown.2 with ⟨rfl, rfl⟩ | ⟨g, cap, cur, rfl, hbg, hg, hnc, hcm, hcs, htake⟩
  · have hx : xs = [] := List.eq_nil_of_length_eq_zero (by simpa using hown.1)
    subst hx
    refine ⟨none, .cells #[] 0 (0, 0), fun b hb => (by cases hb), fun M hM0 _ w ad c hw hnews => ?_⟩
    have hr := run_append_nil (P := P) w t ty e i z ht hi hz ad m c news hl hnews (by omega) (by omega) (by have hb := hbytes; simp only [Nat.zero_add] at hb; omega)
    have hgr := grown M w (fun b hb => Nat.lt_of_lt_of_le (hM0 b hb) hw.size) (Nat.le_trans hbase hw.size) hw.size 0 (by omega) (.cells #[] 0 (0, 0))
    have hfr := fresh w (grownCap w (0 + m) 0 e)
    simp only [Nat.zero_add, List.nil_append, Array.empty_append] at hgr hfr ⊢
    exact ⟨_, _, hr, hgr.1, hgr.2, hfr, fun b hb => by cases hb⟩
  · have hlt := (Array.getElem?_eq_some_iff.1 hg).1
    by_cases hroom : n + m ≤ cap
    · have hfit : n * i.size + news.length ≤ cur.size := by
        rw [hl, ← Nat.add_mul]
        exact Nat.le_trans (Nat.mul_le_mul_right _ hroom) hcs
      obtain ⟨nc, hnc9⟩ : ∃ nc, cur.toList.take (n * i.size) ++ news ++ cur.toList.drop (n * i.size + news.length) = nc := ⟨_, rfl⟩
      have hagain := put_again cur.toList news (n * i.size) (by simpa using hfit)
      have hncl : nc.length = cur.size := by
        rw [← hnc9]
        simp only [List.length_append, List.length_take, List.length_drop, Array.length_toList]
        omega
      have hnct : nc.take ((n + m) * i.size) = xs ++ news := by
        rw [← hnc9, htake, ← hlen]
        exact List.take_left
      rw [hnc9] at hagain
      refine ⟨some g, .cells nc.toArray e (0, 0), fun b hb => (by cases hb; exact ⟨rfl, hlt⟩), fun M hM0 hMo w ad c hw hnews => ?_⟩
      have hMg : M g = some (.cells nc.toArray e (0, 0)) := by rw [hMo g rfl, if_pos rfl]
      have fin : ∀ c9 : Array Value, w.heap[g]? = some (.cells c9 e (0, 0)) → c9.toList.take (n * i.size) ++ news ++ c9.toList.drop (n * i.size + news.length) = nc → n * i.size + news.length ≤ c9.size →
          ∃ r w', (Builtin.append_ #[t, t] ty #[.slice (some ⟨g, 0, none⟩) n cap, .slice (some ad) m c]).run P w = .ok r w' ∧ OnceM M w w' ∧ AppR (some g) (.cells nc.toArray e (0, 0)) w0.heap.size base e i.size (n + m) (xs ++ news) r w' ∧ (some g = none → ∀ g', r.ownBlock = some g' → w.heap.size ≤ g') ∧ ∀ b, some g = some b → r.ownBlock = some b := by
        intro c9 hg9 he9 hf9
        have hr := run_append_room (P := P) w t ty e i ht hi g n cap c9 hg9 ad m c news hl hnews h1 hroom hf9
        rw [he9] at hr
        have hh := setRow_heap w g c9 nc.toArray e _ hg9
        refine ⟨_, _, hr, ⟨⟨rfl, rfl, rfl, by simp, fun k _ hk => setRow_other w g k _ (fun e => hk (by rw [e, hMg]; simp))⟩, fun b N hb => ?_⟩, ⟨g, cap, rfl, ⟨hlen, .inr ⟨g, cap, _, rfl, hbg, hh, hroom, hcm, ?_, ?_⟩⟩, ?_, .inl ⟨rfl, hh⟩⟩, fun hx => (by cases hx), fun b hb => (by cases hb; rfl)⟩
        · by_cases e9 : b = g
          · subst e9
            rw [hMg] at hb
            cases hb
            exact .inr hh
          · exact .inl (setRow_other w g b _ e9)
        · simp only [List.size_toArray, hncl]; exact hcs
        · exact hnct
        · have := hw.size; simp; omega
      rcases hw.row g _ hMg with h9 | h9
      · exact fin cur (h9.trans hg) hnc9 hfit
      · exact fin nc.toArray h9 hagain (by simp only [List.size_toArray, hncl]; exact hfit)
    · refine ⟨none, .cells #[] 0 (0, 0), fun b hb => (by cases hb), fun M hM0 hMo w ad c hw hnews => ?_⟩
      have hMg : M g = none := by rw [hMo g rfl, if_neg (by simp)]
      have hgw : w.heap[g]? = some (.cells cur e (0, 0)) := (hw.but.block g hlt (fun x => x hMg)).trans hg
      have hownw : looseRow w base e i.size (.slice (some ⟨g, 0, none⟩) n cap) n xs := loose_same hown (hgw.trans hg.symm)
      have holds : ∀ j u, xs[j]? = some u → w.cell? ((⟨g, 0, none⟩ : Addr).add j) = some u := fun j u hj => by
        have := looseRow_cells hownw (g := g) rfl j u hj
        rw [show (⟨g, 0, none⟩ : Addr).add j = ⟨g, j, none⟩ by unfold Addr.add; split <;> simp_all]
        exact this
      have hr := run_append_grow (P := P) w t ty e i z ht hi hz ⟨g, 0, none⟩ n cap xs hown.1 holds ad m c news hl hnews (by omega) (by omega) (growslice_fits (by omega) hbytes)
      have hgr := grown M w (fun b hb => Nat.lt_of_lt_of_le (hM0 b hb) hw.size) (Nat.le_trans hbase hw.size) hw.size cap (by omega) (.cells #[] 0 (0, 0))
      exact ⟨_, _, hr, hgr.1, hgr.2, fresh w _, fun b hb => by cases hb⟩

/-! ### a start and a stop more -/
def MkV.withSS (V : MkV) (v1 v2 : Value) : MkV := { V with iv := fun r => if r = .starts then v1 else if r = .stops then v2 else V.iv r }
theorem MkAt.pushSS {E : MkE} {m : Mk} {V : MkV} {w w2 : World} (h : MkAt E w m V) {v1 v2 : Value} {g1 g2 a b : Nat} (hb : But (fun c => (V.iv .starts).ownBlock = some c ∨ (V.iv .stops).ownBlock = some c) w w2)
    (hr1 : looseRow w2 E.base 3 1 v1 (m.N.starts.length + 1) (intVs m.N.starts ++ [.int .i64 a])) (hr2 : looseRow w2 E.base 3 1 v2 (m.N.stops.length + 1) (intVs m.N.stops ++ [.int .i64 b]))
    (ho1 : v1.ownBlock = some g1) (ho2 : v2.ownBlock = some g2) (hne : g1 ≠ g2) (hat1 : (V.iv .starts).ownBlock = some g1 ∨ w.heap.size ≤ g1) (hat2 : (V.iv .stops).ownBlock = some g2 ∨ w.heap.size ≤ g2) :
    MkAt E ((w2.setCell ⟨E.mb, 8, none⟩ v1).setCell ⟨E.mb, 9, none⟩ v2) (m.addSS a b) (V.withSS v1 v2) ∧ Frk E m V (m.addSS a b) (V.withSS v1 v2) w ((w2.setCell ⟨E.mb, 8, none⟩ v1).setCell ⟨E.mb, 9, none⟩ v2) := by
  have hbm : ¬((V.iv .starts).ownBlock = some E.mb ∨ (V.iv .stops).ownBlock = some E.mb) := fun hx => hx.elim (own_box (h.ints .starts trivial) h.box (by decide)) (own_box (h.ints .stops trivial) h.box (by decide))
  have hbx : Owns w2 E.mb (V.box E m) 65 := hb.owns h.box hbm
  have hl : ∀ r, (m.addSS a b).live r ↔ m.live r := fun r => by cases r <;> exact Iff.rfl
  have hput2 : ∀ {e size n : Nat} {u : Value} {xs : List Value}, looseRow w2 E.base e size u n xs → e ≠ 65 → looseRow ((w2.setCell ⟨E.mb, 8, none⟩ v1).setCell ⟨E.mb, 9, none⟩ v2) E.base e size u n xs := fun hx hT => by
    have h1 := loose_put (i := 8) (x := v1) hx (own_box hx hbx hT)
    exact loose_put h1 (own_box h1 (hbx.set 8 v1) hT)
  have hofar : ∀ r, m.live r → r ≠ .starts → r ≠ .stops → looseRow w2 E.base 3 1 (V.iv r) (E.ints m r).length (intVs (E.ints m r)) := fun r hr h1 h2 =>
    row_but (h.ints r hr) hb fun c hc hx => hx.elim (fun hx => h.iinj r .starts hr trivial h1 (by simp [IRole.fix]) c hc hx) (fun hx => h.iinj r .stops hr trivial h2 (by simp [IRole.fix]) c hc hx)
  have hlt : ∀ r c, m.live r → (V.iv r).ownBlock = some c → c < w.heap.size := fun r c hr hc => h.mine_lt (.inr (.inr (.inr (.inl ⟨r, hr, hc⟩))))
  have hmine : ∀ c, (V.withSS v1 v2).mine E (m.addSS a b) c → V.mine E m c ∨ w.heap.size ≤ c := by
    intro c hc
    rcases hc with hc | hc | hc | ⟨r, hr, hc⟩ | ⟨k, hk, hc⟩
    · exact .inl (.inl hc)
    · exact .inl (.inr (.inl hc))
    · exact .inl (.inr (.inr (.inl hc)))
    · by_cases e1 : r = .starts
      · subst e1
        have hc : v1.ownBlock = some c := hc
        rw [ho1] at hc; cases hc
        exact hat1.imp (fun hx => .inr (.inr (.inr (.inl ⟨.starts, trivial, hx⟩)))) id
      · by_cases e2 : r = .stops
        · subst e2
          have hc : v2.ownBlock = some c := hc
          rw [ho2] at hc; cases hc
          exact hat2.imp (fun hx => .inr (.inr (.inr (.inl ⟨.stops, trivial, hx⟩)))) id
        · simp only [MkV.withSS, e1, e2, if_false] at hc
          exact .inl (.inr (.inr (.inr (.inl ⟨r, hr, hc⟩))))
    · exact .inl (.inr (.inr (.inr (.inr ⟨k, hk, hc⟩))))
  have fresh1 : ∀ r, m.live r → r ≠ .starts → (V.iv r).ownBlock ≠ some g1 := fun r hr hx hc => by
    rcases hat1 with ha | ha
    · exact h.iinj r .starts hr trivial hx (by simp [IRole.fix]) g1 hc ha
    · have := hlt r g1 hr hc; omega
  have fresh2 : ∀ r, m.live r → r ≠ .stops → (V.iv r).ownBlock ≠ some g2 := fun r hr hx hc => by
    rcases hat2 with ha | ha
    · exact h.iinj r .stops hr trivial hx (by simp [IRole.fix]) g2 hc ha
    · have := hlt r g2 hr hc; omega
  refine ⟨⟨?_, fun r hr => ?_, fun k hk => ?_, ?_, ?_, fun r1 r2 h1 h2 hne9 hff c hc => ?_, h.einj, h.lo⟩, ⟨⟨hb.os, hb.tape, hb.output, Nat.le_trans hb.size (by simp [World.setCell]), fun k hk hn => ?_⟩, hmine, fun r hr => ?_⟩⟩
  · have := (hbx.set 8 v1).set 9 v2
    exact this
  · by_cases e1 : r = .starts
    · subst e1
      have : looseRow w2 E.base 3 1 v1 (m.N.starts ++ [(a : Int)]).length (intVs (m.N.starts ++ [(a : Int)])) := by rw [List.length_append, intVs_snoc]; exact hr1
      exact hput2 this (by decide)
    · by_cases e2 : r = .stops
      · subst e2
        have : looseRow w2 E.base 3 1 v2 (m.N.stops ++ [(b : Int)]).length (intVs (m.N.stops ++ [(b : Int)])) := by rw [List.length_append, intVs_snoc]; exact hr2
        exact hput2 this (by decide)
      · have h1 := hput2 (hofar r hr e1 e2) (by decide)
        have hi : E.ints (m.addSS a b) r = E.ints m r := by cases r <;> first | rfl | exact absurd rfl e1 | exact absurd rfl e2
        rw [hi]
        simp only [MkV.withSS, e1, e2, if_false]
        exact h1
  · have h1 := h.edges k hk
    exact hput2 (row_but h1 hb fun c hc hx => hx.elim (own_ne h1 (h.ints .starts trivial) (by decide) c hc) (own_ne h1 (h.ints .stops trivial) (by decide) c hc)) (by decide)
  · have h1 := row_but h.states hb fun c hc hx => hx.elim (own_ne h.states (h.ints .starts trivial) (by decide) c hc) (own_ne h.states (h.ints .stops trivial) (by decide) c hc)
    have hs : (V.withSS v1 v2).srow (m.addSS a b) = V.srow m := by
      unfold MkV.srow
      rfl
    rw [hs]
    exact hput2 h1 (by decide)
  · obtain ⟨cs, h1, h2⟩ := h.waits
    have h3 := trow_but h1 hb fun c hc hx => hx.elim (own_neT h1 (h.ints .starts trivial) (by decide) c hc) (own_neT h1 (h.ints .stops trivial) (by decide) c hc)
    have h4 := loose_putT (i := 8) (x := v1) h3 (own_boxT h3 hbx (by decide))
    refine ⟨cs, loose_putT h4 (own_boxT h4 (hbx.set 8 v1) (by decide)), h2.keep ?_⟩
    exact Below.setCell (Below.setCell (hb.below h.lim fun k hk => hk.elim (fun hx => (row_own (h.ints .starts trivial) hx).1) (fun hx => (row_own (h.ints .stops trivial) hx).1)) (p := ⟨E.mb, 8, none⟩) h.lo v1) (p := ⟨E.mb, 9, none⟩) h.lo v2
  · by_cases e1 : r1 = .starts
    · subst e1
      have hc : v1.ownBlock = some c := hc
      rw [ho1] at hc; cases hc
      by_cases e2 : r2 = .stops
      · subst e2
        show v2.ownBlock ≠ _
        rw [ho2]; simpa using fun e => hne e.symm
      · have e3 : r2 ≠ .starts := fun e => hne9 e.symm
        simp only [MkV.withSS, e3, e2, if_false]
        exact fresh1 r2 h2 e3
    · by_cases e1' : r1 = .stops
      · subst e1'
        have hc : v2.ownBlock = some c := hc
        rw [ho2] at hc; cases hc
        by_cases e2 : r2 = .starts
        · subst e2
          show v1.ownBlock ≠ _
          rw [ho1]; simpa using hne
        · have e3 : r2 ≠ .stops := fun e => hne9 e.symm
          simp only [MkV.withSS, e3, e2, if_false]
          exact fresh2 r2 h2 e3
      · simp only [MkV.withSS, e1, e1', if_false] at hc
        by_cases e2 : r2 = .starts
        · subst e2
          show v1.ownBlock ≠ _
          rw [ho1]
          exact fun e => fresh1 r1 h1 e1 (by rw [hc, e])
        · by_cases e3 : r2 = .stops
          · subst e3
            show v2.ownBlock ≠ _
            rw [ho2]
            exact fun e => fresh2 r1 h1 e1' (by rw [hc, e])
          · simp only [MkV.withSS, e2, e3, if_false]
            exact h.iinj r1 r2 h1 h2 hne9 hff c hc
  · have e1 : k ≠ E.mb := fun e => hn (.inl e)
    rw [put_heap (a := ⟨E.mb, 9, none⟩) (fun e => e1 e.symm), put_heap (a := ⟨E.mb, 8, none⟩) (fun e => e1 e.symm)]
    exact hb.block k hk fun hx => hn (hx.elim (fun hx => .inr (.inr (.inr (.inl ⟨.starts, trivial, hx⟩)))) (fun hx => .inr (.inr (.inr (.inl ⟨.stops, trivial, hx⟩)))))
  · cases r <;> first | rfl | cases hr
end Go.Proofs.YtiiffcmojkdlaaaGreatDoor
