/- An append in a region that draws its order (as GApp, by HavJ). -/
import Derived.Test.YtkinlcichclnkaaDoorQT25
import Derived.Test.YtkinlcichclnkaaDoorQT4
import Derived.Test.YtkinlcichclnkaaDoorQT24
import Derived.Test.YtkinlcichclnkaaDoorQT22
import Derived.Test.YtkinlcichclnkaaDoorQT30
import Derived.Test.YtkinlcichclnkaaDoorQT34
namespace Go.Proofs.YtkinlcichclnkaaDoor
open Go.RowKit

/-- all stays, but for one block, that may come to hold N -/
structure Once (F : Option Nat) (N : Obj) (w w' : World) : Prop where
  but : But (fun b => F = some b) w w'
  row : ∀ b, F = some b → w'.heap[b]? = w.heap[b]? ∨ w'.heap[b]? = some N
theorem Once.rel (F : Option Nat) (N : Obj) : Rel (Once F N) where
  refl w := ⟨But.refl _ w, fun _ _ => .inl rfl⟩
  trans h k := ⟨h.but.trans k.but fun _ _ h => h, fun b hb => by
    rcases k.row b hb with h1 | h1
    · rw [h1]; exact h.row b hb
    · exact .inr h1⟩
  drew w := ⟨⟨rfl, rfl, rfl, Nat.le_refl _, fun _ _ _ => rfl⟩, fun _ _ => .inl rfl⟩
section
variable {F : Option Nat} {N : Obj} {w w' : World}
theorem Once.grew (h : Grew w w') (hF : ∀ b, F = some b → b < w.heap.size) : Once F N w w' := ⟨But.of_grew h, fun b hb => .inl (h.block b (hF b hb))⟩
theorem Once.cell (h : Once F N w w') {a : Addr} {v : Value} (hc : w.cell? a = some v) (hn : F ≠ some a.block) : w'.cell? a = some v := by
  have hlt : a.block < w.heap.size := by
    rcases Nat.lt_or_ge a.block w.heap.size with hl | hl
    · exact hl
    · simp [World.cell?, Array.getElem?_eq_none hl] at hc
  rw [World.cell?_of_block (h.but.block _ hlt hn)]
  exact hc
theorem Once.owns (h : Once F N w w') {b T : Nat} {cs : List Value} (hc : Owns w b cs T) (hn : F ≠ some b) : Owns w' b cs T := h.but.owns hc hn
theorem Once.size (h : Once F N w w') : w.heap.size ≤ w'.heap.size := h.but.size
theorem loose_same {base e size n g n' cap : Nat} {xs : List Value} (h : looseRow w base e size (.slice (some ⟨g, 0, none⟩) n cap) n' xs) (hh : w'.heap[g]? = w.heap[g]?) : looseRow w' base e size (.slice (some ⟨g, 0, none⟩) n cap) n' xs := by
  refine ⟨h.1, h.2.imp id ?_⟩
  rintro ⟨b, cap', cur, h1, h2, h3, h4⟩
  have hb : b = g := by cases h1; rfl
  subst hb
  exact ⟨b, cap', cur, h1, h2, hh.trans h3, h4⟩

/-- what the append gives -/
def AppR (F : Option Nat) (N : Obj) (S base e size n : Nat) (xs : List Value) (v : Value) (w : World) : Prop :=
  ∃ g cap, v = .slice (some ⟨g, 0, none⟩) n cap ∧ looseRow w base e size v n xs ∧ g < w.heap.size ∧ ((F = some g ∧ w.heap[g]? = some N) ∨ (F = none ∧ S ≤ g))
theorem AppR.keep {S base e size n : Nat} {xs : List Value} {v : Value} (h : Once F N w w') (hr : AppR F N S base e size n xs v w) : AppR F N S base e size n xs v w' := by
  obtain ⟨g, cap, rfl, h1, h2, h3⟩ := hr
  rcases h3 with ⟨hF, h4⟩ | ⟨hF, h4⟩
  · have hh : w'.heap[g]? = some N := by
      rcases h.row g hF with h5 | h5
      · rw [h5]; exact h4
      · exact h5
    exact ⟨g, cap, rfl, loose_same h1 (hh.trans h4.symm), Nat.lt_of_lt_of_le h2 h.size, .inl ⟨hF, hh⟩⟩
  · exact ⟨g, cap, rfl, loose_same h1 (h.but.block g h2 (by rw [hF]; simp)), Nat.lt_of_lt_of_le h2 h.size, .inr ⟨hF, h4⟩⟩
end

theorem put_again0 (A news D : List Value) : (A ++ news ++ D).take A.length ++ news ++ (A ++ news ++ D).drop (A.length + news.length) = A ++ news ++ D := by
  rw [show A.length + news.length = (A ++ news).length by simp, List.drop_left, List.append_assoc A news D, List.take_left, List.append_assoc]
theorem put_again (cur : List Value) (news : List Value) (k : Nat) (hk : k + news.length ≤ cur.length) :
    (cur.take k ++ news ++ cur.drop (k + news.length)).take k ++ news ++ (cur.take k ++ news ++ cur.drop (k + news.length)).drop (k + news.length) = cur.take k ++ news ++ cur.drop (k + news.length) := by
  have h1 : (cur.take k).length = k := by rw [List.length_take]; omega
  have := put_again0 (cur.take k) news (cur.drop (k + news.length))
  rw [h1] at this
  exact this

theorem append_once {P : Program} (w0 : World) (t ty : TypeId) (base : Nat) (e : TypeId) (i : TypeInfo) (z : Value) (size bytes : Nat) (ht : P.underlying t = some (.slice e)) (hi : P.info? e = some i) (hz : i.zero = some z)
    (hsize : i.size = size) (hby : i.bytes = bytes) (hzs : z.cells.size = size)
    (v : Value) (n : Nat) (xs : List Value) (hown : looseRow w0 base e size v n xs)
    (m : Nat) (news : List Value) (hl : news.length = m * size) (h1 : ∀ u ∈ news, u.oneCell' = true)
    (hm : 0 < m) (h63 : n + m ≤ maxLen) (hbytes : (n + m) * bytes ≤ 140737488355328) (hbase : base ≤ w0.heap.size) :
    ∃ F N, (∀ b, F = some b → v.ownBlock = some b ∧ b < w0.heap.size) ∧ ∀ w ad c, Once F N w0 w → (∀ j u, news[j]? = some u → w.cell? (ad.add j) = some u) →
      ∃ r w', (Builtin.append_ #[t, t] ty #[v, .slice (some ad) m c]).run P w = .ok r w' ∧ Once F N w w' ∧ AppR F N w0.heap.size base e size (n + m) (xs ++ news) r w' := by
  subst hsize
  subst hby
  have hsmall : n + m ≤ 9223372036854775807 := by simp only [maxLen] at h63; omega
  have hlen : (xs ++ news).length = (n + m) * i.size := by rw [List.length_append, hown.1, hl, Nat.add_mul]
  have grown : ∀ (w : World), base ≤ w.heap.size → w0.heap.size ≤ w.heap.size → ∀ (old : Nat), old < n + m → ∀ N,
      Once none N w (w.drew.alloc (.cells (xs.toArray ++ news.toArray ++ Builtin.zeroCells z.cells (grownCap w (n + m) old e - (n + m))) e)) ∧
      AppR none N w0.heap.size base e i.size (n + m) (xs ++ news) (.slice (some ⟨w.heap.size, 0, none⟩) (n + m) (grownCap w (n + m) old e)) (w.drew.alloc (.cells (xs.toArray ++ news.toArray ++ Builtin.zeroCells z.cells (grownCap w (n + m) old e - (n + m))) e)) := by
    intro w hbw hw0 old ho N
    have hge := grownCap_ge w (n + m) old e
    have hcm : grownCap w (n + m) old e ≤ maxLen := grownCap_le_maxLen w (n + m) old e h63
    refine ⟨⟨⟨rfl, rfl, rfl, by simp, fun k hk _ => (Below.refl _ w.drew).alloc (Nat.le_refl _) _ |>.block k hk⟩, fun b hb => by cases hb⟩, w.heap.size, _, rfl, ⟨hlen, .inr ⟨w.heap.size, _, _, rfl, hbw, heap_alloc_new w.drew _, hge, hcm, ?_, ?_⟩⟩, by simp, .inr ⟨rfl, hw0⟩⟩
    · apply Nat.le_of_eq
      simp only [Array.size_append, List.size_toArray, size_zeroCells, hzs, hown.1, hl, ← Nat.add_mul]
      congr 1
      omega
    · simp only [Array.toList_append, List.append_assoc]
      rw [← List.append_assoc, ← hlen]
      exact List.take_left
  rcases hown.2 with ⟨rfl, rfl⟩ | ⟨g, cap, cur, rfl, hbg, hg, hnc, hcm, hcs, htake⟩
  · have hx : xs = [] := List.eq_nil_of_length_eq_zero (by simpa using hown.1)
    subst hx
    refine ⟨none, .cells #[] 0 (0, 0), fun b hb => (by cases hb), fun w ad c hw hnews => ?_⟩
    have hr := run_append_nil (P := P) w t ty e i z ht hi hz ad m c news hl hnews (by omega) (by omega) (by have hb := hbytes; simp only [Nat.zero_add] at hb; omega)
    have hgr := grown w (Nat.le_trans hbase hw.size) hw.size 0 (by omega) (.cells #[] 0 (0, 0))
    simp only [Nat.zero_add, List.nil_append, Array.empty_append] at hgr ⊢
    exact ⟨_, _, hr, hgr⟩
  · have hlt := (Array.getElem?_eq_some_iff.1 hg).1
    by_cases hroom : n + m ≤ cap
    · have hfit : n * i.size + news.length ≤ cur.size := by
        rw [hl, ← Nat.add_mul]
        exact Nat.le_trans (Nat.mul_le_mul_right _ hroom) hcs
      obtain ⟨nc, hnc9⟩ : ∃ nc, cur.toList.take (n * i.size) ++ news ++ cur.toList.drop (n * i.size + news.length) = nc := ⟨_, rfl⟩
      have hagain := put_again cur.toList news (n * i.size) (by simpa using hfit)
      have hncl : nc.length = cur.size := by
        rw [← hnc9]
        simp only [List.length_append, List.length_take, List.length_drop, Array.length_toList]
        omega
      have hnct : nc.take ((n + m) * i.size) = xs ++ news := by
        rw [← hnc9, htake, ← hlen]
        exact List.take_left
      rw [hnc9] at hagain
      refine ⟨some g, .cells nc.toArray e (0, 0), fun b hb => (by cases hb; exact ⟨rfl, hlt⟩), fun w ad c hw hnews => ?_⟩
      have fin : ∀ c9 : Array Value, w.heap[g]? = some (.cells c9 e (0, 0)) → c9.toList.take (n * i.size) ++ news ++ c9.toList.drop (n * i.size + news.length) = nc → n * i.size + news.length ≤ c9.size →
          ∃ r w', (Builtin.append_ #[t, t] ty #[.slice (some ⟨g, 0, none⟩) n cap, .slice (some ad) m c]).run P w = .ok r w' ∧ Once (some g) (.cells nc.toArray e (0, 0)) w w' ∧ AppR (some g) (.cells nc.toArray e (0, 0)) w0.heap.size base e i.size (n + m) (xs ++ news) r w' := by
        intro c9 hg9 he9 hf9
        have hr := run_append_room (P := P) w t ty e i ht hi g n cap c9 hg9 ad m c news hl hnews h1 hroom hf9
        rw [he9] at hr
        have hh := setRow_heap w g c9 nc.toArray e _ hg9
        refine ⟨_, _, hr, ⟨⟨rfl, rfl, rfl, by simp, fun k _ hk => setRow_other w g k _ (fun e => hk (by rw [e]))⟩, fun b hb => by cases hb; exact .inr hh⟩, g, cap, rfl, ⟨hlen, .inr ⟨g, cap, _, rfl, hbg, hh, hroom, hcm, ?_, ?_⟩⟩, ?_, .inl ⟨rfl, hh⟩⟩
        · simp only [List.size_toArray, hncl]; exact hcs
        · exact hnct
        · have := hw.size; simp; omega
      rcases hw.row g rfl with h9 | h9
      · exact fin cur (h9.trans hg) hnc9 hfit
      · exact fin nc.toArray h9 hagain (by simp only [List.size_toArray, hncl]; exact hfit)
    · refine ⟨none, .cells #[] 0 (0, 0), fun b hb => (by cases hb), fun w ad c hw hnews => ?_⟩
      have hgw : w.heap[g]? = some (.cells cur e (0, 0)) := (hw.but.block g hlt (by simp)).trans hg
      have hownw : looseRow w base e i.size (.slice (some ⟨g, 0, none⟩) n cap) n xs := loose_same hown (hgw.trans hg.symm)
      have holds : ∀ j u, xs[j]? = some u → w.cell? ((⟨g, 0, none⟩ : Addr).add j) = some u := fun j u hj => by
        have := looseRow_cells hownw (g := g) rfl j u hj
        rw [show (⟨g, 0, none⟩ : Addr).add j = ⟨g, j, none⟩ by unfold Addr.add; split <;> simp_all]
        exact this
      have hr := run_append_grow (P := P) w t ty e i z ht hi hz ⟨g, 0, none⟩ n cap xs hown.1 holds ad m c news hl hnews (by omega) (by omega) (growslice_fits (by omega) hbytes)
      exact ⟨_, _, hr, grown w (Nat.le_trans hbase hw.size) hw.size cap (by omega) _⟩
end Go.Proofs.YtkinlcichclnkaaDoor

/- A row of places, clipped. -/
namespace Go.Proofs.YtkinlcichclnkaaDoor
open Go.RowKit

set_option maxHeartbeats 2000000 in
set_option maxRecDepth 20000 in
theorem clipPl_ok (W : World) (base n : Nat) (v : Value) (us : List Value) (h : looseRow W base 48 4 v n us) :
    Calls Tryd.prog 21 #[v] W fun e W' => (∃ u, e = .returned u ∧ looseRow W base 48 4 u n us ∧ u.ownBlock = v.ownBlock) ∧ W = W' := by
  rcases h.2 with ⟨rfl, rfl⟩ | ⟨b, cap, cur, rfl, h1, h2, h3, h4, h5, h6⟩
  · have HL := Lib.hid h
    clear h
    go_enter Tryd.func21, Tryd.ntmps21
    go_wp2
    go_ret
    exact ⟨⟨_, rfl, HL.out, rfl⟩, rfl⟩
  · have HL : Hid (looseRow W base 48 4 (.slice (some ⟨b, 0, none⟩) n n) n us) := ⟨h.1, .inr ⟨b, _, cur, rfl, h1, h2, Nat.le_refl _, Nat.le_trans h3 h4, Nat.le_trans (Nat.mul_le_mul_right _ h3) h5, h6⟩⟩
    unfold maxLen at h4
    clear h h2 h5 h6
    go_enter Tryd.func21, Tryd.ntmps21
    go_wp2
    go_ret
    exact ⟨⟨_, rfl, HL.out, rfl⟩, rfl⟩
end Go.Proofs.YtkinlcichclnkaaDoor

/- Build: what is copied, as it lies. -/
namespace Go.Proofs.YtkinlcichclnkaaDoor
open Go.RowKit

theorem loose_setN {w : World} {base e size n g i : Nat} {v x : Value} {xs : List Value} (h : looseRow w base e size v n xs) (hv : v.ownBlock = some g) : looseRow (w.setCell ⟨g, i, none⟩ x) base e size v n (xs.set i x) := by
  rcases h.2 with ⟨h1, h2⟩ | ⟨b, cap, cur, h1, h2, h3, h4, h5, h6, h7⟩
  · rw [h1] at hv; simp [Value.ownBlock] at hv
  · rw [h1] at hv
    simp only [Value.ownBlock, Option.some.injEq] at hv
    subst hv
    refine ⟨by rw [List.length_set]; exact h.1, .inr ⟨b, cap, cur.setIfInBounds i x, h1, h2, ?_, h4, h5, by simpa using h6, ?_⟩⟩
    · simp [World.setCell, Array.getElem?_modify, h3]
    · rw [← h7]
      simp only [Array.toList_setIfInBounds]
      rw [List.take_set]
/-- the number of the token is written -/
theorem NBAt.kinded {W : World} {lim : Nat} {g0 g1 g2 g3 : Value} {kind : Int} {V : NBV} {b : NB} (h : NBAt W lim g0 g1 g2 g3 kind V b) (k' : Int) : NBAt (W.setCell ⟨V.bb, 4, none⟩ (.int .i64 k')) lim g0 g1 g2 g3 k' V b ∧ KpF lim W (W.setCell ⟨V.bb, 4, none⟩ (.int .i64 k')) := by
  have hb : But (fun k => k = V.bb) W (W.setCell ⟨V.bb, 4, none⟩ (.int .i64 k')) := set_but h.box
  have ho := h.box.set 4 (.int .i64 k')
  exact ⟨⟨Nat.le_trans h.low hb.size, h.blo, ho, hb.row h.out fun k hk e => row_owns_ne h.out h.box (by decide) k hk e, fun i hi => ⟨(h.made i hi).1, hb.owns (h.made i hi).2 (owns_ne (h.made i hi).2 h.box (by decide))⟩, fun i hi => hb.row (h.set i hi) fun k hk e => row_owns_ne (h.set i hi) h.box (by decide) k hk e, h.inj⟩, KpF.bld hb h.low h.blo h.box (.inl rfl)⟩
/-- places' sets, lists of what follows (of the first m), the places themselves (from m on) -/
structure CpB (W : World) (lim : Nat) (V : NBV) (b : NB) (m : Nat) (fl : Nat → Value) : Prop where
  low : lim ≤ W.heap.size
  ptr : looseRow W lim 74 1 V.ov b.out.length (ptrsN V b.out.length)
  made : ∀ i (h : i < b.out.length), m ≤ i → lim ≤ V.mb i ∧ Owns W (V.mb i) (madeL b.out[i] (V.sv i)) 76
  set : ∀ i (h : i < b.out.length), looseRow W lim 58 2 (V.sv i) b.out[i].set.length (rgVs b.out[i].set)
  fol : ∀ i (h : i < b.out.length), i < m → looseRow W lim 3 1 (fl i) (placesL b.out[i].fol).length (intVs (placesL b.out[i].fol))
  inj : ∀ i j, i < b.out.length → j < b.out.length → V.mb i = V.mb j → i = j
def CpT (T : Nat) : Prop := T ≠ 74 ∧ T ≠ 76 ∧ T ≠ 58 ∧ T ≠ 3
theorem CpB.of {W : World} {lim : Nat} {g0 g1 g2 g3 : Value} {kind : Int} {V : NBV} {b : NB} (h : NBAt W lim g0 g1 g2 g3 kind V b) (fl : Nat → Value) : CpB W lim V b 0 fl :=
  ⟨h.low, h.out, fun i hi _ => h.made i hi, h.set, fun _ _ h => absurd h (by omega), h.inj⟩
section
variable {W W' : World} {lim : Nat} {V : NBV} {b : NB} {m : Nat} {fl : Nat → Value}
theorem CpB.keep (h : CpB W lim V b m fl) {F : Nat → Prop} (hb : But F W W') (hF : ∀ k, F k → ∃ cs T, W.heap[k]? = some (.cells cs T (0, 0)) ∧ CpT T) : CpB W' lim V b m fl := by
  have rw' : ∀ {e s n : Nat} {v : Value} {xs : List Value}, looseRow W lim e s v n xs → (∀ T, CpT T → e ≠ T) → looseRow W' lim e s v n xs := fun {e s n v xs} hr hT => hb.row hr fun k hk hf => by
    obtain ⟨cs, T, h1, h2⟩ := hF k hf
    obtain ⟨_, _, cur, h3⟩ := row_type hr hk
    rw [h1] at h3
    simp only [Option.some.injEq, Obj.cells.injEq] at h3
    exact hT T h2 h3.2.1.symm
  refine ⟨Nat.le_trans h.low hb.size, rw' h.ptr fun T ht => ht.1.symm, fun i hi hm => ⟨(h.made i hi hm).1, hb.owns (h.made i hi hm).2 fun hf => ?_⟩, fun i hi => rw' (h.set i hi) fun T ht => ht.2.2.1.symm, fun i hi hm => rw' (h.fol i hi hm) fun T ht => ht.2.2.2.symm, h.inj⟩
  obtain ⟨cs, T, h1, h2⟩ := hF _ hf
  have h3 := (h.made i hi hm).2
  unfold Owns at h3
  rw [h1] at h3
  simp only [Option.some.injEq, Obj.cells.injEq] at h3
  exact h2.2.1 h3.2.1
theorem CpB.grew (h : CpB W lim V b m fl) (hg : Grew W W') : CpB W' lim V b m fl := h.keep (But.of_grew (F := fun _ => False) hg) fun _ h => h.elim
/-- what may follow a place is listed -/
theorem CpB.list (h : CpB W lim V b m fl) (hm : m < b.out.length) {v : Value} (hv : looseRow W lim 3 1 v (placesL b.out[m].fol).length (intVs (placesL b.out[m].fol))) :
    CpB (W.setCell ⟨V.mb m, 3, none⟩ v) lim V b (m + 1) (fun i => if i = m then v else fl i) ∧ Owns (W.setCell ⟨V.mb m, 3, none⟩ v) (V.mb m) ([V.sv m, .int .i64 b.out[m].kind, .bool false, v] ++ wdL b.out[m].fol) 76 ∧ But (fun k => k = V.mb m) W (W.setCell ⟨V.mb m, 3, none⟩ v) ∧ lim ≤ V.mb m := by
  obtain ⟨hlo, ho⟩ := h.made m hm (Nat.le_refl _)
  have hb : But (fun k => k = V.mb m) W (W.setCell ⟨V.mb m, 3, none⟩ v) := set_but ho
  have rw' : ∀ {e s n : Nat} {v' : Value} {xs : List Value}, looseRow W lim e s v' n xs → e ≠ 76 → looseRow (W.setCell ⟨V.mb m, 3, none⟩ v) lim e s v' n xs := fun hr hT => hb.row hr fun k hk e => row_owns_ne hr ho hT k hk e
  refine ⟨⟨Nat.le_trans h.low hb.size, rw' h.ptr (by decide), fun i hi him => ⟨(h.made i hi (by omega)).1, hb.owns (h.made i hi (by omega)).2 fun e => ?_⟩, fun i hi => rw' (h.set i hi) (by decide), fun i hi him => ?_, h.inj⟩, ho.set 3 v, hb, hlo⟩
  · have := h.inj i m hi hm e
    omega
  · by_cases e : i = m
    · subst e
      rw [if_pos rfl]
      exact rw' hv (by decide)
    · rw [if_neg e]
      exact rw' (h.fol i hi (by omega)) (by decide)
end
/-- places' cells, one more -/
theorem plVs_snoc (sv fl : Nat → Value) (ls : Nat → Bool) (out : List NPl) {m : Nat} (hm : m < out.length) {v : Value} (hl : ls m = false) : plVs sv (fun i => if i = m then v else fl i) ls out (m + 1) = plVs sv fl ls out m ++ [sv m, .int .i64 out[m].kind, .bool false, v] := by
  unfold plVs
  rw [List.range_succ, List.flatMap_append, List.flatMap_singleton]
  congr 1
  · rw [List.flatMap_def, List.flatMap_def]
    congr 1
    refine List.map_congr_left fun i hi => ?_
    have : i ≠ m := by have := List.mem_range.1 hi; omega
    simp only [plF, if_neg this]
  · simp only [plF, if_pos, List.getElem?_eq_getElem hm, hl, Option.elim_some]
theorem plVs_len (sv fl : Nat → Value) (ls : Nat → Bool) (out : List NPl) (n : Nat) : (plVs sv fl ls out n).length = n * 4 := by
  unfold plVs
  rw [fmap_len _ 4 (plF_len sv fl ls out), List.length_range]
theorem plVs_get (sv fl : Nat → Value) (ls : Nat → Bool) (out : List NPl) {n i : Nat} (hi : i < n) {k : Nat} (hk : k < 4) : (plVs sv fl ls out n)[i * 4 + k]? = (plF sv fl ls out i)[k]? := by
  unfold plVs
  rw [fmap_get _ 4 (plF_len sv fl ls out) _ _ _ hk, List.getElem?_range hi]
  rfl
/-- a place becomes a last one -/
theorem plVs_last (sv fl : Nat → Value) (ls : Nat → Bool) (out : List NPl) {n p : Nat} (hp : p < n) : (plVs sv fl ls out n).set (p * 4 + 2) (.bool true) = plVs sv fl (fun i => i == p || ls i) out n := by
  apply List.ext_getElem?
  intro q
  by_cases hq : q < n * 4
  · have e : q = q / 4 * 4 + q % 4 := by omega
    have h4 : q % 4 < 4 := by omega
    have hqn : q / 4 < n := by omega
    rw [List.getElem?_set]
    by_cases e2 : p * 4 + 2 = q
    · rw [if_pos e2, if_pos (by rw [plVs_len]; omega)]
      rw [← e2, plVs_get sv fl _ out hp (by omega)]
      simp [plF]
    · rw [if_neg e2, e, plVs_get sv fl _ out hqn h4, plVs_get sv fl _ out hqn h4]
      generalize hi : q / 4 = i at *
      generalize hk : q % 4 = k at *
      unfold plF
      match k, h4 with
      | 0, _ => rfl
      | 1, _ => rfl
      | 3, _ => rfl
      | 2, _ =>
        have : (i == p) = false := beq_eq_false_iff_ne.2 (by omega)
        simp [this]
  · rw [List.getElem?_eq_none (by rw [List.length_set, plVs_len]; omega), List.getElem?_eq_none (by rw [plVs_len]; omega)]
theorem plF_one (sv fl : Nat → Value) (ls : Nat → Bool) (out : List NPl) (i : Nat) (h1 : (sv i).oneCell' = true) (h2 : (fl i).oneCell' = true) : ∀ u ∈ plF sv fl ls out i, u.oneCell' = true := by
  intro u hu
  simp only [plF, List.mem_cons, List.not_mem_nil, or_false] at hu
  rcases hu with rfl | rfl | rfl | rfl
  · exact h1
  · rfl
  · rfl
  · exact h2
/-- an automaton in memory -/
structure AutoAt (W : World) (pv fv : Value) (kinds : Int) (sv fl : Nat → Value) (g : Gr) : Prop where
  row : looseRow W 0 48 4 pv g.made.2.out.length (plVs sv fl g.made.1.2.testBit g.made.2.out g.made.2.out.length)
  set : ∀ i (h : i < g.made.2.out.length), looseRow W 0 58 2 (sv i) g.made.2.out[i].set.length (rgVs g.made.2.out[i].set)
  fol : ∀ i (h : i < g.made.2.out.length), looseRow W 0 3 1 (fl i) (placesL g.made.2.out[i].fol).length (intVs (placesL g.made.2.out[i].fol))
  first : looseRow W 0 3 1 fv (placesL g.made.1.1).length (intVs (placesL g.made.1.1))
  kinds : kinds = ((g.of [1, 3]).length : Int)
theorem AutoAt.grew {W W' : World} {pv fv : Value} {kinds : Int} {sv fl : Nat → Value} {g : Gr} (h : AutoAt W pv fv kinds sv fl g) (hg : Grew W W') : AutoAt W' pv fv kinds sv fl g := by
  have hb := But.of_grew (F := fun _ => False) hg
  exact ⟨hb.row h.row fun _ _ e => e, fun i hi => hb.row (h.set i hi) fun _ _ e => e, fun i hi => hb.row (h.fol i hi) fun _ _ e => e, hb.row h.first fun _ _ e => e, h.kinds⟩
def Gr.Untidy (g : Gr) : Prop := ∃ es M N, g.told es (at2 M) (at2 N) ≠ [] ∧ g.IsEmpty es ∧ IsReach (g.Once es) g.rules.length M ∧ IsReach g.rd0 g.rules.length N
/-- what Build gives -/
def NfBuilt (g : Gr) (W : World) (e : Ending) (W' : World) : Prop := Grew W W' ∧ ∃ pv fv kinds k, e = .returned (.tuple #[.agg #[pv, fv, .int .i64 kinds], .int .i64 k]) ∧
  ((k = 0 ∧ g.Tidy ∧ g.made.2.full = false ∧ ∃ sv fl, AutoAt W' pv fv kinds sv fl g) ∨ (k = 3 ∧ g.Tidy ∧ g.made.2.full = true ∧ pv = .slice none 0 0 ∧ fv = .slice none 0 0 ∧ kinds = 0) ∨ (k = 1 ∧ g.Untidy ∧ pv = .slice none 0 0 ∧ fv = .slice none 0 0 ∧ kinds = 0))
end Go.Proofs.YtkinlcichclnkaaDoor

/- Build: the last places. -/
namespace Go.Proofs.YtkinlcichclnkaaDoor
open Go.RowKit

theorem plVs_congr {sv fl : Nat → Value} {ls ls' : Nat → Bool} {out : List NPl} {n : Nat} (h : ∀ i, i < n → ls i = ls' i) : plVs sv fl ls out n = plVs sv fl ls' out n := by
  unfold plVs
  rw [List.flatMap_def, List.flatMap_def]
  congr 1
  refine List.map_congr_left fun i hi => ?_
  unfold plF
  rw [h i (List.mem_range.1 hi)]
structure LsAt (W : World) (P tb n : Nat) (V : NBV) (b : NB) (fl : Nat → Value) (pv fv : Value) (first : List Int) (kinds : Int) (ls : Nat → Bool) : Prop where
  cp : CpB W P V b n fl
  row : looseRow W P 48 4 pv n (plVs V.sv fl ls b.out n)
  out : Owns W tb [pv, fv, .int .i64 kinds] 42
  res : Owns W (P + 1) [.slice none 0 0, .slice none 0 0, .int .i64 0] 42
  fst : looseRow W P 3 1 fv first.length (intVs first)
section
variable {W W' : World} {P tb n : Nat} {V : NBV} {b : NB} {fl : Nat → Value} {pv fv : Value} {first : List Int} {kinds : Int} {ls : Nat → Bool}
theorem CpB.turn {m : Nat} (h : CpB W P V b m fl) {row : Option Nat} (hg : W.grownBy W' row) (hr : ∀ r, row = some r → ∃ o : Obj, W.heap[r]? = some o ∧ o.isCells = false) : CpB W' P V b m fl :=
  ⟨Nat.le_trans h.low hg.size, loose_turn h.ptr hg hr, fun i hi hm => ⟨(h.made i hi hm).1, owns_turn (h.made i hi hm).2 hg hr⟩, fun i hi => loose_turn (h.set i hi) hg hr, fun i hi hm => loose_turn (h.fol i hi hm) hg hr, h.inj⟩
theorem LsAt.turn (h : LsAt W P tb n V b fl pv fv first kinds ls) {row : Option Nat} (hg : W.grownBy W' row) (hr : ∀ r, row = some r → ∃ o : Obj, W.heap[r]? = some o ∧ o.isCells = false) : LsAt W' P tb n V b fl pv fv first kinds ls :=
  ⟨h.cp.turn hg hr, loose_turn h.row hg hr, owns_turn h.out hg hr, owns_turn h.res hg hr, loose_turn h.fst hg hr⟩
theorem LsAt.grew (h : LsAt W P tb n V b fl pv fv first kinds ls) (hg : Grew W W') : LsAt W' P tb n V b fl pv fv first kinds ls := by
  have hb := But.of_grew (F := fun _ => False) hg
  exact ⟨h.cp.grew hg, hb.row h.row fun _ _ e => e, h.out.keep hg, h.res.keep hg, hb.row h.fst fun _ _ e => e⟩
/-- a place becomes a last one -/
theorem LsAt.last (h : LsAt W P tb n V b fl pv fv first kinds ls) {p g : Nat} (hp : p < n) (hv : pv.ownBlock = some g) :
    LsAt (W.setCell ⟨g, p * 4 + 2, none⟩ (.bool true)) P tb n V b fl pv fv first kinds (fun i => i == p || ls i) ∧ But (fun k => k = g) W (W.setCell ⟨g, p * 4 + 2, none⟩ (.bool true)) ∧ P ≤ g := by
  obtain ⟨hlo, hlt, cur, hc⟩ := row_type h.row hv
  have hb : But (fun k => k = g) W (W.setCell ⟨g, p * 4 + 2, none⟩ (.bool true)) := by
    have ho : Owns W g cur.toList 48 := by unfold Owns; rw [hc]
    exact set_but ho
  have hne : ∀ {c T : Nat} {cs : List Value}, Owns W c cs T → T ≠ 48 → ¬ c = g := fun {c T cs} ho hT e => by
    subst e
    unfold Owns at ho
    rw [hc] at ho
    simp only [Option.some.injEq, Obj.cells.injEq] at ho
    exact hT ho.2.1.symm
  refine ⟨⟨h.cp.keep hb (fun k e => ⟨cur, _, e ▸ hc, by unfold CpT; decide⟩), ?_, hb.owns h.out (hne h.out (by decide)), hb.owns h.res (hne h.res (by decide)), hb.row h.fst fun k hk e => ?_⟩, hb, hlo⟩
  · rw [← plVs_last V.sv fl ls b.out hp]
    exact loose_setN h.row hv
  · obtain ⟨-, -, cur2, h2⟩ := row_type h.fst hk
    rw [e, hc] at h2
    simp only [Option.some.injEq, Obj.cells.injEq] at h2
    exact absurd h2.2.1 (by decide)
theorem LsAt.form (h : LsAt W P tb n V b fl pv fv first kinds ls) (hn : 0 < n) : ∃ g cap cur, pv = .slice (some ⟨g, 0, none⟩) n cap ∧ W.heap[g]? = some (.cells cur 48 (0, 0)) ∧ n * 4 ≤ cur.size := by
  rcases h.row.2 with ⟨_, h0⟩ | ⟨g, cap, cur, h1, h2, h3, h4, h5, h6, h7⟩
  · omega
  · exact ⟨g, cap, cur, h1, h3, by have := Nat.mul_le_mul_right 4 h4; omega⟩
end
def LsInv {a : Nat} (w4 : World) (P tb n : Nat) (V : NBV) (b : NB) (fl : Nat → Value) (pv fv : Value) (first : List Int) (kinds : Int) (pre : List (PlS a)) (W : World) : Prop :=
  LsAt W P tb n V b fl pv fv first kinds (fun i => decide (i ∈ pre.map PlS.p)) ∧ Below P w4 W ∧ P ≤ W.heap.size
theorem ls_from {a : Nat} {w4 w1 : World} {P tb n : Nat} {V : NBV} {b : NB} {fl : Nat → Value} {pv fv : Value} {first : List Int} {kinds : Int} (h1 : P ≤ w1.heap.size) : OwnFrom w1.heap.size (LsInv (a := a) w4 P tb n V b fl pv fv first kinds) := fun _ A B row hs hg hr =>
  ⟨hs.1.turn hg fun r e => (hr r e).2, hs.2.1.grown hg hs.2.2 (fun k e => by have := (hr k e).1; omega), Nat.le_trans hs.2.2 hg.size⟩
theorem wp_state {P : Program} {c : Code} {Q : Exit → Act → World → Prop} {a : Act} {w : World} (h : ∀ a', a' = a → c.wp P Q a' w) : c.wp P Q a w := h a rfl
end Go.Proofs.YtkinlcichclnkaaDoor
