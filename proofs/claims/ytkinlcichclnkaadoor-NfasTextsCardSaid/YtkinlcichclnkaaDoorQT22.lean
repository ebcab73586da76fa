/- Rows of ranges: clone and clip (as in SaFp). -/
import Derived.Lib.SliceRun
import Derived.Lib.Walk
import Derived.Test.YtkinlcichclnkaaDoorQT19
namespace Go.Proofs.YtkinlcichclnkaaDoor
open Go.RowKit

theorem fmap_len {α β : Type} (f : α → List β) (k : Nat) (hk : ∀ x, (f x).length = k) : ∀ l : List α, (l.flatMap f).length = l.length * k
  | [] => by simp
  | x :: l => by rw [List.flatMap_cons, List.length_append, hk, fmap_len f k hk l, List.length_cons, Nat.succ_mul]; omega
theorem fmap_get {α β : Type} (f : α → List β) (k : Nat) (hk : ∀ x, (f x).length = k) : ∀ (l : List α) (i j : Nat), j < k → (l.flatMap f)[i * k + j]? = (l[i]?).bind fun x => (f x)[j]?
  | [], i, j, _ => by simp
  | x :: l, 0, j, hj => by
    rw [List.flatMap_cons, Nat.zero_mul, Nat.zero_add, List.getElem?_append_left (by rw [hk]; exact hj)]
    simp
  | x :: l, i + 1, j, hj => by
    rw [List.flatMap_cons, List.getElem?_append_right (by rw [hk, Nat.succ_mul]; omega), hk, show (i + 1) * k + j - k = i * k + j by rw [Nat.succ_mul]; omega, fmap_get f k hk l i j hj]
    simp
theorem fmap_cut {α β : Type} (f : α → List β) (k : Nat) (hk : ∀ x, (f x).length = k) (l : List α) {p : Nat} {u : β} (h : (l.flatMap f)[p]? = some u) : ∃ i j x, p = i * k + j ∧ j < k ∧ l[i]? = some x ∧ (f x)[j]? = some u := by
  have hlt := (List.getElem?_eq_some_iff.1 h).1
  rw [fmap_len f k hk] at hlt
  have hk0 : 0 < k := by
    rcases Nat.eq_zero_or_pos k with e | e
    · subst e; omega
    · exact e
  have e : p = p / k * k + p % k := by rw [Nat.mul_comm]; exact (Nat.div_add_mod p k).symm
  have hm := Nat.mod_lt p hk0
  rw [e, fmap_get f k hk l _ _ hm] at h
  cases hx : l[p / k]? with
  | none => rw [hx] at h; cases h
  | some x => rw [hx] at h; exact ⟨_, _, x, e, hm, hx, h⟩

def CellsIn (W : World) (lim : Nat) (a : Addr) (cs : List Value) : Prop := ∀ j u, cs[j]? = some u → a.block < lim ∧ W.cell? (a.add j) = some u
def Cloned (W : World) (e : TypeId) (size n : Nat) (cs : List Value) (r : Ending) (W' : World) : Prop := ∃ v', r = .returned v' ∧ looseRow W' W.heap.size e size v' n cs ∧ Grew W W'
theorem rgF_len (x : Int × Int) : (rgF x).length = 2 := rfl
theorem rgVs_len (l : List (Int × Int)) : (rgVs l).length = l.length * 2 := fmap_len _ _ rgF_len l
theorem rgVs_one (l : List (Int × Int)) : ∀ u ∈ rgVs l, u.oneCell' = true := by
  intro u hu
  obtain ⟨e, _, he⟩ := List.mem_flatMap.1 hu
  simp only [rgF, List.mem_cons, List.not_mem_nil, or_false] at he
  rcases he with rfl | rfl <;> rfl
theorem RangesAt.getS {W : World} {lim : Nat} {a : Option Addr} : ∀ {l : List (Int × Int)} {i k : Nat} (_ : RangesAt W lim a i l) (hk : k < l.length),
    ∃ b off, a = some ⟨b, off, none⟩ ∧ b < lim ∧ W.cell? ⟨b, off + (i + k) * 2, none⟩ = some (.int .i32 l[k].1) ∧ W.cell? ⟨b, off + (i + k) * 2 + 1, none⟩ = some (.int .i32 l[k].2)
  | [], _, _, _, hk => absurd hk (by simp)
  | n :: r, i, 0, h, _ => by rw [RangesAt] at h; simpa using h.1
  | n :: r, i, k + 1, h, hk => by
    rw [RangesAt] at h
    obtain ⟨b, off, h1, h2, h3⟩ := RangesAt.getS (k := k) h.2 (by simpa using hk)
    refine ⟨b, off, h1, h2, ?_⟩
    have e : i + 1 + k = i + (k + 1) := by omega
    rw [e] at h3
    simpa using h3
theorem cellsIn_rg {W : World} {lim : Nat} {l : List (Int × Int)} {ad : Addr} (h : RangesAt W lim (some ad) 0 l) : CellsIn W lim ad (rgVs l) := by
  intro p u hp
  obtain ⟨i, j, x, rfl, hj, hx, hu⟩ := fmap_cut _ _ rgF_len l hp
  obtain ⟨hlt, rfl⟩ := List.getElem?_eq_some_iff.1 hx
  obtain ⟨b, off, e, h1, h2, h3⟩ := h.getS hlt
  obtain rfl := Option.some.inj e
  rw [Nat.zero_add] at h2 h3
  refine ⟨h1, ?_⟩
  rw [padd_off]
  match j, hj with
  | 0, _ => simp only [rgF, List.getElem?_cons_zero, Option.some.injEq] at hu; subst hu; exact h2
  | 1, _ => simp only [rgF, List.getElem?_cons_succ, List.getElem?_cons_zero, Option.some.injEq] at hu; subst hu; rw [← Nat.add_assoc]; exact h3
theorem info_range : (Tryd.prog.info? 58).map (fun i => (i.zero, i.size, i.bytes)) = some (some (.agg #[.int .i32 0, .int .i32 0]), 2, 8) := by kernel_rfl
set_option maxHeartbeats 2000000 in
set_option maxRecDepth 20000 in
theorem cloneRg_cells (n c : Nat) (cs : List Value) (hl : cs.length = n * 2) (h1 : ∀ u ∈ cs, u.oneCell' = true) (hn : n ≤ 1048576) (W : World) (a : Addr) (hc : CellsIn W W.heap.size a cs) :
    Calls Tryd.prog 53 #[.slice (some a) n c] W (Cloned W 58 2 n cs) := by
  obtain ⟨i0, hi, hz0, hz1, hz2⟩ := info_parts info_range
  have q : ∀ (w : World) (a : Option Addr) (n c n' c' : Nat), (binOp .eql 31 (.slice a n c) (.slice none n' c')).run Tryd.prog w = .ok (.bool a.isNone) w := fun w a n c n' c' => Lib.run_eql_slice_nil w _ _ a n c n' c' Tryd.underlying31
  have HCS := Lib.hid hc
  have HL := Lib.hid hl
  have H1 := Lib.hid h1
  clear hc hl h1
  go_enter Tryd.func53, Tryd.ntmps53
  go_wp2_with (at_builtin; refine wpList_append_own _ rfl _ _ 31 rfl W.heap.size 58 i0 (.agg #[.int .i32 0, .int .i32 0]) 2 8 Tryd.underlying31 hi hz0 hz1 hz2 rfl (by decide) _ _ _ rfl (World.ownsRow_made W #[] 0 (Nat.le_refl _) (Nat.zero_le _) rfl) a n c cs rfl ?qc1 ?qc2 ?qc3 ?qc4 ?qc5 ?qc6 ?_)
  case qc1 => exact HL.out
  case qc2 =>
    intro j u hj
    exact Lib.cell?_alloc_some _ (HCS.out j u hj).2
  case qc3 => exact H1.out
  case qc4 => unfold maxLen; omega
  case qc5 => omega
  case qc6 => simp
  intro v' w1 hown hgrow hnil
  go_wp2_with fail
  go_ret
  refine ⟨v', rfl, looseRow_of (by simpa using hown), ?_⟩
  exact ((Below.refl _ W).alloc (Nat.le_refl _) _).grown hgrow (by simp) (by intro k hk; simp [Value.ownBlock] at hk; omega)
theorem cloneRg_nil (n c : Nat) (W : World) : Calls Tryd.prog 53 #[.slice none n c] W fun e W' => e = .returned (.slice none 0 0) ∧ W' = W := by
  have q : ∀ (w : World) (a : Option Addr) (n c n' c' : Nat), (binOp .eql 31 (.slice a n c) (.slice none n' c')).run Tryd.prog w = .ok (.bool a.isNone) w := fun w a n c n' c' => Lib.run_eql_slice_nil w _ _ a n c n' c' Tryd.underlying31
  go_enter Tryd.func53, Tryd.ntmps53
  go_wp2
  go_ret
  exact ⟨rfl, rfl⟩
theorem cloneRg_ok (l : List (Int × Int)) (W : World) (a : Option Addr) (c : Nat) (hl : l.length ≤ 1000000) (hA : RangesAt W W.heap.size a 0 l) : Calls Tryd.prog 53 #[.slice a l.length c] W (Cloned W 58 2 l.length (rgVs l)) := by
  cases a with
  | none =>
    have hz : l = [] := by
      cases l with
      | nil => rfl
      | cons x r => obtain ⟨⟨b, o, e, -⟩, -⟩ := hA; cases e
    subst hz
    refine (cloneRg_nil _ _ W).mono ?_
    rintro e W' ⟨rfl, rfl⟩
    exact ⟨_, rfl, ⟨rfl, .inl ⟨rfl, rfl⟩⟩, Grew.refl _⟩
  | some ad => exact cloneRg_cells _ _ _ (rgVs_len l) (rgVs_one l) (by omega) W ad (cellsIn_rg hA)
theorem clipRg_ok (W : World) (base n : Nat) (v : Value) (us : List Value) (h : looseRow W base 58 2 v n us) :
    Calls Tryd.prog 52 #[v] W fun e W' => (∃ u, e = .returned u ∧ looseRow W base 58 2 u n us ∧ u.ownBlock = v.ownBlock) ∧ W = W' := by
  rcases h.2 with ⟨rfl, rfl⟩ | ⟨b, cap, cur, rfl, h1, h2, h3, h4, h5, h6⟩
  · have HL := Lib.hid h
    clear h
    go_enter Tryd.func52, Tryd.ntmps52
    go_wp2
    go_ret
    exact ⟨⟨_, rfl, HL.out, rfl⟩, rfl⟩
  · have HL : Hid (looseRow W base 58 2 (.slice (some ⟨b, 0, none⟩) n n) n us) := ⟨h.1, .inr ⟨b, _, cur, rfl, h1, h2, Nat.le_refl _, Nat.le_trans h3 h4, Nat.le_trans (Nat.mul_le_mul_right _ h3) h5, h6⟩⟩
    unfold maxLen at h4
    clear h h2 h5 h6
    go_enter Tryd.func52, Tryd.ntmps52
    go_wp2
    go_ret
    exact ⟨⟨_, rfl, HL.out, rfl⟩, rfl⟩
end Go.Proofs.YtkinlcichclnkaaDoor
