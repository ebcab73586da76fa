/- Rows of rows of integers that a call made; fill, plain. -/
import Derived.Test.YtgegjjfjhpokpaaGreatDoorQ15
import Derived.Test.YtgegjjfjhpokpaaGreatDoorQ16
namespace Go.Proofs.YtgegjjfjhpokpaaGreatDoor
open Go.RowKit

theorem But.grown {F : Nat → Prop} {w w' : World} {row : Option Nat} (h : w.grownBy w' row) (hF : ∀ k, row = some k → F k) : But F w w' :=
  ⟨h.os, h.tape, h.output, h.size, fun k hk hn => h.block k hk fun e => hn (hF k e.symm)⟩
theorem But.row {F : Nat → Prop} {w w' : World} {base : Nat} {e : TypeId} {size : Nat} {v : Value} {n : Nat} {xs : List Value} (h : But F w w') (hr : looseRow w base e size v n xs) (hn : ∀ k, v.ownBlock = some k → ¬F k) : looseRow w' base e size v n xs := by
  refine ⟨hr.1, hr.2.imp id ?_⟩
  rintro ⟨g, cap, cur, rfl, h2, h3, h4⟩
  exact ⟨g, cap, cur, rfl, h2, by rw [h.block g (Array.getElem?_eq_some_iff.1 h3).1 (hn g rfl)]; exact h3, h4⟩
theorem row_type {w : World} {base : Nat} {e : TypeId} {size : Nat} {v : Value} {n : Nat} {xs : List Value} (hr : looseRow w base e size v n xs) {k : Nat} (hk : v.ownBlock = some k) : base ≤ k ∧ k < w.heap.size ∧ ∃ cur, w.heap[k]? = some (.cells cur e (0, 0)) := by
  rcases hr.2 with ⟨rfl, _⟩ | ⟨g, cap, cur, rfl, h2, h3, _⟩
  · simp [Value.ownBlock] at hk
  · simp only [Value.ownBlock, Option.some.injEq] at hk
    subst hk
    exact ⟨h2, (Array.getElem?_eq_some_iff.1 h3).1, cur, h3⟩
theorem owns_type {w : World} {b T : Nat} {cs : List Value} (h : Owns w b cs T) : ∃ cur, w.heap[b]? = some (.cells cur T (0, 0)) := ⟨_, h⟩
theorem type_ne {w : World} {b c T U : Nat} (h : ∃ cur, w.heap[b]? = some (.cells cur T (0, 0))) (k : ∃ cur, w.heap[c]? = some (.cells cur U (0, 0))) (hT : T ≠ U) : b ≠ c := by
  rintro rfl
  obtain ⟨x, hx⟩ := h
  obtain ⟨y, hy⟩ := k
  rw [hx] at hy
  simp only [Option.some.injEq, Obj.cells.injEq] at hy
  exact hT hy.2.1
theorem looseRow.weak {w : World} {base b2 e size k : Nat} {v : Value} {xs : List Value} (h : looseRow w base e size v k xs) (hb : b2 ≤ base) : looseRow w b2 e size v k xs := by
  refine ⟨h.1, h.2.imp id ?_⟩
  rintro ⟨b, cap, cur, h1, h2, h3⟩
  exact ⟨b, cap, cur, h1, Nat.le_trans hb h2, h3⟩
/-- rows of integers, none of them at wb -/
def OutU (W : World) (base wb : Nat) (v : Value) (L : List (List Int)) (us : List Value) : Prop := us.length = L.length ∧ looseRow W base 22 1 v L.length us ∧ v.ownBlock ≠ some wb ∧
  ∀ (i : Nat) u l, us[i]? = some u → L[i]? = some l → looseRow W base 3 1 u l.length (intVs l) ∧ u.ownBlock ≠ some wb
def OutAt (W : World) (base wb : Nat) (v : Value) (L : List (List Int)) : Prop := ∃ us : List Value, OutU W base wb v L us
theorem OutAt.nil (W : World) (base wb : Nat) : OutAt W base wb (.slice none 0 0) [] := ⟨[], rfl, ⟨rfl, .inl ⟨rfl, rfl⟩⟩, by simp [Value.ownBlock], fun i u l h => by simp at h⟩
theorem OutAt.form {W : World} {base wb : Nat} {v : Value} {L : List (List Int)} (h : OutAt W base wb v L) : ∃ a c, v = .slice a L.length c := by
  obtain ⟨us, _, h2, _⟩ := h
  exact loose_form h2
/-- what leaves all blocks from base on but wb as they are -/
theorem OutAt.keep {W W' : World} {base wb : Nat} {v : Value} {L : List (List Int)} (h : OutAt W base wb v L) (hb : But (fun q => q = wb) W W') : OutAt W' base wb v L := by
  obtain ⟨us, h1, h2, h3, h4⟩ := h
  refine ⟨us, h1, hb.row h2 (fun k hk e => h3 (by rw [hk, e])), h3, fun i u l hu hl => ?_⟩
  obtain ⟨h5, h6⟩ := h4 i u l hu hl
  exact ⟨hb.row h5 (fun k hk e => h6 (by rw [hk, e])), h6⟩
/-- one more is put behind -/
theorem OutU.push {W W' : World} {base wb : Nat} {v v' u : Value} {L : List (List Int)} {us : List Value} {l : List Int} (h : OutU W base wb v L us) (hg : W.grownBy W' v.ownBlock) (hu : looseRow W base 3 1 u l.length (intVs l)) (huw : u.ownBlock ≠ some wb) (hwb : wb < W.heap.size)
    (hv : looseRow W' base 22 1 v' (L.length + 1) (us ++ [u])) (hown : v'.ownBlock = v.ownBlock ∨ ∃ g, v'.ownBlock = some g ∧ W.heap.size ≤ g) : OutAt W' base wb v' (L ++ [l]) := by
  obtain ⟨h1, h2, h3, h4⟩ := h
  have hb : But (fun k => v.ownBlock = some k) W W' := But.grown hg fun _ e => e
  have hne : ∀ {x : Value} {n : Nat} {xs : List Value}, looseRow W base 3 1 x n xs → ∀ k, x.ownBlock = some k → ¬ v.ownBlock = some k := fun hx k hk e =>
    type_ne (row_type hx hk).2.2 (row_type h2 e).2.2 (by decide) rfl
  refine ⟨us ++ [u], by simp [h1], by rw [List.length_append, List.length_singleton]; exact hv, ?_, fun i x y hx hy => ?_⟩
  · rcases hown with e | ⟨g, e, hg⟩
    · rw [e]; exact h3
    · rw [e]
      intro e'
      rw [Option.some.inj e'] at hg
      omega
  · by_cases hi : i < us.length
    · rw [List.getElem?_append_left hi] at hx
      rw [List.getElem?_append_left (by omega)] at hy
      obtain ⟨h5, h6⟩ := h4 i x y hx hy
      exact ⟨hb.row h5 (hne h5), h6⟩
    · have hil : i = us.length := by
        have := (List.getElem?_eq_some_iff.1 hx).1
        simp at this
        omega
      subst hil
      rw [List.getElem?_append_right (Nat.le_refl _), Nat.sub_self] at hx
      rw [h1, List.getElem?_append_right (Nat.le_refl _), Nat.sub_self] at hy
      cases hx
      cases hy
      exact ⟨hb.row hu (hne hu), huw⟩

/-! ### fill, plain -/
def fillF (db : List Int → Bool) (K : List Int) (many : Nat) : Nat → List Int → List (List Int) → List (List Int)
  | 0, p, out => out ++ [p]
  | d + 1, p, out => K.foldl (fun o t => if decide (o.length ≤ many) && db (p ++ t :: List.replicate d (-2)) then fillF db K many d (p ++ [t]) o else o) out
def fillS (db : List Int → Bool) (K : List Int) (many d : Nat) (p : List Int) (o : List (List Int)) (t : Int) : List (List Int) :=
  if decide (o.length ≤ many) && db (p ++ t :: List.replicate d (-2)) then fillF db K many d (p ++ [t]) o else o
theorem fillF_succ (db : List Int → Bool) (K : List Int) (many d : Nat) (p : List Int) (out : List (List Int)) : fillF db K many (d + 1) p out = K.foldl (fillS db K many d p) out := rfl
theorem foldl_few {β : Type} (f : List (List Int) → β → List (List Int)) (many : Nat) (hf : ∀ o t, o.length ≤ many + 1 → (f o t).length ≤ many + 1) : ∀ (K : List β) (o : List (List Int)), o.length ≤ many + 1 → (K.foldl f o).length ≤ many + 1
  | [], _, h => h
  | t :: K, o, h => foldl_few f many hf K _ (hf o t h)
theorem fillF_few (db : List Int → Bool) (K : List Int) (many : Nat) : ∀ (d : Nat) (p : List Int) (out : List (List Int)), out.length ≤ many → (fillF db K many d p out).length ≤ many + 1
  | 0, p, out, h => by simp [fillF]; omega
  | d + 1, p, out, h => by
    rw [fillF_succ]
    refine foldl_few _ _ (fun o t ho => ?_) K out (by omega)
    unfold fillS
    split
    · rename_i hc
      rw [Bool.and_eq_true, decide_eq_true_eq] at hc
      exact fillF_few db K many d _ _ hc.1
    · exact ho
theorem fillS_few (db : List Int → Bool) (K : List Int) (many d : Nat) (p : List Int) (o : List (List Int)) (t : Int) (h : o.length ≤ many + 1) : (fillS db K many d p o t).length ≤ many + 1 := by
  unfold fillS
  split
  · rename_i hc
    rw [Bool.and_eq_true, decide_eq_true_eq] at hc
    exact fillF_few db K many d _ _ hc.1
  · exact h
theorem foldl_take {β : Type} (f : List (List Int) → β → List (List Int)) (K : List β) (o : List (List Int)) (j : Nat) (h : j < K.length) : (K.take (j + 1)).foldl f o = f ((K.take j).foldl f o) K[j] := by
  rw [List.take_succ_eq_append_getElem h, List.foldl_append]; rfl
noncomputable def Bk.dB (B : Bk) (r : Nat) (w : List Int) : Bool := @decide (B.D r w) (Classical.propDecidable _)
theorem Bk.dB_iff {B : Bk} {r : Nat} {w : List Int} {b : Bool} (h : b = true ↔ B.D r w) : b = B.dB r w := by
  unfold Bk.dB
  rw [Bool.eq_iff_iff, h]
  simp
theorem owns_ints {w : World} {b T cap : Nat} {l : List Int} (h : Owns w b (intVs l) T) : IntsV w w.heap.size (.slice (some ⟨b, 0, none⟩) l.length cap) l :=
  ⟨_, _, rfl, fun k hk => ⟨b, 0, rfl, h.lt, by rw [Nat.zero_add]; exact h.cell_at (by simp [intVs, hk])⟩⟩
end Go.Proofs.YtgegjjfjhpokpaaGreatDoor

/- joined. -/
namespace Go.Proofs.YtgegjjfjhpokpaaGreatDoor
open Go.RowKit

theorem setCell_same {w : World} {b T i : Nat} {cs : List Value} {v : Value} (h : Owns w b cs T) (hi : cs[i]? = some v) : w.setCell ⟨b, i, none⟩ v = w := by
  rw [setCell_put h]
  have e : cs.set i v = cs := by
    obtain ⟨h1, h2⟩ := List.getElem?_eq_some_iff.1 hi
    rw [← h2, List.set_getElem_self]
  rw [e]
  unfold Owns at h
  unfold putObj
  have hset : w.heap.setIfInBounds b (.cells cs.toArray T (0, 0)) = w.heap := by
    apply Array.ext
    · simp
    · intro k h4 h5
      rw [Array.getElem_setIfInBounds]
      split
      · rename_i e
        subst e
        exact (Array.getElem?_eq_some_iff.1 h).2.symm
      · rfl
  rw [hset]
def joinF (f g : Fst) : Fst := if f.long = -1 ∨ g.long = -1 ∨ 1073741824 < f.long + g.long then ⟨-1, []⟩ else ⟨f.long + g.long, if f.long + g.long ≤ 256 then f.w ++ g.w else []⟩
/-- its words are few, and its length is none, or not too great -/
def Fst.Fine (f : Fst) : Prop := -1 ≤ f.long ∧ f.long ≤ 1073741824 ∧ f.w.length ≤ 256
def FstRes (f : Fst) (W : World) (e : Ending) (W' : World) : Prop := ∃ v, e = .returned (.agg #[.int .i64 f.long, v]) ∧ looseRow W' 0 3 1 v f.w.length (intVs f.w) ∧ Grew W W'
theorem nil_ints (W : World) (base : Nat) : looseRow W base 3 1 (.slice none 0 0) ([] : List Int).length (intVs []) := ⟨rfl, .inl ⟨rfl, rfl⟩⟩
set_option maxHeartbeats 4000000 in
set_option maxRecDepth 20000 in
theorem sjoined_ok (f g : Fst) (hf : f.Fine) (hg : g.Fine) (W : World) (v u : Value) (hv : IntsV W W.heap.size v f.w) (hu : IntsV W W.heap.size u g.w) :
    Calls Tryz.prog 48 #[.agg #[.int .i64 f.long, v], .agg #[.int .i64 g.long, u]] W (FstRes (joinF f g) W) := by
  obtain ⟨fl, fw⟩ := f
  obtain ⟨gl, gw⟩ := g
  obtain ⟨f1, f2, f3⟩ := hf
  obtain ⟨g1', g2', g3'⟩ := hg
  dsimp only at f1 f2 f3 g1' g2' g3' hv hu ⊢
  unfold joinF
  dsimp only
  obtain ⟨b, hb⟩ : ∃ b, W.heap.size = b := ⟨_, rfl⟩
  obtain ⟨w1, hw1⟩ : ∃ w1, W.alloc (.cells #[.int .i64 fl, v] 60) = w1 := ⟨_, rfl⟩
  have g1 : Grew W w1 := hw1 ▸ grew_alloc W _
  have o1 : Owns w1 b [.int .i64 fl, v] 60 := hb ▸ hw1 ▸ Owns.alloc W _ _
  have y1 : w1.heap.size = b + 1 := by rw [← hb, ← hw1]; exact World.size_alloc _ _
  obtain ⟨w2, hw2⟩ : ∃ w2, w1.alloc (.cells #[.int .i64 gl, u] 60) = w2 := ⟨_, rfl⟩
  have g2 : Grew w1 w2 := hw2 ▸ grew_alloc w1 _
  have o2 : Owns w2 (b + 1) [.int .i64 gl, u] 60 := y1 ▸ hw2 ▸ Owns.alloc w1 _ _
  have y2 : w2.heap.size = b + 1 + 1 := by rw [← y1, ← hw2]; exact World.size_alloc _ _
  obtain ⟨w3, hw3⟩ : ∃ w3, w2.alloc (.cells #[.int .i64 0, .slice none 0 0] 60) = w3 := ⟨_, rfl⟩
  have g3 : Grew w2 w3 := hw3 ▸ grew_alloc w2 _
  have o3 : Owns w3 (b + 1 + 1) [.int .i64 0, .slice none 0 0] 60 := y2 ▸ hw3 ▸ Owns.alloc w2 _ _
  have y3 : w3.heap.size = b + 1 + 1 + 1 := by rw [← y2, ← hw3]; exact World.size_alloc _ _
  have O1 := Lib.hid (o1.keep (g2.trans g3))
  have O2 := Lib.hid (o2.keep g3)
  have O3 := Lib.hid o3
  have HG := Lib.hid ((g1.trans g2).trans g3)
  have HB := Lib.hid hb
  have HV := Lib.hid hv
  have HU := Lib.hid hu
  obtain ⟨va, vc, rfl, -⟩ := hv
  obtain ⟨ua, uc, rfl, -⟩ := hu
  have a0 := O1.out.cell_at (i := 0) rfl
  have a1 := O1.out.cell_at (i := 1) rfl
  have al := O1.out.lt
  have c0 := O2.out.cell_at (i := 0) rfl
  have c1 := O2.out.cell_at (i := 1) rfl
  have cl := O2.out.lt
  clear g1 g2 g3 o1 o2 o3
  by_cases hbad : fl = -1 ∨ gl = -1 ∨ 1073741824 < fl + gl
  · rw [if_pos hbad]
    have e0 := O3.out.free 0
    have e1 := O3.out.free 1
    have d0 := O3.out.cell_at (i := 0) rfl
    have d1 := O3.out.cell_at (i := 1) rfl
    have dl := O3.out.lt
    obtain ⟨hbt, hot⟩ := set_two O3.out (.int .i64 (-1)) (.slice none 0 0)
    have HOT := Lib.hid hot
    have HG2 := Lib.hid (show Grew W _ from Below.trans HG.out (hbt.below HG.out.size fun q e => by have := HB.out; omega))
    clear hbt hot
    by_cases hx : fl = -1
    · subst hx
      clear hbad
      go_enter Tryz.func48, Tryz.ntmps48
      go_wp2_with fail
      refine bodyPost_ret (results_cell_row (d := Tryz.prog.underlying 60 |>.getD default) rfl _ _ (b + 1 + 1) 60 _ (0, 0) rfl HOT.out rfl rfl rfl) rfl ?_
      exact ⟨_, rfl, nil_ints _ _, HG2.out⟩
    · have q1 : (fl == -1) = false := beq_eq_false_iff_ne.2 hx
      by_cases hy : gl = -1
      · subst hy
        clear hbad
        go_enter Tryz.func48, Tryz.ntmps48
        go_wp2_with fail
        refine bodyPost_ret (results_cell_row (d := Tryz.prog.underlying 60 |>.getD default) rfl _ _ (b + 1 + 1) 60 _ (0, 0) rfl HOT.out rfl rfl rfl) rfl ?_
        exact ⟨_, rfl, nil_ints _ _, HG2.out⟩
      · have q2 : (gl == -1) = false := beq_eq_false_iff_ne.2 hy
        have hsum : IntKind.i64.wrap (fl + gl) = fl + gl := wrap_small _ (by omega) (by omega)
        have hgt : 1073741824 < fl + gl := by omega
        have hgt2 : fl + gl > 1073741824 := by omega
        clear hbad
        go_enter Tryz.func48, Tryz.ntmps48
        go_wp2_with fail
        refine bodyPost_ret (results_cell_row (d := Tryz.prog.underlying 60 |>.getD default) rfl _ _ (b + 1 + 1) 60 _ (0, 0) rfl HOT.out rfl rfl rfl) rfl ?_
        exact ⟨_, rfl, nil_ints _ _, HG2.out⟩
  · rw [if_neg hbad]
    have hx : fl ≠ -1 := fun e => hbad (.inl e)
    have hy : gl ≠ -1 := fun e => hbad (.inr (.inl e))
    have q1 : (fl == -1) = false := beq_eq_false_iff_ne.2 hx
    have q2 : (gl == -1) = false := beq_eq_false_iff_ne.2 hy
    have hsum : IntKind.i64.wrap (fl + gl) = fl + gl := wrap_small _ (by omega) (by omega)
    have hgt : ¬ 1073741824 < fl + gl := fun e => hbad (.inr (.inr e))
    obtain ⟨S, hS⟩ : ∃ S, fl + gl = S := ⟨_, rfl⟩
    have hsum2 : IntKind.i64.wrap (fl + gl) = S := hsum.trans hS
    rw [hS] at hgt ⊢
    clear hsum
    obtain ⟨w4, hw4⟩ : ∃ w4, w3.alloc (.cells #[.int .i64 S, .slice none 0 0] 60) = w4 := ⟨_, rfl⟩
    have g4 : Grew w3 w4 := hw4 ▸ grew_alloc w3 _
    have o4 : Owns w4 (b + 1 + 1 + 1) [.int .i64 S, .slice none 0 0] 60 := y3 ▸ hw4 ▸ Owns.alloc w3 _ _
    have y4 : w4.heap.size = b + 1 + 1 + 1 + 1 := by rw [← y3, ← hw4]; exact World.size_alloc _ _
    have HG4 := Lib.hid (HG.out.trans g4)
    have O14 := O1.out.keep g4
    have O24 := O2.out.keep g4
    have O34 := Lib.hid (O3.out.keep g4)
    have O4 := Lib.hid o4
    have a04 := O14.cell_at (i := 0) rfl
    have a14 := O14.cell_at (i := 1) rfl
    have al4 := O14.lt
    have c14 := O24.cell_at (i := 1) rfl
    have cl4 := O24.lt
    have d0 := o4.cell_at (i := 0) rfl
    have d1 := o4.cell_at (i := 1) rfl
    have dl := o4.lt
    have df := o4.free 1
    have dsame := setCell_same o4 (i := 1) (v := .slice none 0 0) rfl
    have dx : S ≤ 256 ∨ ¬ S ≤ 256 := by omega
    clear hbad O14 O24 g4 o4
    by_cases h256 : S ≤ 256
    · rw [if_pos h256]
      obtain ⟨n1, hn1⟩ : ∃ n, fw.length = n := ⟨_, rfl⟩
      obtain ⟨n2, hn2⟩ : ∃ n, gw.length = n := ⟨_, rfl⟩
      rw [hn1] at HV a14 a1 f3 ⊢
      rw [hn2] at HU c14 c1 g3' ⊢
      rw [hn1] at hw1
      rw [hn2] at hw2
      obtain ⟨w5, hw5⟩ : ∃ w5, w4.alloc (.cells #[.slice va n1 vc, .slice ua n2 uc] 22) = w5 := ⟨_, rfl⟩
      have g5 : Grew w4 w5 := hw5 ▸ grew_alloc w4 _
      have o5 : Owns w5 (b + 1 + 1 + 1 + 1) [.slice va n1 vc, .slice ua n2 uc] 22 := y4 ▸ hw5 ▸ Owns.alloc w4 _ _
      have HG5 := Lib.hid (HG4.out.trans g5)
      have HC := Lib.hid (concatInts_ok [fw, gw] [.slice va n1 vc, .slice ua n2 uc] rfl (by simp [lens]; omega) (by simp) w5 (b + 1 + 1 + 1 + 1) 2 o5.lt (fun k hk => by
        have hk2 : k = 0 ∨ k = 1 := by simp at hk; omega
        rcases hk2 with rfl | rfl
        · exact o5.cell_at rfl
        · exact o5.cell_at rfl) (fun k hk hk2 => by
        have hk3 : k = 0 ∨ k = 1 := by simp at hk; omega
        rcases hk3 with rfl | rfl
        · exact (HV.out.keep HG5.out).mono HG5.out.size
        · exact (HU.out.keep HG5.out).mono HG5.out.size))
      have HW5 := Lib.hid o5.lt
      have O35 := Lib.hid (O34.out.keep g5)
      have O45 := Lib.hid (O4.out.keep g5)
      simp only [List.length_cons, List.length_nil, Nat.zero_add, Nat.reduceAdd, List.flatten_cons, List.flatten_nil, List.append_nil] at HC
      clear g5 o5 hn1 hn2
      go_enter Tryz.func48, Tryz.ntmps48
      go_wp2_with fail
      refine HC.out.mono ?_
      rintro e w6 ⟨y, rfl, hy, hg⟩
      have HY := Lib.hid hy
      obtain ⟨ya, yc, hye⟩ := loose_form hy
      have hbw : b + 1 + 1 + 1 + 1 < w5.heap.size := HW5.out
      obtain ⟨n3, hn3⟩ : ∃ n3, (fw ++ gw).length = n3 := ⟨_, rfl⟩
      rw [hn3] at hye
      subst hye
      have HG6 := Lib.hid (HG5.out.trans hg)
      have o46 := O45.out.keep hg
      have o36 := O35.out.keep hg
      have z0 := o46.cell_at (i := 0) rfl
      have z1 := o46.cell_at (i := 1) rfl
      have zl := o46.lt
      have zf := o46.free 1
      have hs4 := o46.set 1 (.slice ya n3 yc)
      have hb4 := set_but (i := 1) (v := .slice ya n3 yc) o46
      have ho3 := hb4.owns o36 (by omega)
      have r0 := ho3.cell_at (i := 0) rfl
      have r1 := ho3.cell_at (i := 1) rfl
      have rl := ho3.lt
      have rf0 := ho3.free 0
      have rf1 := ho3.free 1
      obtain ⟨hbt, hot⟩ := set_two ho3 (.int .i64 S) (.slice ya n3 yc)
      have HOT := Lib.hid hot
      have hG7 : Grew W _ := Below.trans HG6.out ((hb4.below HG6.out.size fun q e => by have := HB.out; omega))
      have HG8 := Lib.hid (show Grew W _ from Below.trans hG7 (hbt.below hG7.size fun q e => by have := HB.out; omega))
      have hrow2 := hbt.row (hb4.row HY.out (fun k hk e => by have := (row_type HY.out hk).1; omega)) (fun k hk e => by have := (row_type HY.out hk).1; omega)
      have HWF := Lib.hid (hrow2.weak (Nat.zero_le _))
      clear hs4 hb4 hbt hot o46 o36 ho3 hy hg hrow2
      go_wp2_with fail
      refine bodyPost_ret (results_cell_row (d := Tryz.prog.underlying 60 |>.getD default) rfl _ _ (b + 1 + 1) 60 _ (0, 0) rfl HOT.out rfl rfl rfl) rfl ?_
      exact ⟨_, rfl, HWF.out, HG8.out⟩
    · rw [if_neg h256]
      have O35 := Lib.hid O34.out
      have rf0 := O34.out.free 0
      have rf1 := O34.out.free 1
      have r0 := O34.out.cell_at (i := 0) rfl
      have r1 := O34.out.cell_at (i := 1) rfl
      have rl := O34.out.lt
      obtain ⟨hbt, hot⟩ := set_two O34.out (.int .i64 S) (.slice none 0 0)
      have HOT := Lib.hid hot
      have HG8 := Lib.hid (show Grew W _ from Below.trans HG4.out (hbt.below HG4.out.size fun q e => by have := HB.out; omega))
      clear hbt hot
      go_enter Tryz.func48, Tryz.ntmps48
      go_wp2_with fail
      refine bodyPost_ret (results_cell_row (d := Tryz.prog.underlying 60 |>.getD default) rfl _ _ (b + 1 + 1) 60 _ (0, 0) rfl HOT.out rfl rfl rfl) rfl ?_
      exact ⟨_, rfl, nil_ints _ _, HG8.out⟩
end Go.Proofs.YtgegjjfjhpokpaaGreatDoor

/- The first list of a node, plain. -/
namespace Go.Proofs.YtgegjjfjhpokpaaGreatDoor

/-- none; or a length, with the list if it is short -/
def Fst.Ok (f : Fst) : Prop := (f.long = -1 ∧ f.w = []) ∨ (0 ≤ f.long ∧ f.long ≤ 1073741824 ∧ (f.long ≤ 256 → (f.w.length : Int) = f.long) ∧ (256 < f.long → f.w = []))
theorem Fst.Ok.fine {f : Fst} (h : f.Ok) : f.Fine := by
  rcases h with ⟨h1, h2⟩ | ⟨h1, h2, h3, h4⟩
  · exact ⟨by omega, by omega, by rw [h2]; simp⟩
  · refine ⟨by omega, h2, ?_⟩
    by_cases h : f.long ≤ 256
    · have := h3 h
      omega
    · rw [h4 (by omega)]; simp
theorem joinF_ok {f g : Fst} (hf : f.Ok) (hg : g.Ok) : (joinF f g).Ok := by
  unfold joinF
  split
  · exact .inl ⟨rfl, rfl⟩
  · rename_i h
    rcases hf with ⟨h1, -⟩ | ⟨f1, f2, f3, f4⟩
    · exact absurd (.inl h1) h
    · rcases hg with ⟨h1, -⟩ | ⟨g1, g2, g3, g4⟩
      · exact absurd (.inr (.inl h1)) h
      · have h5 : ¬ 1073741824 < f.long + g.long := fun e => h (.inr (.inr e))
        refine .inr ⟨by show (0 : Int) ≤ f.long + g.long; omega, by show f.long + g.long ≤ 1073741824; omega, fun h6 => ?_, fun h6 => ?_⟩
        · dsimp only at h6 ⊢
          have a1 := f3 (by omega)
          have a2 := g3 (by omega)
          rw [if_pos h6, List.length_append]
          omega
        · dsimp only at h6 ⊢
          rw [if_neg (by omega)]
mutual
def Bk.firstN (B : Bk) : Nd → Fst
  | .mk k nm _ _ subs =>
    if k = 6 then ⟨1, [(B.tok nm : Int)]⟩
    else if k = 5 then (B.firsts[B.rule nm]?).getD ⟨-1, []⟩
    else if k = 1 then B.firstSeq subs ⟨0, []⟩
    else if k = 0 then B.firstAlt subs ⟨-1, []⟩
    else if k = 4 then B.firstHd subs
    else ⟨0, []⟩
def Bk.firstHd (B : Bk) : List Nd → Fst
  | [] => ⟨0, []⟩
  | s :: _ => B.firstN s
def Bk.firstSeq (B : Bk) : List Nd → Fst → Fst
  | [], o => o
  | s :: r, o => B.firstSeq r (joinF o (B.firstN s))
def Bk.firstAlt (B : Bk) : List Nd → Fst → Fst
  | [], o => o
  | s :: r, o => B.firstAlt r (if firstLt (B.firstN s) o then B.firstN s else o)
end
theorem ok_zero : Fst.Ok ⟨0, []⟩ := .inr ⟨by simp, by simp, by simp, by simp⟩
theorem ok_none : Fst.Ok ⟨-1, []⟩ := .inl ⟨rfl, rfl⟩
mutual
theorem Bk.firstN_ok {B : Bk} (hB : ∀ f ∈ B.firsts, f.Ok) : ∀ n : Nd, (B.firstN n).Ok
  | .mk k nm _ _ subs => by
    rw [Bk.firstN]
    split
    · exact .inr ⟨by simp, by simp, by simp, by simp⟩
    split
    · cases h : B.firsts[B.rule nm]? with
      | none => exact ok_none
      | some f => exact hB f (List.mem_of_getElem? h)
    split
    · exact Bk.firstSeq_ok hB subs _ ok_zero
    split
    · exact Bk.firstAlt_ok hB subs _ ok_none
    split
    · exact Bk.firstHd_ok hB subs
    · exact ok_zero
theorem Bk.firstHd_ok {B : Bk} (hB : ∀ f ∈ B.firsts, f.Ok) : ∀ l : List Nd, (B.firstHd l).Ok
  | [] => by rw [Bk.firstHd]; exact ok_zero
  | s :: _ => by rw [Bk.firstHd]; exact Bk.firstN_ok hB s
theorem Bk.firstSeq_ok {B : Bk} (hB : ∀ f ∈ B.firsts, f.Ok) : ∀ (l : List Nd) (o : Fst), o.Ok → (B.firstSeq l o).Ok
  | [], o, h => by rw [Bk.firstSeq]; exact h
  | s :: r, o, h => by rw [Bk.firstSeq]; exact Bk.firstSeq_ok hB r _ (joinF_ok h (Bk.firstN_ok hB s))
theorem Bk.firstAlt_ok {B : Bk} (hB : ∀ f ∈ B.firsts, f.Ok) : ∀ (l : List Nd) (o : Fst), o.Ok → (B.firstAlt l o).Ok
  | [], o, h => by rw [Bk.firstAlt]; exact h
  | s :: r, o, h => by
    rw [Bk.firstAlt]
    refine Bk.firstAlt_ok hB r _ ?_
    split
    · exact Bk.firstN_ok hB s
    · exact h
end
end Go.Proofs.YtgegjjfjhpokpaaGreatDoor
