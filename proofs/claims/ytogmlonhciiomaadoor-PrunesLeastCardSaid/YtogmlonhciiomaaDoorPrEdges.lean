/- prunes.edges: the edges that count. -/
import Derived.Test.YtogmlonhciiomaaDoorPrAlive
import Derived.Test.YtogmlonhciiomaaDoorPrDel
import Derived.Test.YtogmlonhciiomaaDoorPrBut
import Derived.Deep.RegionHeld3
import Derived.Laws.ResultCell
namespace Go.Proofs.YtogmlonhciiomaaDoor
open Go.RowKit

/-- is an edge struck? -/
def Aut.strike (a : Aut) (es : List Bool) (e : Ed) : Bool := !(es.getD e.tgt.toNat false) || (e.tok == -1 && a.kind e.tgt.toNat == 0)

set_option maxHeartbeats 1000000 in
theorem pedges1_ok (a : Aut) (W : World) (v : Value) (hA : AutV .u8 W W.heap.size v a) (es : List Bool) (hes : es.length = a.length) (lb : Nat) (hL : Owns W lb (es.map .bool) 4) (ba bl : Nat)
    (h0 : W.cell? ⟨bl, 0, none⟩ = some (.slice (some ⟨lb, 0, none⟩) a.length a.length)) (h1 : W.cell? ⟨ba, 0, none⟩ = some v) (e : Ed) (he : ∃ j : Nat, e.tgt = j ∧ j < a.length) :
    Calls Tryd.prog 45 (#[.agg #[.int .i64 e.tok, .int .i64 e.tgt]] ++ #[.pointer (some ⟨bl, 0, none⟩), .pointer (some ⟨ba, 0, none⟩)]) W fun r W' => r = .returned (.bool (a.strike es e)) ∧ Grew W W' := by
  obtain ⟨j, hj, hlt⟩ := he
  unfold Aut.strike
  rw [hj]
  simp only [Int.toNat_natCast]
  obtain ⟨ad, cap, rfl, hcap, hA⟩ := hA
  obtain ⟨b, off, v0, v1, v2, rfl, hbl, c0, c1, c2, hs⟩ := hA j hlt
  obtain rfl := hs.1
  have hlt' : ∀ {b v}, W.cell? ⟨b, 0, none⟩ = some v → b < W.heap.size := by
    intro b v h
    rcases Nat.lt_or_ge b W.heap.size with g | g
    · exact g
    · simp [World.cell?, Array.getElem?_eq_none g] at h
  obtain ⟨w1, hw1⟩ : ∃ w1, W.alloc (.cells #[.int .i64 e.tok, .int .i64 (j : Int)] 53) = w1 := ⟨_, rfl⟩
  have g1 : Grew W w1 := hw1 ▸ grew_alloc W _
  have o1 : Owns w1 W.heap.size [.int .i64 e.tok, .int .i64 (j : Int)] 53 := hw1 ▸ Owns.alloc W _ _
  have d0 := o1.cell_at (i := 0) rfl
  have d1 := o1.cell_at (i := 1) rfl
  have k0 : w1.cell? ⟨bl, 0, none⟩ = some (.slice (some ⟨lb, 0, none⟩) a.length a.length) := by rw [g1.cells _ _ (hlt' h0)]; exact h0
  have k1 : w1.cell? ⟨ba, 0, none⟩ = some (.slice (some ⟨b, off, none⟩) a.length cap) := by rw [g1.cells _ _ (hlt' h1)]; exact h1
  have k2 : w1.cell? ⟨b, off + j * 3, none⟩ = some (.int .u8 a[j].kind) := by rw [g1.cells _ _ hbl]; exact c0
  have hjl : j < es.length := by rw [hes]; exact hlt
  have k3 : w1.cell? ⟨lb, j, none⟩ = some (.bool es[j]) := (hL.keep g1).cell_at (by simp [hjl])
  have hx : es.getD j false = es[j] := by simp [List.getD, hjl]
  rw [hx, (Aut.at hlt).1]
  obtain ⟨t, ht⟩ : ∃ t, t = es[j] := ⟨_, rfl⟩
  rw [← ht] at k3 ⊢
  have HG := Lib.hid g1
  clear g1 o1 hA hs c0 c1 c2 h0 h1 hL hx ht
  simp only [List.append_toArray, List.cons_append, List.nil_append]
  generalize a[j].kind = kd at *
  generalize e.tok = tk at *
  cases t
  · go_enter Tryd.func45, Tryd.ntmps45
    go_wp2_with fail
    go_ret
    exact ⟨rfl, HG.out⟩
  · by_cases ht : tk = -1
    · subst ht
      go_enter Tryd.func45, Tryd.ntmps45
      go_wp2_with fail
      go_ret
      exact ⟨rfl, HG.out⟩
    · have t1 : (tk == -1) = false := by simpa using ht
      have T1 := Lib.hid t1
      clear ht
      go_enter Tryd.func45, Tryd.ntmps45
      go_wp2_with fail
      go_ret
      exact ⟨ret_bool (by rw [T1.out]; rfl), HG.out⟩
theorem enters45 : Enters 45 := fun _ _ => by kernel_rfl

/-- the automaton with the edges that are not struck -/
def Aut.trim (a : Aut) (es : List Bool) : Aut := a.map fun s => ⟨s.kind, s.alts, s.edges.filter fun e => !a.strike es e⟩
theorem trim_of {a : Aut} {es : List Bool} (h : ∀ i, es.getD i false = true ↔ a.Live i) : Trim a (a.trim es) := by
  have hat : ∀ i : Nat, (a.trim es)[i]? = (a[i]?).map fun s => (⟨s.kind, s.alts, s.edges.filter fun e => !a.strike es e⟩ : Stt) := fun i => by simp [Aut.trim]
  refine ⟨by simp [Aut.trim], fun i => ?_, fun i => ?_, fun i => ⟨fun e => !a.strike es e, fun e _ => ?_, ?_⟩⟩
  · unfold Aut.kind; rw [hat]; cases a[i]? <;> rfl
  · unfold Aut.alts; rw [hat]; cases a[i]? <;> rfl
  · unfold Aut.strike Aut.Counts
    rw [← h]
    simp only [Bool.not_eq_true', Bool.or_eq_false_iff, Bool.not_eq_false', Bool.and_eq_false_iff, beq_eq_false_iff_ne]
    refine and_congr_right fun _ => ⟨fun h hx => h.elim (fun h => h hx.1) (fun h => h hx.2), fun h => ?_⟩
    by_cases he : e.tok = -1
    · exact .inr fun hk => h ⟨he, hk⟩
    · exact .inl he
  · unfold Aut.edges; rw [hat]; cases a[i]? <;> rfl

/-- the row of states, as it is made: those below i are done -/
structure EdgAt (a : Aut) (es : List Bool) (B g i : Nat) (vs : List (Value × Value × Value)) (W : World) : Prop where
  len : vs.length = a.length
  at' : ∀ k (hk : k < a.length) (hk' : k < vs.length), vs[k].1 = .int .u8 a[k].kind ∧ IntsV W B vs[k].2.1 a[k].alts ∧
    (k < i → looseRow W (g + 1) 53 2 vs[k].2.2 (a[k].edges.filter fun e => !a.strike es e).length (edVs (a[k].edges.filter fun e => !a.strike es e))) ∧ (i ≤ k → EdsV W B vs[k].2.2 a[k].edges)
theorem EdgAt.keep {a : Aut} {es : List Bool} {B g i : Nat} {vs : List (Value × Value × Value)} {W W' : World} (h : EdgAt a es B g i vs W) (hg : Grew W W') (hB : B ≤ W.heap.size) : EdgAt a es B g i vs W' :=
  ⟨h.len, fun k hk hk' => by
    obtain ⟨h1, h2, h3, h4⟩ := h.at' k hk hk'
    exact ⟨h1, h2.keep (hg.mono hB), fun hi => (h3 hi).keep hg, fun hi => (h4 hi).keep (hg.mono hB)⟩⟩
theorem looseRow.other {W : World} {base : Nat} {e : TypeId} {size : Nat} {v : Value} {n : Nat} {xs : List Value} (h : looseRow W base e size v n xs) {b : Addr} (hb : b.block < base) (x : Value) : looseRow (W.setCell b x) base e size v n xs := by
  refine ⟨h.1, h.2.imp id ?_⟩
  rintro ⟨g, cap, cur, h1, h2, h3, h4⟩
  exact ⟨g, cap, cur, h1, h2, by rw [Below.heap_setCell _ _ _ _ (by omega)]; exact h3, h4⟩
theorem EdgAt.next {a : Aut} {es : List Bool} {B g i : Nat} {vs : List (Value × Value × Value)} {W : World} (h : EdgAt a es B g i vs W) (hg : B ≤ g) {v v0 v1 v2 : Value} (hi : i < a.length) (hv : vs[i]? = some (v0, v1, v2))
    (hr : looseRow W (g + 1) 53 2 v (a[i].edges.filter fun e => !a.strike es e).length (edVs (a[i].edges.filter fun e => !a.strike es e))) (o : Nat) :
    EdgAt a es B g (i + 1) (vs.set i (v0, v1, v)) (W.setCell ⟨g, o, none⟩ v) := by
  refine ⟨by simp [h.len], fun k hk hk' => ?_⟩
  have hkv : k < vs.length := by rw [h.len]; exact hk
  have hB : Below B W (W.setCell ⟨g, o, none⟩ v) := (Below.refl _ _).setCell hg _
  obtain ⟨h1, h2, h3, h4⟩ := h.at' k hk hkv
  by_cases e : k = i
  · subst e
    obtain ⟨hiv, hvv⟩ := List.getElem?_eq_some_iff.1 hv
    rw [hvv] at h1 h2
    simp only [List.getElem_set_self]
    exact ⟨h1, h2.keep hB, fun _ => hr.other (Nat.lt_succ_self _) _, fun hx => absurd hx (by omega)⟩
  · have e' : (vs.set i (v0, v1, v))[k] = vs[k] := List.getElem_set_ne (fun x => e x.symm) _
    rw [e']
    exact ⟨h1, h2.keep hB, fun hx => (h3 (by omega)).other (Nat.lt_succ_self _) _, fun hx => (h4 (by omega)).keep hB⟩
theorem EdgAt.done {a : Aut} {es : List Bool} {B g : Nat} {vs : List (Value × Value × Value)} {W : World} (h : EdgAt a es B g a.length vs W) (hB : B ≤ W.heap.size) : StsIn .u8 W W.heap.size vs (a.trim es) := by
  refine ⟨by rw [h.len]; simp [Aut.trim], fun k hk hk' => ?_⟩
  have hk2 : k < a.length := by simpa [Aut.trim] using hk
  obtain ⟨h1, h2, h3, _⟩ := h.at' k hk2 hk'
  have e : (a.trim es)[k] = ⟨a[k].kind, a[k].alts, a[k].edges.filter fun e => !a.strike es e⟩ := by simp [Aut.trim]
  rw [e]
  exact ⟨h1, h2.mono hB, eds_of_row (h3 hk2)⟩

theorem row_owns {W : World} {B e size n : Nat} {v : Value} {xs : List Value} (h : looseRow W B e size v n xs) (h0 : 0 < n) : ∃ g cap rest, v = .slice (some ⟨g, 0, none⟩) n cap ∧ B ≤ g ∧ n ≤ cap ∧ cap ≤ maxLen ∧ Owns W g (xs ++ rest) e ∧ cap * size ≤ (xs ++ rest).length := by
  rcases h.2 with ⟨_, h1⟩ | ⟨g, cap, cur, rfl, h1, h2, h3, h4, h5, h6⟩
  · omega
  · refine ⟨g, cap, cur.toList.drop (n * size), rfl, h1, h3, h4, ?_, ?_⟩
    · unfold Owns; rw [← h6, List.take_append_drop]; exact h2
    · rw [← h6, List.take_append_drop]; simpa using h5
theorem row_of_owns {W : World} {B e size n g cap : Nat} {xs rest : List Value} (h : Owns W g (xs ++ rest) e) (hx : xs.length = n * size) (hB : B ≤ g) (hc : n ≤ cap) (hm : cap ≤ maxLen) (hl : cap * size ≤ (xs ++ rest).length) : looseRow W B e size (.slice (some ⟨g, 0, none⟩) n cap) n xs :=
  ⟨hx, .inr ⟨g, cap, _, rfl, hB, h, hc, hm, by simpa using hl, by simp [← hx]⟩⟩
theorem triVs_set (vs : List (Value × Value × Value)) (i : Nat) (v0 v1 v2 x : Value) (h : vs[i]? = some (v0, v1, v2)) (rest : List Value) : (triVs vs ++ rest).set (i * 3 + 2) x = triVs (vs.set i (v0, v1, x)) ++ rest := by
  have hi := (List.getElem?_eq_some_iff.1 h).1
  rw [List.set_append_left _ _ (by rw [triVs_len]; omega)]
  congr 1
  exact flat_set triF 3 triF_len vs i 2 (v0, v1, v2) (v0, v1, x) x h (by omega) rfl
theorem triVs_at (vs : List (Value × Value × Value)) (i : Nat) (v0 v1 v2 : Value) (h : vs[i]? = some (v0, v1, v2)) (rest : List Value) : (triVs vs ++ rest)[i * 3]? = some v0 ∧ (triVs vs ++ rest)[i * 3 + 1]? = some v1 ∧ (triVs vs ++ rest)[i * 3 + 2]? = some v2 := by
  have hi := (List.getElem?_eq_some_iff.1 h).1
  have hl : i * 3 + 2 < (triVs vs).length := by rw [triVs_len]; omega
  have h0 := flat_get _ _ triF_len vs i 0 (by omega)
  simp only [Nat.add_zero] at h0
  refine ⟨?_, ?_, ?_⟩
  · rw [List.getElem?_append_left (by omega)]; unfold triVs; rw [h0, h]; rfl
  · rw [List.getElem?_append_left (by omega)]; unfold triVs; rw [flat_get _ _ triF_len vs i 1 (by omega), h]; rfl
  · rw [List.getElem?_append_left hl]; unfold triVs; rw [flat_get _ _ triF_len vs i 2 (by omega), h]; rfl
theorem row_form {W : World} {B e size n : Nat} {v : Value} {xs : List Value} (h : looseRow W B e size v n xs) : ∃ a m c, v = .slice a m c := by
  rcases h.2 with ⟨rfl, _⟩ | ⟨g, cap, cur, rfl, _⟩
  · exact ⟨_, _, _, rfl⟩
  · exact ⟨_, _, _, rfl⟩
theorem EdgAt.other {a : Aut} {es : List Bool} {B g i : Nat} {vs : List (Value × Value × Value)} {W : World} (h : EdgAt a es B g i vs W) {b : Addr} (hb : b.block < g + 1) (hB : B ≤ b.block) (x : Value) : EdgAt a es B g i vs (W.setCell b x) :=
  ⟨h.len, fun k hk hk' => by
    have hW : Below B W (W.setCell b x) := (Below.refl _ _).setCell hB _
    obtain ⟨h1, h2, h3, h4⟩ := h.at' k hk hk'
    exact ⟨h1, h2.keep hW, fun hi => (h3 hi).other hb _, fun hi => (h4 hi).keep hW⟩⟩
theorem EdgAt.but {a : Aut} {es : List Bool} {B g i : Nat} {vs : List (Value × Value × Value)} {W W' : World} {F : Nat → Prop} (h : EdgAt a es B g i vs W) (hb : But F W W') (h1 : ∀ k, F k → B ≤ k) (h2 : ∀ k, F k → k < g + 1) : EdgAt a es B g i vs W' :=
  ⟨h.len, fun k hk hk' => by
    have low : ∀ {b : Nat} {o : Nat} {x : Value}, b < B → W.cell? ⟨b, o, none⟩ = some x → W'.cell? ⟨b, o, none⟩ = some x := by
      intro b o x hlt hc
      have hl : b < W.heap.size := by
        rcases Nat.lt_or_ge b W.heap.size with g | g
        · exact g
        · simp [World.cell?, Array.getElem?_eq_none g] at hc
      unfold World.cell? at hc ⊢
      rw [hb.block b hl fun hF => by have := h1 b hF; omega]
      exact hc
    obtain ⟨a1, a2, a3, a4⟩ := h.at' k hk hk'
    refine ⟨a1, ?_, fun hi => hb.row (a3 hi) fun q hq hF => by have := (row_lt (a3 hi) hq).1; have := h2 q hF; omega, fun hi => ?_⟩
    · obtain ⟨x, c, e1, e2, e3⟩ := a2
      exact ⟨x, c, e1, e2, fun j hj => by obtain ⟨b, off, f1, f2, f3⟩ := e3 j hj; exact ⟨b, off, f1, f2, low f2 f3⟩⟩
    · obtain ⟨x, c, e1, e2, e3⟩ := a4 hi
      exact ⟨x, c, e1, e2, fun j hj => by obtain ⟨b, off, f1, f2, f3, f4⟩ := e3 j hj; exact ⟨b, off, f1, f2, low f2 f3, low f2 f4⟩⟩⟩
/-- what edges gives -/
def EdgesIs (a : Aut) (es : List Bool) (B : Nat) (W : World) (e : Ending) (W' : World) : Prop := ∃ v', e = .returned (.agg #[v']) ∧ Stay (fun k => B ≤ k ∧ k < W.heap.size) W' (fun w => AutV .u8 w w.heap.size v' (a.trim es)) ∧ Grew W W'

set_option maxHeartbeats 2000000 in
set_option maxRecDepth 20000 in
theorem pedges_ok (a : Aut) (ha : a.Few) (h0 : 0 < a.length) (ht : Inside a) (W : World) (B : Nat) (hBW : B ≤ W.heap.size) (v : Value) (hA : AutV .u8 W B v a) (es : List Bool) (hes : es.length = a.length) (lb : Nat) (hL : Owns W lb (es.map .bool) 4) :
    Calls Tryd.prog 33 #[.agg #[v], .slice (some ⟨lb, 0, none⟩) a.length a.length] W (EdgesIs a es B W) := by
  have hA2 := hA
  obtain ⟨ad, cap, rfl, hcap, hA⟩ := hA
  have hst := ha.states
  obtain ⟨w1, hw1⟩ : ∃ w1, W.alloc (.cells #[.slice ad a.length cap] 24) = w1 := ⟨_, rfl⟩
  obtain ⟨w2, hw2⟩ : ∃ w2, w1.alloc (.cells #[.slice (some ⟨lb, 0, none⟩) a.length a.length] 72) = w2 := ⟨_, rfl⟩
  obtain ⟨w3, hw3⟩ : ∃ w3, w2.alloc (.cells #[.slice none 0 0] 24) = w3 := ⟨_, rfl⟩
  have z1 : w1.heap.size = W.heap.size + 1 := by rw [← hw1]; simp
  have z2 : w2.heap.size = W.heap.size + 1 + 1 := by rw [← hw2]; simp; omega
  have g1 : Grew W w1 := hw1 ▸ grew_alloc W _
  have g2 : Grew w1 w2 := hw2 ▸ grew_alloc w1 _
  have g3 : Grew w2 w3 := hw3 ▸ grew_alloc w2 _
  have o1 : Owns w3 W.heap.size [.slice ad a.length cap] 24 := (hw1 ▸ Owns.alloc W _ _ : Owns w1 W.heap.size [.slice ad a.length cap] 24).keep (g2.trans g3)
  have o2 : Owns w3 (W.heap.size + 1) [.slice (some ⟨lb, 0, none⟩) a.length a.length] 72 := (z1 ▸ hw2 ▸ Owns.alloc w1 _ _ : Owns w2 (W.heap.size + 1) [.slice (some ⟨lb, 0, none⟩) a.length a.length] 72).keep g3
  have o3 : Owns w3 (W.heap.size + 1 + 1) [.slice none 0 0] 24 := z2 ▸ hw3 ▸ Owns.alloc w2 _ _
  have hG := g1.trans (g2.trans g3)
  have HC := Lib.hid (pcloneS_ok a (by omega) w3 B (Nat.le_trans hBW hG.size) _ (hA2.keep (hG.mono hBW)))
  have c1 := o1.cell_at (i := 0) rfl
  have HA := Lib.hid hA2
  have HL := Lib.hid hL
  have HES := Lib.hid hes
  clear hes
  have HG := Lib.hid hG
  have HO1 := Lib.hid o1
  have HO2 := Lib.hid o2
  have HO3 := Lib.hid o3
  clear g1 g2 g3 o1 o2 o3 hG hA hA2 hL
  go_enter Tryd.func33, Tryd.ntmps33
  go_wp2_with fail
  refine HC.out.mono ?_
  rintro e w4 ⟨rv, vs, rfl, hrow, hvs, hb4⟩
  obtain ⟨g, capg, rest, rfl, hg3, hng, hmg, hog, hlg⟩ := row_owns hrow h0
  obtain ⟨w5, hw5⟩ : ∃ w5, w4.alloc (.cells #[.slice (some ⟨g, 0, none⟩) a.length capg] 24) = w5 := ⟨_, rfl⟩
  have g5 : Grew w4 w5 := hw5 ▸ grew_alloc w4 _
  have o5 : Owns w5 w4.heap.size [.slice (some ⟨g, 0, none⟩) a.length capg] 24 := hw5 ▸ Owns.alloc w4 _ _
  have hgo : g < w4.heap.size := hog.lt
  have z3 : W.heap.size + 1 + 1 < w3.heap.size := HO3.out.lt
  have HE : Hid (EdgAt a es B g 0 vs w5) := Lib.hid (by
    refine ⟨hvs.1, fun k hk hk' => ?_⟩
    obtain ⟨q1, q2, q3⟩ := hvs.2 k hk hk'
    have hB : Below B w3 w5 := (hb4.trans g5).mono (by omega)
    exact ⟨q1, q2.keep hB, fun h => absurd h (by omega), fun _ => q3.keep hB⟩)
  have d1 : w5.cell? ⟨W.heap.size, 0, none⟩ = some (.slice ad a.length cap) := (HO1.out.keep (hb4.trans g5)).cell_at (i := 0) rfl
  have HOG := Lib.hid (hog.keep g5)
  have HO5 := Lib.hid o5
  have HB5 := Lib.hid (hb4.trans g5)
  have HLG := Lib.hid hlg
  have HMG := Lib.hid hmg
  obtain ⟨O, hO⟩ : ∃ O, O = w4.heap.size := ⟨_, rfl⟩
  have HOO := Lib.hid hO
  have HO5' : Hid (Owns w5 O [.slice (some ⟨g, 0, none⟩) a.length capg] 24) := Lib.hid (by rw [hO]; exact HO5.out)
  have hgo' : g < O := by rw [hO]; exact hgo
  unfold maxLen at hmg
  clear hrow hvs hb4 hog hlg g5 o5 HC HO5 hgo
  go_wp2_with fail
  rw [← hO]
  clear hO hw5
  have HAM := Lib.hid (show StsAt .u8 W B ad a from (by obtain ⟨a', c', h1, _, h2⟩ := HA.out; simp only [Value.slice.injEq] at h1; obtain ⟨rfl, _, rfl⟩ := h1; exact h2))
  have hOlt := HO5'.out.lt
  have hB5 : Hid (Below (W.heap.size + 1 + 1 + 1) w3 w5) := Lib.hid (HB5.out.mono (by omega))
  have hgB : W.heap.size + 1 + 1 + 1 ≤ g := by omega
  clear hOlt HOO HB5 HMG z1 z2 hw1 hw2 hw3 c1 d1 hg3
  go_loopw [15] (fun i wr => ∃ (j : Nat) (vs' : List (Value × Value × Value)), i = .int .i64 j ∧ j ≤ a.length ∧ Hid (Owns wr g (triVs vs' ++ rest) 51) ∧ Hid (EdgAt a es B g j vs' wr) ∧ Hid (Owns wr O [.slice (some ⟨g, 0, none⟩) a.length capg] 24) ∧ Hid (Below (W.heap.size + 1 + 1 + 1) w3 wr)) (fun i _ => a.length - (intOf i).toNat)
  case atStart => exact ⟨0, vs, rfl, by omega, HOG.out, HE.out, HO5'.out, hB5.out⟩
  case round =>
    obtain ⟨j, vs', rfl, hj, HR, HEA, HOU, HBW⟩ := hrel
    have hgw : Grew W wr := Below.trans (B := W.heap.size) HG.out (HBW.out.mono (by omega))
    by_cases hlt : j < a.length
    · obtain ⟨b, off, v0, v1, v2, rfl, hbl, e0, e1, e2, hs⟩ := HAM.out j hlt
      obtain ⟨rfl, ⟨a1, n1, rfl, hcc1, hcc3⟩, hE⟩ := hs
      have hE2 := hE
      obtain ⟨a2, c2, rfl, hcc2, hE⟩ := hE
      have r0 : wr.cell? ⟨b, off + j * 3, none⟩ = some (.int .u8 a[j].kind) := by rw [hgw.cells _ _ (Nat.lt_of_lt_of_le hbl hBW)]; exact e0
      have r1 : wr.cell? ⟨b, off + j * 3 + 1, none⟩ = some (.slice a1 a[j].alts.length n1) := by rw [hgw.cells _ _ (Nat.lt_of_lt_of_le hbl hBW)]; exact e1
      have r2 : wr.cell? ⟨b, off + j * 3 + 2, none⟩ = some (.slice a2 a[j].edges.length c2) := by rw [hgw.cells _ _ (Nat.lt_of_lt_of_le hbl hBW)]; exact e2
      obtain ⟨w6, hw6⟩ : ∃ w6, wr.alloc (.cells #[.int .u8 a[j].kind, .slice a1 a[j].alts.length n1, .slice a2 a[j].edges.length c2] 51) = w6 := ⟨_, rfl⟩
      have g6 : Grew wr w6 := hw6 ▸ grew_alloc wr _
      have o6 : Owns w6 wr.heap.size [.int .u8 a[j].kind, .slice a1 a[j].alts.length n1, .slice a2 a[j].edges.length c2] 51 := hw6 ▸ Owns.alloc wr _ _
      have hgw6 := hgw.trans g6
      have hB6 : Below (W.heap.size + 1 + 1 + 1) w3 w6 := HBW.out.trans (g6.mono (by have := HOU.out.lt; omega))
      have hsz6 : W.heap.size + 1 + 1 + 1 ≤ w6.heap.size := by have := HOU.out.lt; have := g6.size; omega
      have sl := ha.edges _ (List.getElem_mem hlt)
      have HCL : Hid (∀ w', Grew w6 w' → Calls Tryd.prog 44 #[.slice a2 a[j].edges.length c2] w' (Cloned w' 53 2 a[j].edges.length (edVs a[j].edges))) :=
        Lib.hid fun w' hg => pcloneE_ok a[j].edges (by omega) w' _ ((hE2.mono hBW).grew (hgw6.trans hg))
      have HDL : Hid (∀ w' cv, Grew w6 w' → looseRow w' w6.heap.size 53 2 cv a[j].edges.length (edVs a[j].edges) → Calls Tryd.prog 43 #[cv, .func (.func 45) #[] #[.pointer (some ⟨W.heap.size + 1, 0, none⟩), .pointer (some ⟨W.heap.size, 0, none⟩)]] w' (Deleted w6.heap.size w' (a[j].edges.filter fun e => !a.strike es e))) :=
        Lib.hid fun w' cv hg hr => pdelE_ok a[j].edges (a.strike es) 45 _ enters45 w6.heap.size w' cv (by omega) hg.size hr (fun i hi W2 hb => by
          have h6 : Below w6.heap.size w6 W2 := Below.trans (B := w6.heap.size) hg hb
          have h7 : Grew W W2 := hgw6.trans h6
          have h8 : Below (W.heap.size + 1 + 1 + 1) w3 W2 := hB6.trans (h6.mono hsz6)
          exact pedges1_ok a W2 _ ((HA.out.mono hBW).grew h7) es HES.out lb (HL.out.keep h7) _ _ ((HO2.out.below h8 (by omega)).cell_at (i := 0) rfl) ((HO1.out.below h8 (by omega)).cell_at (i := 0) rfl) _ (ht j _ (by rw [(Aut.at hlt).2.2]; exact List.getElem_mem hi)))
      have s0 : w6.cell? ⟨O, 0, none⟩ = some (.slice (some ⟨g, 0, none⟩) a.length capg) := (HOU.out.keep g6).cell_at (i := 0) rfl
      have s1 : w6.cell? ⟨wr.heap.size, 2, none⟩ = some (.slice a2 a[j].edges.length c2) := o6.cell_at (i := 2) rfl
      have hOl : O < w6.heap.size := (HOU.out.keep g6).lt
      have hbl6 : wr.heap.size < w6.heap.size := o6.lt
      clear hE hE2 hcc1 hcc2 hcc3 e0 e1 e2 g6 o6
      have hvl : j < vs'.length := by rw [HEA.out.len]; exact hlt
      obtain ⟨x0, x1, x2, hx⟩ : ∃ x0 x1 x2, vs'[j]? = some (x0, x1, x2) := ⟨_, _, _, List.getElem?_eq_getElem hvl⟩
      have HX := Lib.hid hx
      have HTA := Lib.hid (triVs_at vs' j x0 x1 x2 hx rest)
      have hne1 : O ≠ g := by omega
      have hne2 : wr.heap.size ≠ g := by have := HR.out.lt; omega
      have hjc0 : (0 : Int) ≤ (j : Int) := by omega
      have hjc1 : (j : Int) < (a.length : Int) := by omega
      have HO6 := Lib.hid ((HR.out.keep (hw6 ▸ grew_alloc wr _) : Owns w6 g (triVs vs' ++ rest) 51))
      clear hx hvl
      go_wp2_with fail
      go_region_held3 (fun w' => w'.cell? ⟨O, 0, none⟩ = some (.slice (some ⟨g, 0, none⟩) a.length capg) ∧ w'.cell? ⟨wr.heap.size, 2, none⟩ = some (.slice a2 a[j].edges.length c2)) (first | go_keep | assumption | exact ⟨by rw [World.cell?_setCell_other _ _ _ _ (by simp <;> omega)]; exact hs8.1, by rw [World.cell?_setCell_other _ _ _ _ (by simp <;> omega)]; exact hs8.2⟩)
        (first
          | (go_at_call 44; refine (HCL.out _ (Below.refl _ _).drew).mono ?_; rintro e w7 ⟨cv, rfl, hcr, hcg⟩; have hs7 : w7.cell? ⟨O, 0, none⟩ = some (.slice (some ⟨g, 0, none⟩) a.length capg) ∧ w7.cell? ⟨wr.heap.size, 2, none⟩ = some (.slice a2 a[j].edges.length c2) := ⟨by rw [hcg.cells _ _ (by simpa using hOl)]; simpa using s0, by rw [hcg.cells _ _ (by simpa using hbl6)]; simpa using s1⟩; have HCR := Lib.hid hcr; have HCG := Lib.hid hcg; clear hcr hcg)
          | (go_at_call 43; refine (HDL.out _ _ (Grew.trans (Below.refl _ _).drew HCG.out) HCR.out).mono ?_; rintro e w8 ⟨dv, rfl, hdr, hdb⟩; obtain ⟨da, dn, dc, rfl⟩ := row_form hdr; have hs8 : w8.cell? ⟨O, 0, none⟩ = some (.slice (some ⟨g, 0, none⟩) a.length capg) ∧ w8.cell? ⟨wr.heap.size, 2, none⟩ = some (.slice a2 a[j].edges.length c2) := ⟨by rw [hdb.cell (p := ⟨O, 0, none⟩) hOl]; exact hs7.1, by rw [hdb.cell (p := ⟨wr.heap.size, 2, none⟩) hbl6]; exact hs7.2⟩; have hb68 : Below w6.heap.size w6 w8 := Below.trans (B := w6.heap.size) (((Below.refl _ _).drew).trans HCG.out) hdb; have ow8 := HO6.out.below hb68 HO6.out.lt; have st0 := ow8.cell_at HTA.out.2.2; have st1 := ow8.free (j * 3 + 2); have HDR := Lib.hid hdr; have HB68 := Lib.hid hb68; have HW8 := Lib.hid ow8; clear hdr hdb hb68 ow8))
      all_goals
        have hne3 : B ≤ g := by omega
        have hEA := (HEA.out.keep ((hw6 ▸ grew_alloc wr _ : Grew wr w6)) (Nat.le_trans hBW hgw.size))
        have hEA8 : EdgAt a es B g j vs' w8 := hEA.keep HB68.out (by omega)
        have HN := Lib.hid (hEA8.next hne3 hlt HX.out (HDR.out.base (by have := HO6.out.lt; omega)) (j * 3 + 2))
        have hrow := HW8.out.set (j * 3 + 2) (.slice da dn dc)
        rw [triVs_set _ _ _ _ _ _ HX.out] at hrow
        have HRW := Lib.hid hrow
        have HOU9 := Lib.hid (((HOU.out.keep (hw6 ▸ grew_alloc wr _ : Grew wr w6)).below HB68.out hOl).other (a := ⟨g, j * 3 + 2, none⟩) (by simp; omega) (.slice da dn dc))
        have HB9 := Lib.hid (show Below (W.heap.size + 1 + 1 + 1) w3 (w8.setCell ⟨g, j * 3 + 2, none⟩ (.slice da dn dc)) from (hB6.trans (HB68.out.mono hsz6)).setCell hgB _)
        clear hEA hEA8 hrow HTA HX HDR HB68 HW8 HCG HCR HCL HDL hs7 hs8 st0 st1 s0 s1 r0 r1 r2 hB6 hgw hgw6
        go_wp2_with fail
        go_round
        case rel => exact ⟨j + 1, _, by go_num, by omega, HRW.out, HN.out, HOU9.out, HB9.out⟩
        case measure => simp [intOf]; omega
    · have hje : j = a.length := by omega
      subst hje
      have q0 := HOU.out.cell_at (i := 0) rfl
      have oR := HO3.out.below HBW.out (by omega)
      have q1 := oR.cell_at (i := 0) rfl
      have q2 := oR.free 0
      obtain ⟨w9, hw9⟩ : ∃ w9, wr.setCell ⟨W.heap.size + 1 + 1, 0, none⟩ (.slice (some ⟨g, 0, none⟩) a.length capg) = w9 := ⟨_, rfl⟩
      have o9 : Owns w9 (W.heap.size + 1 + 1) [.slice (some ⟨g, 0, none⟩) a.length capg] 24 := hw9 ▸ oR.set 0 _
      have e9 : EdgAt a es B g a.length vs' w9 := hw9 ▸ HEA.out.other (b := ⟨W.heap.size + 1 + 1, 0, none⟩) (by simp; omega) (by show B ≤ W.heap.size + 1 + 1; omega) _
      have r9 : Owns w9 g (triVs vs' ++ rest) 51 := hw9 ▸ HR.out.other (a := ⟨W.heap.size + 1 + 1, 0, none⟩) (by simp; omega) _
      have hs9 : Grew W w9 := by
        rw [← hw9]
        exact Below.setCell hgw (by show W.heap.size ≤ W.heap.size + 1 + 1; omega) _
      have hA9 : Stay (fun k => B ≤ k ∧ k < W.heap.size) w9 (fun w => AutV .u8 w w.heap.size (.slice (some ⟨g, 0, none⟩) a.length capg) (a.trim es)) := by
        intro w hb
        have hgW : W.heap.size ≤ g := by omega
        have e10 : EdgAt a es B g a.length vs' w := e9.but hb (fun k hk => hk.1) (fun k hk => by omega)
        have r10 := hb.owns r9 (fun hk => by omega)
        have hsz : B ≤ w.heap.size := Nat.le_trans (Nat.le_trans hBW hs9.size) hb.size
        have hd := e10.done hsz
        have hrow := row_of_owns (n := a.length) (B := W.heap.size) r10 (by rw [triVs_len, e9.len]) (by omega) hng (by unfold maxLen; omega) (by
          have h1 := HLG.out
          have h2 := HE.out.len
          simp only [List.length_append, triVs_len, e9.len, h2] at h1 ⊢
          exact h1)
        have := sts_of_row (l := a.trim es) (by simpa [Aut.trim] using hrow) hd
        simpa [Aut.trim] using this
      have HA9 := Lib.hid hA9
      have HS9 := Lib.hid hs9
      have HO9 := Lib.hid o9
      clear hA9 hs9 o9 e9 r9 oR hgw
      go_wp2_with fail
      refine bodyPost_ret (results_cell_row (d := Tryd.prog.underlying 24 |>.getD default) rfl _ _ (W.heap.size + 1 + 1) 24 _ (0, 0) rfl HO9.out rfl rfl rfl) rfl ?_
      exact ⟨_, rfl, HA9.out, HS9.out⟩
end Go.Proofs.YtogmlonhciiomaaDoor
