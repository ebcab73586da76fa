/- A grammar that is handed in reads as one: what the row's hypothesis says of the argument gives 'GrAt'. -/
import Derived.ChangeArms
import Derived.SizedLaws
import Derived.Test.YtkinlcichclnkaaDoorRows
import Derived.ProofKit
import Derived.Below
import Derived.Test.YtkinlcichclnkaaDoorQT4
import Derived.Test.YtkinlcichclnkaaDoorQT37
namespace Go.Proofs.YtkinlcichclnkaaDoor
open Go.RowKit Go.ChangeShapes Go.WideShapes

section
variable {H : Type} {enc : TypeId × Value → H} {P : Program} {w : World} {base : Nat} {spare : Nat → Bool} {held : Bool}

theorem list2 {α : Type} : ∀ {cs : List α}, cs.length = 2 → ∃ a b, cs = [a, b]
  | [a, b], _ => ⟨a, b, rfl⟩
theorem list3 {α : Type} : ∀ {cs : List α}, cs.length = 3 → ∃ a b c, cs = [a, b, c]
  | [a, b, c], _ => ⟨a, b, c, rfl⟩
theorem list4 {α : Type} : ∀ {cs : List α}, cs.length = 4 → ∃ a b c d, cs = [a, b, c, d]
  | [a, b, c, d], _ => ⟨a, b, c, d, rfl⟩
theorem list5 {α : Type} : ∀ {cs : List α}, cs.length = 5 → ∃ a b c d e, cs = [a, b, c, d, e]
  | [a, b, c, d, e], _ => ⟨a, b, c, d, e, rfl⟩
theorem list10 {α : Type} {cs : List α} (h : cs.length = 10) : ∃ a b c d e f g i j k, cs = [a, b, c, d, e, f, g, i, j, k] := by
  obtain ⟨a, b, c, d, e, h1⟩ := list5 (cs := cs.take 5) (by simp [h])
  obtain ⟨f, g, i, j, k, h2⟩ := list5 (cs := cs.drop 5) (by simp [h])
  refine ⟨a, b, c, d, e, f, g, i, j, k, ?_⟩
  rw [← List.take_append_drop 5 cs, h1, h2]
  rfl

/-- no part of it weighs more than can be reached -/
def Light (P : Program) (t : TypeId) (d : DataW H) : Prop := ∀ n ∈ d.weights P t, n ≤ reachBytes

theorem light_each : ∀ (ts : List TypeId) (ds : List (DataW H)) (_ : ∀ n ∈ DataW.weightsEach P ts ds, n ≤ reachBytes) (i : Nat) (t : TypeId) (d : DataW H), ts[i]? = some t → ds[i]? = some d → Light P t d
  | [], _, _, _, _, _, h, _ => by simp at h
  | _ :: _, [], _, _, _, _, _, h => by simp at h
  | t :: ts, d :: ds, hw, 0, t', d', h, h' => by
    simp only [List.getElem?_cons_zero, Option.some.injEq] at h h'
    subst h; subst h'
    intro n hn
    exact hw n (by rw [DataW.weightsEach]; exact List.mem_append_left _ hn)
  | t :: ts, d :: ds, hw, i + 1, t', d', h, h' => by
    rw [List.getElem?_cons_succ] at h h'
    exact light_each ts ds (fun n hn => hw n (by rw [DataW.weightsEach]; exact List.mem_append_right _ hn)) i t' d' h h'

theorem light_all {e : TypeId} : ∀ (ds : List (DataW H)) (_ : ∀ n ∈ DataW.weightsAll P e ds, n ≤ reachBytes) (i : Nat) (d : DataW H), ds[i]? = some d → Light P e d
  | [], _, _, _, h => by simp at h
  | d :: ds, hw, 0, d', h => by
    simp only [List.getElem?_cons_zero, Option.some.injEq] at h
    subst h
    intro n hn
    exact hw n (by rw [DataW.weightsAll]; exact List.mem_append_left _ hn)
  | d :: ds, hw, i + 1, d', h => by
    rw [List.getElem?_cons_succ] at h
    exact light_all ds (fun n hn => hw n (by rw [DataW.weightsAll]; exact List.mem_append_right _ hn)) i d' h

/-- a struct's fields -/
theorem trod_fields {t : TypeId} {fs : Array Field} {fuel : Nat} {cs : List Value} {x : DataW H × List MemPlace} (ht : P.underlying t = some (.struct fs)) (h : DataW.trod enc P w base spare held fuel t cs = some x) (hw : Light P t x.1) :
    ∃ n, fuel = n + 1 ∧ cs.length = P.cellsOf t ∧ ∀ (i : Nat) (ty off c : Nat), (fs[i]?).map (fun f => (f.type, f.offset)) = some (ty, off) → P.cellsOf ty = c → ∃ y, DataW.trod enc P w base spare held n ty ((cs.drop off).take c) = some y ∧ Light P ty y.1 := by
  obtain ⟨xs, n, rfl, rfl, hl, hn, hf⟩ := DataW.trod_struct ht h
  refine ⟨n, rfl, hl, fun i ty off c hi hc => ?_⟩
  rw [Option.map_eq_some_iff] at hi
  obtain ⟨f, hi, he⟩ := hi
  simp only [Prod.mk.injEq] at he
  obtain ⟨rfl, rfl⟩ := he
  subst hc
  have h1 := hf i f hi
  have hlt : i < xs.length := by
    rw [hn]
    by_cases hc : i < fs.size
    · exact hc
    · rw [Array.getElem?_eq_none (by omega)] at hi; cases hi
  rw [List.getElem?_eq_getElem hlt] at h1
  refine ⟨xs[i], h1, ?_⟩
  have hw2 : ∀ n ∈ DataW.weightsEach P (fs.toList.map (·.type)) (xs.map (·.1)), n ≤ reachBytes := by
    intro n hn
    refine hw n ?_
    rw [DataW.weights, ht]
    exact hn
  exact light_each _ _ hw2 i f.type xs[i].1 (by rw [List.getElem?_map]; rw [Array.getElem?_toList, hi]; rfl) (by rw [List.getElem?_map, List.getElem?_eq_getElem hlt]; rfl)

theorem len_capO {t e : TypeId} {fuel : Nat} {a : Option Addr} {n c : Nat} {x : DataW H × List MemPlace} (ht : P.underlying t = some (.slice e)) (h : DataW.trod enc P w base spare held fuel t [.slice a n c] = some x) : n ≤ c := by
  rcases DataW.trod_slice ht h with ⟨h1, -⟩ | ⟨a', len, cap, elems, rest, m, -, h2, -, -, hl, -⟩
  · simp at h1; omega
  · simp at h2; omega
/-- a slice's elements: each stands whole in one block -/
theorem trod_elems {t e : TypeId} {fuel : Nat} {cs : List Value} {x : DataW H × List MemPlace} (ht : P.underlying t = some (.slice e)) (hpos : 1 ≤ P.bytesOf e) (hc : 1 ≤ P.cellsOf e) (h : DataW.trod enc P w base spare held fuel t cs = some x) (hw : Light P t x.1) :
    ∃ (a : Option Addr) (len cap n : Nat), fuel = n + 1 ∧ cs = [.slice a len cap] ∧ len ≤ reachN ∧ ∀ i, i < len → ∃ (b off : Nat) (cs' : List Value) (y : DataW H × List MemPlace), a = some ⟨b, off, none⟩ ∧ b < w.heap.size ∧
      cs'.length = P.cellsOf e ∧ (∀ j, j < P.cellsOf e → w.cell? ⟨b, off + i * P.cellsOf e + j, none⟩ = cs'[j]?) ∧ DataW.trod enc P w base spare held n e cs' = some y ∧ Light P e y.1 := by
  have hfu : ∃ n, fuel = n + 1 := by
    cases fuel with
    | zero => simp [DataW.trod] at h
    | succ n => exact ⟨n, rfl⟩
  rcases DataW.trod_slice ht h with ⟨rfl, rfl⟩ | ⟨a, len, cap, elems, rest, n, rfl, rfl, rfl, hb, hl, hm, hlen, hel, hsp, hns⟩
  · obtain ⟨n, rfl⟩ := hfu
    exact ⟨none, 0, 0, n, rfl, rfl, by simp [reachN], fun i hi => absurd hi (by omega)⟩
  have hw2 : ∀ n ∈ (DataW.slice (elems.map (·.1)) (rest.map (·.1))).weights P t, n ≤ reachBytes := hw
  rw [DataW.weights, ht] at hw2
  have h0 := hw2 _ (List.mem_cons_self ..)
  simp only [List.length_map] at h0
  have h0' : elems.length + rest.length ≤ reachBytes := Nat.le_trans (Nat.le_mul_of_pos_right _ hpos) h0
  refine ⟨some a, len, cap, n, rfl, rfl, ?_, fun i hi => ?_⟩
  · have : reachBytes ≤ reachN := by decide
    omega
  have key : ∀ i, i < len → ∃ (cs' : List Value) (y : DataW H × List MemPlace), cs'.length = P.cellsOf e ∧ (∀ j, j < P.cellsOf e → w.cell? ((a.add (i * P.cellsOf e)).add j) = cs'[j]?) ∧ DataW.trod enc P w base spare held n e cs' = some y ∧ Light P e y.1 := by
    intro i hi
    have h1 := hel i hi
    rw [List.getElem?_eq_getElem (by omega), Option.bind_eq_some_iff] at h1
    obtain ⟨cs', h2, h3⟩ := h1
    obtain ⟨_, hcl, hcell⟩ := World.cells?_some h2
    refine ⟨cs', elems[i], hcl, hcell, h3, ?_⟩
    exact light_all (elems.map (·.1)) (fun n hn => hw2 n (List.mem_cons_of_mem _ (List.mem_append_left _ hn))) i _ (by rw [List.getElem?_map, List.getElem?_eq_getElem (by omega)]; rfl)
  obtain ⟨b, off, spot⟩ := a
  obtain ⟨c0, y0, l0, hj0, -, -⟩ := key 0 (by omega)
  have h4 := hj0 0 hc
  rw [List.getElem?_eq_getElem (by omega)] at h4
  simp only [Addr.add, Nat.zero_mul, if_true, World.cell?] at h4
  have hb2 : b < w.heap.size ∧ spot = none := by
    split at h4
    · rename_i hcs
      split at h4
      · cases h4
      · rename_i hs
        refine ⟨?_, by simpa using hs⟩
        by_cases hlt : b < w.heap.size
        · exact hlt
        · rw [Array.getElem?_eq_none (by omega)] at hcs; cases hcs
    · cases h4
  obtain ⟨hbl, rfl⟩ := hb2
  obtain ⟨cs', y, k1, k2, k3, k4⟩ := key i hi
  refine ⟨b, off, cs', y, rfl, hbl, k1, fun j hj => ?_, k3, k4⟩
  have := k2 j hj
  rw [add_plain, add_plain] at this
  exact this

/-- a row of parts, each as it is wanted -/
theorem row_of {α : Type} {Q : Nat → α → Prop} : ∀ (len i : Nat), (∀ k, k < len → ∃ x, Q (i + k) x) → ∃ l : List α, l.length = len ∧ ∀ k (hk : k < l.length), Q (i + k) l[k]
  | 0, _, _ => ⟨[], rfl, fun k hk => absurd hk (by simp)⟩
  | len + 1, i, h => by
    obtain ⟨x, hx⟩ := h 0 (by omega)
    obtain ⟨l, hl, hq⟩ := row_of len (i + 1) (fun k hk => by
      obtain ⟨y, hy⟩ := h (k + 1) (by omega)
      exact ⟨y, by rw [show i + 1 + k = i + (k + 1) by omega]; exact hy⟩)
    refine ⟨x :: l, by simp [hl], fun k hk => ?_⟩
    cases k with
    | zero => exact hx
    | succ k =>
      rw [show i + (k + 1) = i + 1 + k by omega]
      exact hq k (by simpa using hk)

theorem NodesAt.of {W : World} {lim : Nat} {a : Option Addr} : ∀ (l : List Nd) (i : Nat), (∀ k (hk : k < l.length), ∃ b off, a = some ⟨b, off, none⟩ ∧ b < lim ∧ NodeAt W lim (W.cell? ⟨b, off + (i + k) * 5, none⟩) (W.cell? ⟨b, off + (i + k) * 5 + 1, none⟩) (W.cell? ⟨b, off + (i + k) * 5 + 2, none⟩) (W.cell? ⟨b, off + (i + k) * 5 + 3, none⟩) (W.cell? ⟨b, off + (i + k) * 5 + 4, none⟩) l[k]) → NodesAt W lim a i l
  | [], _, _ => by rw [NodesAt]; trivial
  | n :: r, i, h => by
    rw [NodesAt]
    refine ⟨h 0 (by simp), NodesAt.of r (i + 1) fun k hk => ?_⟩
    have := h (k + 1) (by simpa using hk)
    rw [show i + (k + 1) = i + 1 + k by omega] at this
    exact this

theorem RangesAt.of {W : World} {lim : Nat} {a : Option Addr} : ∀ (l : List (Int × Int)) (i : Nat), (∀ k (hk : k < l.length), ∃ b off, a = some ⟨b, off, none⟩ ∧ b < lim ∧ W.cell? ⟨b, off + (i + k) * 2, none⟩ = some (.int .i32 l[k].1) ∧ W.cell? ⟨b, off + (i + k) * 2 + 1, none⟩ = some (.int .i32 l[k].2)) → RangesAt W lim a i l
  | [], _, _ => by rw [RangesAt]; trivial
  | n :: r, i, h => by
    rw [RangesAt]
    refine ⟨h 0 (by simp), RangesAt.of r (i + 1) fun k hk => ?_⟩
    have := h (k + 1) (by simpa using hk)
    rw [show i + (k + 1) = i + 1 + k by omega] at this
    exact this

theorem RulesAt.of {W : World} {lim : Nat} {a : Option Addr} : ∀ (l : List Rl) (i : Nat), (∀ k (hk : k < l.length), ∃ b off, a = some ⟨b, off, none⟩ ∧ b < lim ∧ RuleAt W lim (W.cell? ⟨b, off + (i + k) * 10, none⟩) (W.cell? ⟨b, off + (i + k) * 10 + 1, none⟩) (W.cell? ⟨b, off + (i + k) * 10 + 2, none⟩) (W.cell? ⟨b, off + (i + k) * 10 + 3, none⟩) (W.cell? ⟨b, off + (i + k) * 10 + 4, none⟩)
      (W.cell? ⟨b, off + (i + k) * 10 + 5, none⟩) (W.cell? ⟨b, off + (i + k) * 10 + 6, none⟩) (W.cell? ⟨b, off + (i + k) * 10 + 7, none⟩) (W.cell? ⟨b, off + (i + k) * 10 + 8, none⟩) (W.cell? ⟨b, off + (i + k) * 10 + 9, none⟩) l[k]) → RulesAt W lim a i l
  | [], _, _ => by rw [RulesAt]; trivial
  | n :: r, i, h => by
    rw [RulesAt]
    refine ⟨h 0 (by simp), RulesAt.of r (i + 1) fun k hk => ?_⟩
    have := h (k + 1) (by simpa using hk)
    rw [show i + (k + 1) = i + 1 + k by omega] at this
    exact this

theorem light_string {t : TypeId} {cs : List Value} {x : DataW H × List MemPlace} {fuel : Nat} (ht : P.underlying t = some .string) (h : DataW.trod enc P w base spare held fuel t cs = some x) (hw : Light P t x.1) : ∃ s, cs = [.string s] ∧ s.size ≤ reachN := by
  obtain ⟨s, h1, h2, h3⟩ := DataW.trod_string ht h
  refine ⟨s, h1, ?_⟩
  subst h2
  have := hw s.data.toList.length (by rw [DataW.weights]; exact List.mem_singleton.2 rfl)
  have e : reachBytes ≤ reachN := by decide
  have e2 : s.data.toList.length = s.size := Array.length_toList
  omega
end

section
variable {H : Type} {enc : TypeId × Value → H} {w : World} {base : Nat} {spare : Nat → Bool} {held : Bool}

theorem light_int {t : TypeId} {k : IntKind} {P : Program} {cs : List Value} {x : DataW H × List MemPlace} {fuel : Nat} (ht : P.underlying t = some (.int k)) (h : DataW.trod enc P w base spare held fuel t cs = some x) : ∃ n, cs = [.int k n] ∧ k.min ≤ n ∧ n ≤ k.max := by
  obtain ⟨n, h1, -, h3⟩ := DataW.trod_int ht h
  refine ⟨n, h1, ?_⟩
  simpa [Lit.wf] using h3

theorem cells1 : Tryd.prog.cellsOf 21 = 1 ∧ Tryd.prog.cellsOf 9 = 1 ∧ Tryd.prog.cellsOf 30 = 1 ∧ Tryd.prog.cellsOf 29 = 1 ∧ Tryd.prog.cellsOf 3 = 1 ∧ Tryd.prog.cellsOf 31 = 1 ∧ Tryd.prog.cellsOf 32 = 1 ∧ Tryd.prog.cellsOf 24 = 1 := ⟨by kernel_rfl, by kernel_rfl, by kernel_rfl, by kernel_rfl, by kernel_rfl, by kernel_rfl, by kernel_rfl, by kernel_rfl⟩
theorem cellsN : Tryd.prog.cellsOf 58 = 2 ∧ Tryd.prog.cellsOf 34 = 5 ∧ Tryd.prog.cellsOf 38 = 10 ∧ Tryd.prog.cellsOf 26 = 4 ∧ Tryd.prog.cellsOf 36 = 3 ∧ Tryd.prog.cellsOf 23 = 2 := ⟨by kernel_rfl, by kernel_rfl, by kernel_rfl, by kernel_rfl, by kernel_rfl, by kernel_rfl⟩
theorem bytesN : Tryd.prog.bytesOf 58 = 8 ∧ Tryd.prog.bytesOf 34 = 88 ∧ Tryd.prog.bytesOf 38 = 136 := ⟨by kernel_rfl, by kernel_rfl, by kernel_rfl⟩

theorem range_open {fuel : Nat} {cs : List Value} {x : DataW H × List MemPlace} (h : DataW.trod enc Tryd.prog w base spare held fuel 58 cs = some x) (hw : Light Tryd.prog 58 x.1) : ∃ p : Int × Int, cs = [.int .i32 p.1, .int .i32 p.2] := by
  obtain ⟨n, -, hl, hf⟩ := trod_fields Tryd.underlying58 h hw
  rw [cellsN.1] at hl
  obtain ⟨a, b, rfl⟩ := list2 hl
  obtain ⟨y, h1, -⟩ := hf 0 21 0 1 rfl cells1.1
  obtain ⟨z, h2, -⟩ := hf 1 21 1 1 rfl cells1.1
  obtain ⟨p, e1, -⟩ := light_int Tryd.underlying21 h1
  obtain ⟨q, e2, -⟩ := light_int Tryd.underlying21 h2
  simp at e1 e2
  exact ⟨(p, q), by simp [e1, e2]⟩

theorem ranges_open {fuel : Nat} {cs : List Value} {x : DataW H × List MemPlace} (h : DataW.trod enc Tryd.prog w base spare held fuel 31 cs = some x) (hw : Light Tryd.prog 31 x.1) :
    ∃ a cap, ∃ set : List (Int × Int), cs = [.slice a set.length cap] ∧ set.length ≤ reachN ∧ RangesAt w w.heap.size a 0 set := by
  obtain ⟨a, len, cap, n, -, rfl, hlen, hel⟩ := trod_elems Tryd.underlying31 (by rw [bytesN.1]; decide) (by rw [cellsN.1]; decide) h hw
  obtain ⟨l, hl, hq⟩ := row_of (Q := fun i (p : Int × Int) => ∃ b off, a = some ⟨b, off, none⟩ ∧ b < w.heap.size ∧ w.cell? ⟨b, off + i * 2, none⟩ = some (.int .i32 p.1) ∧ w.cell? ⟨b, off + i * 2 + 1, none⟩ = some (.int .i32 p.2)) len 0 (fun k hk => by
    obtain ⟨b, off, cs', y, e1, e2, e3, e4, e5, e6⟩ := hel k hk
    obtain ⟨p, rfl⟩ := range_open e5 e6
    rw [cellsN.1] at e4
    rw [Nat.zero_add]
    exact ⟨p, b, off, e1, e2, e4 0 (by decide), e4 1 (by decide)⟩)
  subst hl
  exact ⟨a, cap, l, rfl, hlen, RangesAt.of l 0 hq⟩

theorem node_open : ∀ (fuel : Nat) {cs : List Value} {x : DataW H × List MemPlace}, DataW.trod enc Tryd.prog w base spare held fuel 34 cs = some x → Light Tryd.prog 34 x.1 →
    ∃ v0 v1 v2 v3 v4 n, cs = [v0, v1, v2, v3, v4] ∧ NodeAt w w.heap.size (some v0) (some v1) (some v2) (some v3) (some v4) n := by
  intro fuel
  induction fuel using Nat.strongRecOn with
  | _ fuel ih =>
  intro cs x h hw
  obtain ⟨n, rfl, hl, hf⟩ := trod_fields Tryd.underlying34 h hw
  rw [cellsN.2.1] at hl
  obtain ⟨v0, v1, v2, v3, v4, rfl⟩ := list5 hl
  obtain ⟨y0, h0, -⟩ := hf 0 30 0 1 rfl cells1.2.2.1
  obtain ⟨y1, h1, w1⟩ := hf 1 9 1 1 rfl cells1.2.1
  obtain ⟨y2, h2, w2⟩ := hf 2 9 2 1 rfl cells1.2.1
  obtain ⟨y3, h3, w3⟩ := hf 3 31 3 1 rfl cells1.2.2.2.2.2.1
  obtain ⟨y4, h4, w4⟩ := hf 4 32 4 1 rfl cells1.2.2.2.2.2.2.1
  obtain ⟨k, e0, k0, k1⟩ := light_int Tryd.underlying30 h0
  obtain ⟨nm, e1, l1⟩ := light_string Tryd.underlying9 h1 w1
  obtain ⟨tx, e2, l2⟩ := light_string Tryd.underlying9 h2 w2
  obtain ⟨a3, cap3, set, e3, l3, r3⟩ := ranges_open h3 w3
  obtain ⟨a4, len4, cap4, m, rfl, e4, l4, hel⟩ := trod_elems Tryd.underlying32 (by rw [bytesN.2.1]; decide) (by rw [cellsN.2.1]; decide) h4 w4
  have hcap := h4
  rw [e4] at hcap
  replace hcap := len_capO Tryd.underlying32 hcap
  simp at e0 e1 e2 e3 e4
  subst e0 e1 e2 e3 e4
  obtain ⟨l, hl, hq⟩ := row_of (Q := fun i (p : Nd) => ∃ b off, a4 = some ⟨b, off, none⟩ ∧ b < w.heap.size ∧ NodeAt w w.heap.size (w.cell? ⟨b, off + i * 5, none⟩) (w.cell? ⟨b, off + i * 5 + 1, none⟩) (w.cell? ⟨b, off + i * 5 + 2, none⟩) (w.cell? ⟨b, off + i * 5 + 3, none⟩) (w.cell? ⟨b, off + i * 5 + 4, none⟩) p) len4 0 (fun k hk => by
    obtain ⟨b, off, cs', y, f1, f2, f3, f4, f5, f6⟩ := hel k hk
    obtain ⟨u0, u1, u2, u3, u4, nd, rfl, hn⟩ := ih m (by omega) f5 f6
    rw [cellsN.2.1] at f4
    rw [Nat.zero_add]
    refine ⟨nd, b, off, f1, f2, ?_⟩
    have g0 := f4 0 (by decide)
    have g1 := f4 1 (by decide)
    have g2 := f4 2 (by decide)
    have g3 := f4 3 (by decide)
    have g4 := f4 4 (by decide)
    rw [Nat.add_zero] at g0
    rw [g0, g1, g2, g3, g4]
    exact hn)
  subst hl
  refine ⟨_, _, _, _, _, .mk k nm tx set l, rfl, ?_⟩
  rw [NodeAt]
  exact ⟨⟨k0, k1⟩, l1, l2, rfl, rfl, rfl, ⟨a3, cap3, rfl, l3, r3⟩, ⟨a4, cap4, rfl, Nat.le_min.2 ⟨l4, hcap⟩, NodesAt.of l 0 hq⟩⟩

theorem rule_open {fuel : Nat} {cs : List Value} {x : DataW H × List MemPlace} (h : DataW.trod enc Tryd.prog w base spare held fuel 38 cs = some x) (hw : Light Tryd.prog 38 x.1) :
    ∃ v0 v1 v2 v3 v4 v5 v6 v7 v8 v9 r, cs = [v0, v1, v2, v3, v4, v5, v6, v7, v8, v9] ∧ RuleAt w w.heap.size (some v0) (some v1) (some v2) (some v3) (some v4) (some v5) (some v6) (some v7) (some v8) (some v9) r := by
  obtain ⟨n, rfl, hl, hf⟩ := trod_fields Tryd.underlying38 h hw
  rw [cellsN.2.2.1] at hl
  obtain ⟨v0, v1, v2, v3, v4, v5, v6, v7, v8, v9, rfl⟩ := list10 hl
  obtain ⟨y0, h0, w0⟩ := hf 0 9 0 1 rfl cells1.2.1
  obtain ⟨y1, h1, -⟩ := hf 1 29 1 1 rfl cells1.2.2.2.1
  obtain ⟨y2, h2, w2⟩ := hf 2 34 2 5 rfl cellsN.2.1
  obtain ⟨y3, h3, w3⟩ := hf 3 36 7 3 rfl cellsN.2.2.2.2.1
  obtain ⟨nm, e0, l0⟩ := light_string Tryd.underlying9 h0 w0
  obtain ⟨k, e1, k0, k1⟩ := light_int Tryd.underlying29 h1
  obtain ⟨u2, u3, u4, u5, u6, nd, e2, hn⟩ := node_open n h2 w2
  obtain ⟨m, -, -, hg⟩ := trod_fields Tryd.underlying36 h3 w3
  obtain ⟨z0, p0, -⟩ := hg 0 3 0 1 rfl cells1.2.2.2.2.1
  obtain ⟨z1, p1, -⟩ := hg 1 3 1 1 rfl cells1.2.2.2.2.1
  obtain ⟨z2, p2, -⟩ := hg 2 3 2 1 rfl cells1.2.2.2.2.1
  obtain ⟨q0, f0, a0, b0⟩ := light_int Tryd.underlying3 p0
  obtain ⟨q1, f1, a1, b1⟩ := light_int Tryd.underlying3 p1
  obtain ⟨q2, f2, a2, b2⟩ := light_int Tryd.underlying3 p2
  simp at e0 e1 e2 f0 f1 f2
  obtain ⟨rfl, rfl, rfl, rfl, rfl⟩ := e2
  subst e0 e1 f0 f1 f2
  refine ⟨_, _, _, _, _, _, _, _, _, _, ⟨nm, k, nd, q0, q1, q2⟩, rfl, ?_⟩
  exact ⟨rfl, l0, rfl, ⟨k0, k1⟩, hn, rfl, rfl, rfl, ⟨a0, b0⟩, ⟨a1, b1⟩, ⟨a2, b2⟩⟩

set_option maxRecDepth 20000 in
/-- THE OPENING of a grammar. -/
theorem gr_open {W : World} {v : Value} {d : DataW H} {ps : List MemPlace} {b0 : Nat} (hval : Value.okWide Tryd.prog W .any b0 26 v) (h : DataW.Trod enc Tryd.prog W base spare held 26 v d ps) (hw : Light Tryd.prog 26 d) :
    ∃ v0 v1 v2 v3 g, v = .agg #[v0, v1, v2, v3] ∧ GrAt W W.heap.size (some v0) (some v1) (some v2) (some v3) g := by
  obtain ⟨cs, rfl, hsz⟩ := okWide_struct Tryd.underlying26 hval
  obtain ⟨fuel, h⟩ := h
  obtain ⟨n, rfl, hl, hf⟩ := trod_fields Tryd.underlying26 h hw
  rw [cellsN.2.2.2.1] at hl
  obtain ⟨v0, v1, v2, v3, hcs⟩ := list4 hl
  rw [hcs] at hf
  obtain ⟨y0, h0, w0⟩ := hf 0 9 0 1 rfl cells1.2.1
  obtain ⟨y1, h1, w1⟩ := hf 1 23 1 2 rfl cellsN.2.2.2.2.2
  obtain ⟨y2, h2, w2⟩ := hf 2 24 3 1 rfl cells1.2.2.2.2.2.2.2
  obtain ⟨nm, e0, l0⟩ := light_string Tryd.underlying9 h0 w0
  obtain ⟨m, -, -, hg⟩ := trod_fields Tryd.underlying23 h1 w1
  obtain ⟨z0, p0, -⟩ := hg 0 3 0 1 rfl cells1.2.2.2.2.1
  obtain ⟨z1, p1, -⟩ := hg 1 3 1 1 rfl cells1.2.2.2.2.1
  obtain ⟨q0, f0, a0, c0⟩ := light_int Tryd.underlying3 p0
  obtain ⟨q1, f1, a1, c1⟩ := light_int Tryd.underlying3 p1
  obtain ⟨a4, len4, cap4, m, -, e4, l4, hel⟩ := trod_elems Tryd.underlying24 (by rw [bytesN.2.2]; decide) (by rw [cellsN.2.2.1]; decide) h2 w2
  simp at e0 e4 f0 f1
  subst e0 e4 f0 f1
  obtain ⟨l, hl, hq⟩ := row_of (Q := fun i (p : Rl) => ∃ b off, a4 = some ⟨b, off, none⟩ ∧ b < W.heap.size ∧ RuleAt W W.heap.size (W.cell? ⟨b, off + i * 10, none⟩) (W.cell? ⟨b, off + i * 10 + 1, none⟩) (W.cell? ⟨b, off + i * 10 + 2, none⟩) (W.cell? ⟨b, off + i * 10 + 3, none⟩) (W.cell? ⟨b, off + i * 10 + 4, none⟩)
      (W.cell? ⟨b, off + i * 10 + 5, none⟩) (W.cell? ⟨b, off + i * 10 + 6, none⟩) (W.cell? ⟨b, off + i * 10 + 7, none⟩) (W.cell? ⟨b, off + i * 10 + 8, none⟩) (W.cell? ⟨b, off + i * 10 + 9, none⟩) p) len4 0 (fun k hk => by
    obtain ⟨b, off, cs', y, f1, f2, f3, f4, f5, f6⟩ := hel k hk
    obtain ⟨u0, u1, u2, u3, u4, u5, u6, u7, u8, u9, r, rfl, hr⟩ := rule_open f5 f6
    rw [cellsN.2.2.1] at f4
    rw [Nat.zero_add]
    refine ⟨r, b, off, f1, f2, ?_⟩
    have g0 := f4 0 (by decide)
    rw [Nat.add_zero] at g0
    rw [g0, f4 1 (by decide), f4 2 (by decide), f4 3 (by decide), f4 4 (by decide), f4 5 (by decide), f4 6 (by decide), f4 7 (by decide), f4 8 (by decide), f4 9 (by decide)]
    exact hr)
  subst hl
  refine ⟨_, _, _, _, ⟨nm, q0, q1, l⟩, congrArg Value.agg (Array.ext' hcs), ?_⟩
  exact ⟨rfl, l0, rfl, rfl, ⟨a0, c0⟩, ⟨a1, c1⟩, a4, cap4, rfl, l4, RulesAt.of l 0 hq⟩
end
end Go.Proofs.YtkinlcichclnkaaDoor

/- The shutting of a row whose function leaves old memory as it was: what it answers, and that its arguments read as they did. -/
namespace Go.Proofs.YtkinlcichclnkaaDoor
open Go.ChangeShapes Go.WideShapes Go.RowKit
section
variable {H : Type} {enc : TypeId × Value → H} {P : Program}

/-- below the heap's old size nothing has turned, a bool is answered: the row's post -/
theorem post_below {f : Func} {s : ChangeSpec} {fresh handsOn again : Bool} {W W' : World} {args : Array Value} {v : Value} {ds gs : List (DataW H)} {before : List MemPlace} (hb : Below W.heap.size W W')
    (hW : DataW.Whole enc P f.params.toList s.vars false W args.toList ds gs before)
    (hres : ∀ (b : Nat) (sp : Nat → Bool) (hd : Bool), DataW.TrodAll enc P W' b sp hd f.resultTypes.toList (v.resultList f.resultTypes.size) (s.fn H (ds ++ gs)).results [])
    (hargs : ∀ sp : Nat → Bool, (∀ p ∈ before, sp p.block = true) → DataW.TrodAll enc P W' 0 sp true f.params.toList args.toList (s.fn H (ds ++ gs)).args before)
    (hvars : ∀ sp : Nat → Bool, DataW.TrodVars enc P W' sp s.vars (s.fn H (ds ++ gs)).vars [])
    (hok : ∀ (j : Nat) (t : TypeId) (r : Value), f.resultTypes[j]? = some t → (v.resultList f.resultTypes.size)[j]? = some r → Value.okWide P W' .any 0 t r) :
    s.post enc P f false fresh handsOn again W args v W' := by
  have hlt := hW.lt
  have hold : ∀ p ∈ before, (fun b => decide (b < W.heap.size)) p.block = true := fun p hp => by simpa using hlt p hp
  refine ⟨ds, gs, before, [], before, [], hW, hres _ _ _, hargs _ hold, hvars _, World.keptBut_mono (fun p hp => ⟨hp, Or.inr (Or.inl hp)⟩) (hb.frame _), fun _ => ?_⟩
  obtain ⟨_, _, _, _, _, hz, hn⟩ := hW
  refine ⟨hok, _, _, ([] ++ before) ++ [], ⟨[] ++ before, [], trodAll_append (hargs _ (fun _ _ => rfl)) (hres _ _ _), hvars _, rfl, ?_, fun h => (Bool.noConfusion h)⟩, ?_⟩
  · intro b off hp
    have hp' : MemPlace.cell b off ∈ before := by simpa using hp
    rw [hb.frozen (p := ⟨b, off, none⟩) (hlt _ hp')]
    exact hz b off hp'
  · intro p hp _
    simpa using hp
end
end Go.Proofs.YtkinlcichclnkaaDoor

/- Runes that are handed in, read as such. -/
namespace Go.Proofs.YtkinlcichclnkaaDoor
open Go.RowKit Go.ChangeShapes Go.WideShapes

set_option maxRecDepth 20000 in
theorem runes_open {H : Type} {enc : TypeId × Value → H} {base : Nat} {spare : Nat → Bool} {held : Bool} {W : World} {v : Value} {d : DataW H} {ps : List MemPlace} {b0 : Nat} (hval : Value.okWide Tryd.prog W .any b0 50 v) (h : DataW.Trod enc Tryd.prog W base spare held 50 v d ps) (hw : Light Tryd.prog 50 d) :
    ∃ (l : List Int) (a : Option Addr) (cap : Nat), v = .slice a l.length cap ∧ RunesAt W W.heap.size a l ∧ l.length ≤ reachN := by
  have hpc : Tryd.prog.cellsOf 21 = 1 := by kernel_rfl
  obtain ⟨a9, n9, c9, rfl⟩ := okWide_slice Tryd.underlying50 hval
  obtain ⟨fuel, h⟩ := h
  obtain ⟨a, len, cap, n, -, hcs, hlen, hel⟩ := trod_elems Tryd.underlying50 (of_decide_eq_true (by kernel_rfl)) (by rw [hpc]; decide) h hw
  simp [Value.cells] at hcs
  obtain ⟨rfl, rfl, rfl⟩ := hcs
  obtain ⟨l, hl, hq⟩ := row_of (Q := fun i (p : Int) => ∃ b off, a9 = some ⟨b, off, none⟩ ∧ b < W.heap.size ∧ W.cell? ⟨b, off + i, none⟩ = some (.int .i32 p)) n9 0 (fun k hk => by
    obtain ⟨b, off, cs', y, e1, e2, e3, e4, e5, e6⟩ := hel k hk
    obtain ⟨p, rfl, p0, p1⟩ := light_int (k := .i32) (by kernel_rfl) e5
    rw [hpc] at e4
    rw [Nat.zero_add]
    have := e4 0 (by decide)
    rw [Nat.mul_one, Nat.add_zero] at this
    exact ⟨p, b, off, e1, e2, this⟩)
  subst hl
  refine ⟨l, a9, c9, rfl, fun k hk => ?_, hlen⟩
  obtain ⟨b, off, h1, h2, h3⟩ := hq k hk
  rw [Nat.zero_add] at h3
  exact ⟨b, off, h1, h2, h3⟩
end Go.Proofs.YtkinlcichclnkaaDoor
