/- An automaton, a pair of bytes, lists of numbers, that are handed in, read as such. -/
import Derived.Test.YtogmlonhciiomaaDoorPrSm
import Derived.ChangeArms
import Derived.SizedLaws
import Derived.OpenShut
import Derived.Carry
namespace Go.Proofs.YtogmlonhciiomaaDoor
open Go.RowKit Go.ChangeShapes Go.WideShapes

section
variable {H : Type} {enc : TypeId × Value → H} {P : Program} {w : World} {base : Nat} {spare : Nat → Bool} {held : Bool}
theorem list2 {α : Type} : ∀ {cs : List α}, cs.length = 2 → ∃ a b, cs = [a, b]
  | [a, b], _ => ⟨a, b, rfl⟩
theorem list3 {α : Type} : ∀ {cs : List α}, cs.length = 3 → ∃ a b c, cs = [a, b, c]
  | [a, b, c], _ => ⟨a, b, c, rfl⟩
/-- no part of it weighs more than can be reached -/
def Light (P : Program) (t : TypeId) (d : DataW H) : Prop := ∀ n ∈ d.weights P t, n ≤ reachBytes

theorem light_each : ∀ (ts : List TypeId) (ds : List (DataW H)) (_ : ∀ n ∈ DataW.weightsEach P ts ds, n ≤ reachBytes) (i : Nat) (t : TypeId) (d : DataW H), ts[i]? = some t → ds[i]? = some d → Light P t d
  | [], _, _, _, _, _, h, _ => by simp at h
  | _ :: _, [], _, _, _, _, _, h => by simp at h
  | t :: ts, d :: ds, hw, 0, t', d', h, h' => by
    simp only [List.getElem?_cons_zero, Option.some.injEq] at h h'
    subst h; subst h'
    intro n hn
    exact hw n (by rw [DataW.weightsEach]; exact List.mem_append_left _ hn)
  | t :: ts, d :: ds, hw, i + 1, t', d', h, h' => by
    rw [List.getElem?_cons_succ] at h h'
    exact light_each ts ds (fun n hn => hw n (by rw [DataW.weightsEach]; exact List.mem_append_right _ hn)) i t' d' h h'

theorem light_all {e : TypeId} : ∀ (ds : List (DataW H)) (_ : ∀ n ∈ DataW.weightsAll P e ds, n ≤ reachBytes) (i : Nat) (d : DataW H), ds[i]? = some d → Light P e d
  | [], _, _, _, h => by simp at h
  | d :: ds, hw, 0, d', h => by
    simp only [List.getElem?_cons_zero, Option.some.injEq] at h
    subst h
    intro n hn
    exact hw n (by rw [DataW.weightsAll]; exact List.mem_append_left _ hn)
  | d :: ds, hw, i + 1, d', h => by
    rw [List.getElem?_cons_succ] at h
    exact light_all ds (fun n hn => hw n (by rw [DataW.weightsAll]; exact List.mem_append_right _ hn)) i d' h

/-- a struct's fields -/
theorem trod_fields {t : TypeId} {fs : Array Field} {fuel : Nat} {cs : List Value} {x : DataW H × List MemPlace} (ht : P.underlying t = some (.struct fs)) (h : DataW.trod enc P w base spare held fuel t cs = some x) (hw : Light P t x.1) :
    ∃ n, fuel = n + 1 ∧ cs.length = P.cellsOf t ∧ ∀ (i : Nat) (ty off c : Nat), (fs[i]?).map (fun f => (f.type, f.offset)) = some (ty, off) → P.cellsOf ty = c → ∃ y, DataW.trod enc P w base spare held n ty ((cs.drop off).take c) = some y ∧ Light P ty y.1 := by
  obtain ⟨xs, n, rfl, rfl, hl, hn, hf⟩ := DataW.trod_struct ht h
  refine ⟨n, rfl, hl, fun i ty off c hi hc => ?_⟩
  rw [Option.map_eq_some_iff] at hi
  obtain ⟨f, hi, he⟩ := hi
  simp only [Prod.mk.injEq] at he
  obtain ⟨rfl, rfl⟩ := he
  subst hc
  have h1 := hf i f hi
  have hlt : i < xs.length := by
    rw [hn]
    by_cases hc : i < fs.size
    · exact hc
    · rw [Array.getElem?_eq_none (by omega)] at hi; cases hi
  rw [List.getElem?_eq_getElem hlt] at h1
  refine ⟨xs[i], h1, ?_⟩
  have hw2 : ∀ n ∈ DataW.weightsEach P (fs.toList.map (·.type)) (xs.map (·.1)), n ≤ reachBytes := by
    intro n hn
    refine hw n ?_
    rw [DataW.weights, ht]
    exact hn
  exact light_each _ _ hw2 i f.type xs[i].1 (by rw [List.getElem?_map]; rw [Array.getElem?_toList, hi]; rfl) (by rw [List.getElem?_map, List.getElem?_eq_getElem hlt]; rfl)

/-- a slice's elements: each stands whole in one block -/
theorem trod_elems {t e : TypeId} {fuel : Nat} {cs : List Value} {x : DataW H × List MemPlace} (ht : P.underlying t = some (.slice e)) (hpos : 1 ≤ P.bytesOf e) (hc : 1 ≤ P.cellsOf e) (h : DataW.trod enc P w base spare held fuel t cs = some x) (hw : Light P t x.1) :
    ∃ (a : Option Addr) (len cap n : Nat), fuel = n + 1 ∧ cs = [.slice a len cap] ∧ len ≤ reachN ∧ ∀ i, i < len → ∃ (b off : Nat) (cs' : List Value) (y : DataW H × List MemPlace), a = some ⟨b, off, none⟩ ∧ b < w.heap.size ∧
      cs'.length = P.cellsOf e ∧ (∀ j, j < P.cellsOf e → w.cell? ⟨b, off + i * P.cellsOf e + j, none⟩ = cs'[j]?) ∧ DataW.trod enc P w base spare held n e cs' = some y ∧ Light P e y.1 := by
  have hfu : ∃ n, fuel = n + 1 := by
    cases fuel with
    | zero => simp [DataW.trod] at h
    | succ n => exact ⟨n, rfl⟩
  rcases DataW.trod_slice ht h with ⟨rfl, rfl⟩ | ⟨a, len, cap, elems, rest, n, rfl, rfl, rfl, hb, hl, hm, hlen, hel, hsp, hns⟩
  · obtain ⟨n, rfl⟩ := hfu
    exact ⟨none, 0, 0, n, rfl, rfl, by simp [reachN], fun i hi => absurd hi (by omega)⟩
  have hw2 : ∀ n ∈ (DataW.slice (elems.map (·.1)) (rest.map (·.1))).weights P t, n ≤ reachBytes := hw
  rw [DataW.weights, ht] at hw2
  have h0 := hw2 _ (List.mem_cons_self ..)
  simp only [List.length_map] at h0
  have h0' : elems.length + rest.length ≤ reachBytes := Nat.le_trans (Nat.le_mul_of_pos_right _ hpos) h0
  refine ⟨some a, len, cap, n, rfl, rfl, ?_, fun i hi => ?_⟩
  · have : reachBytes ≤ reachN := by decide
    omega
  have key : ∀ i, i < len → ∃ (cs' : List Value) (y : DataW H × List MemPlace), cs'.length = P.cellsOf e ∧ (∀ j, j < P.cellsOf e → w.cell? ((a.add (i * P.cellsOf e)).add j) = cs'[j]?) ∧ DataW.trod enc P w base spare held n e cs' = some y ∧ Light P e y.1 := by
    intro i hi
    have h1 := hel i hi
    rw [List.getElem?_eq_getElem (by omega), Option.bind_eq_some_iff] at h1
    obtain ⟨cs', h2, h3⟩ := h1
    obtain ⟨_, hcl, hcell⟩ := World.cells?_some h2
    refine ⟨cs', elems[i], hcl, hcell, h3, ?_⟩
    exact light_all (elems.map (·.1)) (fun n hn => hw2 n (List.mem_cons_of_mem _ (List.mem_append_left _ hn))) i _ (by rw [List.getElem?_map, List.getElem?_eq_getElem (by omega)]; rfl)
  obtain ⟨b, off, spot⟩ := a
  obtain ⟨c0, y0, l0, hj0, -, -⟩ := key 0 (by omega)
  have h4 := hj0 0 hc
  rw [List.getElem?_eq_getElem (by omega)] at h4
  simp only [Addr.add, Nat.zero_mul, if_true, World.cell?] at h4
  have hb2 : b < w.heap.size ∧ spot = none := by
    split at h4
    · rename_i hcs
      split at h4
      · cases h4
      · rename_i hs
        refine ⟨?_, by simpa using hs⟩
        by_cases hlt : b < w.heap.size
        · exact hlt
        · rw [Array.getElem?_eq_none (by omega)] at hcs; cases hcs
    · cases h4
  obtain ⟨hbl, rfl⟩ := hb2
  obtain ⟨cs', y, k1, k2, k3, k4⟩ := key i hi
  refine ⟨b, off, cs', y, rfl, hbl, k1, fun j hj => ?_, k3, k4⟩
  have := k2 j hj
  rw [add_plain, add_plain] at this
  exact this

/-- a row of parts, each as it is wanted -/
theorem row_of {α : Type} {Q : Nat → α → Prop} : ∀ (len i : Nat), (∀ k, k < len → ∃ x, Q (i + k) x) → ∃ l : List α, l.length = len ∧ ∀ k (hk : k < l.length), Q (i + k) l[k]
  | 0, _, _ => ⟨[], rfl, fun k hk => absurd hk (by simp)⟩
  | len + 1, i, h => by
    obtain ⟨x, hx⟩ := h 0 (by omega)
    obtain ⟨l, hl, hq⟩ := row_of len (i + 1) (fun k hk => by
      obtain ⟨y, hy⟩ := h (k + 1) (by omega)
      exact ⟨y, by rw [show i + 1 + k = i + (k + 1) by omega]; exact hy⟩)
    refine ⟨x :: l, by simp [hl], fun k hk => ?_⟩
    cases k with
    | zero => exact hx
    | succ k =>
      rw [show i + (k + 1) = i + 1 + k by omega]
      exact hq k (by simpa using hk)

theorem light_int {t : TypeId} {k : IntKind} {P : Program} {cs : List Value} {x : DataW H × List MemPlace} {fuel : Nat} (ht : P.underlying t = some (.int k)) (h : DataW.trod enc P w base spare held fuel t cs = some x) : ∃ n, cs = [.int k n] ∧ k.min ≤ n ∧ n ≤ k.max := by
  obtain ⟨n, h1, -, h3⟩ := DataW.trod_int ht h
  refine ⟨n, h1, ?_⟩
  simpa [Lit.wf] using h3
end
section
variable {H : Type} {enc : TypeId × Value → H} {w : World} {base : Nat} {spare : Nat → Bool} {held : Bool}

theorem pc : Tryd.prog.cellsOf 3 = 1 ∧ Tryd.prog.cellsOf 26 = 1 ∧ Tryd.prog.cellsOf 34 = 1 ∧ Tryd.prog.cellsOf 53 = 2 ∧ Tryd.prog.cellsOf 49 = 1 ∧ Tryd.prog.cellsOf 51 = 3 ∧ Tryd.prog.cellsOf 22 = 1 ∧ Tryd.prog.cellsOf 24 = 1 ∧ Tryd.prog.cellsOf 5 = 1 ∧ Tryd.prog.cellsOf 25 = 2 :=
  ⟨by kernel_rfl, by kernel_rfl, by kernel_rfl, by kernel_rfl, by kernel_rfl, by kernel_rfl, by kernel_rfl, by kernel_rfl, by kernel_rfl, by kernel_rfl⟩
theorem pb : 1 ≤ Tryd.prog.bytesOf 3 ∧ 1 ≤ Tryd.prog.bytesOf 53 ∧ 1 ≤ Tryd.prog.bytesOf 51 ∧ 1 ≤ Tryd.prog.bytesOf 26 := ⟨of_decide_eq_true (by kernel_rfl), of_decide_eq_true (by kernel_rfl), of_decide_eq_true (by kernel_rfl), of_decide_eq_true (by kernel_rfl)⟩
theorem len_cap {t e : TypeId} {fuel : Nat} {a : Option Addr} {n c : Nat} {x : DataW H × List MemPlace} (ht : Tryd.prog.underlying t = some (.slice e)) (h : DataW.trod enc Tryd.prog w base spare held fuel t [.slice a n c] = some x) : n ≤ c := by
  rcases DataW.trod_slice ht h with ⟨h1, -⟩ | ⟨a', len, cap, elems, rest, m, -, h2, -, -, hl, -⟩
  · simp at h1; omega
  · simp at h2; omega

theorem ints_open {fuel : Nat} {cs : List Value} {x : DataW H × List MemPlace} (h : DataW.trod enc Tryd.prog w base spare held fuel 26 cs = some x) (hw : Light Tryd.prog 26 x.1) :
    ∃ v, ∃ l : List Int, cs = [v] ∧ l.length ≤ reachN ∧ IntsV w w.heap.size v l := by
  obtain ⟨a, len, cap, n, -, rfl, hlen, hel⟩ := trod_elems Tryd.underlying26 pb.1 (by rw [pc.1]; decide) h hw
  have hcap := len_cap Tryd.underlying26 h
  obtain ⟨l, hl, hq⟩ := row_of (Q := fun i (p : Int) => ∃ b off, a = some ⟨b, off, none⟩ ∧ b < w.heap.size ∧ w.cell? ⟨b, off + i, none⟩ = some (.int .i64 p)) len 0 (fun k hk => by
    obtain ⟨b, off, cs', y, e1, e2, e3, e4, e5, e6⟩ := hel k hk
    obtain ⟨p, rfl, -⟩ := light_int Tryd.underlying3 e5
    rw [pc.1] at e4
    rw [Nat.zero_add]
    have := e4 0 (by decide)
    rw [Nat.mul_one, Nat.add_zero] at this
    exact ⟨p, b, off, e1, e2, this⟩)
  subst hl
  refine ⟨_, l, rfl, hlen, a, cap, rfl, hcap, fun k hk => ?_⟩
  obtain ⟨b, off, h1, h2, h3⟩ := hq k hk
  rw [Nat.zero_add] at h3
  exact ⟨b, off, h1, h2, h3⟩
theorem ed_open {fuel : Nat} {cs : List Value} {x : DataW H × List MemPlace} (h : DataW.trod enc Tryd.prog w base spare held fuel 53 cs = some x) (hw : Light Tryd.prog 53 x.1) : ∃ e : Ed, cs = [.int .i64 e.tok, .int .i64 e.tgt] := by
  obtain ⟨n, -, hl, hf⟩ := trod_fields Tryd.underlying53 h hw
  rw [pc.2.2.2.1] at hl
  obtain ⟨b, c, rfl⟩ := list2 hl
  obtain ⟨y1, h1, -⟩ := hf 0 3 0 1 rfl pc.1
  obtain ⟨y2, h2, -⟩ := hf 1 3 1 1 rfl pc.1
  obtain ⟨q, e2, -⟩ := light_int Tryd.underlying3 h1
  obtain ⟨r, e3, -⟩ := light_int Tryd.underlying3 h2
  simp at e2 e3
  exact ⟨⟨q, r⟩, by simp [e2, e3]⟩
theorem eds_open {fuel : Nat} {cs : List Value} {x : DataW H × List MemPlace} (h : DataW.trod enc Tryd.prog w base spare held fuel 49 cs = some x) (hw : Light Tryd.prog 49 x.1) :
    ∃ v, ∃ l : List Ed, cs = [v] ∧ l.length ≤ reachN ∧ EdsV w w.heap.size v l := by
  obtain ⟨a, len, cap, n, -, rfl, hlen, hel⟩ := trod_elems Tryd.underlying49 pb.2.1 (by rw [pc.2.2.2.1]; decide) h hw
  have hcap := len_cap Tryd.underlying49 h
  obtain ⟨l, hl, hq⟩ := row_of (Q := fun i (p : Ed) => ∃ b off, a = some ⟨b, off, none⟩ ∧ b < w.heap.size ∧ w.cell? ⟨b, off + i * 2, none⟩ = some (.int .i64 p.tok) ∧ w.cell? ⟨b, off + i * 2 + 1, none⟩ = some (.int .i64 p.tgt)) len 0 (fun k hk => by
    obtain ⟨b, off, cs', y, e1, e2, e3, e4, e5, e6⟩ := hel k hk
    obtain ⟨p, rfl⟩ := ed_open e5 e6
    rw [pc.2.2.2.1] at e4
    rw [Nat.zero_add]
    exact ⟨p, b, off, e1, e2, e4 0 (by decide), e4 1 (by decide)⟩)
  subst hl
  refine ⟨_, l, rfl, hlen, a, cap, rfl, hcap, fun k hk => ?_⟩
  obtain ⟨b, off, h1, h2, h3⟩ := hq k hk
  rw [Nat.zero_add] at h3
  exact ⟨b, off, h1, h2, h3⟩
theorem st_open {fuel : Nat} {cs : List Value} {x : DataW H × List MemPlace} (h : DataW.trod enc Tryd.prog w base spare held fuel 51 cs = some x) (hw : Light Tryd.prog 51 x.1) :
    ∃ v0 v1 v2, ∃ s : Stt, cs = [v0, v1, v2] ∧ SttV .u8 w w.heap.size v0 v1 v2 s ∧ (s.edges.length ≤ reachN ∧ s.alts.length ≤ reachN) ∧ 0 ≤ s.kind ∧ s.kind ≤ 255 := by
  obtain ⟨n, -, hl, hf⟩ := trod_fields Tryd.underlying51 h hw
  rw [pc.2.2.2.2.2.1] at hl
  obtain ⟨v0, v1, v2, rfl⟩ := list3 hl
  obtain ⟨y0, h0, -⟩ := hf 0 34 0 1 rfl pc.2.2.1
  obtain ⟨y1, h1, w1⟩ := hf 1 26 1 1 rfl pc.2.1
  obtain ⟨y2, h2, w2⟩ := hf 2 49 2 1 rfl pc.2.2.2.2.1
  obtain ⟨r, e0, p0, p1⟩ := light_int Tryd.underlying34 h0
  obtain ⟨u1, l1, e1, n1, k1⟩ := ints_open h1 w1
  obtain ⟨u2, l2, e2, n2, k2⟩ := eds_open h2 w2
  simp at e0 e1 e2
  subst e0 e1 e2
  exact ⟨_, _, _, ⟨r, l1, l2⟩, rfl, ⟨rfl, k1, k2⟩, ⟨n2, n1⟩, p0, p1⟩
theorem sts_open {fuel : Nat} {cs : List Value} {x : DataW H × List MemPlace} (h : DataW.trod enc Tryd.prog w base spare held fuel 22 cs = some x) (hw : Light Tryd.prog 22 x.1) :
    ∃ v, ∃ l : Aut, cs = [v] ∧ l.length ≤ reachN ∧ AutV .u8 w w.heap.size v l ∧ (∀ s ∈ l, s.edges.length ≤ reachN ∧ s.alts.length ≤ reachN) ∧ l.U8 := by
  obtain ⟨a, len, cap, n, -, rfl, hlen, hel⟩ := trod_elems Tryd.underlying22 pb.2.2.1 (by rw [pc.2.2.2.2.2.1]; decide) h hw
  have hcap := len_cap Tryd.underlying22 h
  obtain ⟨l, hl, hq⟩ := row_of (Q := fun i (p : Stt) => (∃ b off v0 v1 v2, a = some ⟨b, off, none⟩ ∧ b < w.heap.size ∧ w.cell? ⟨b, off + i * 3, none⟩ = some v0 ∧ w.cell? ⟨b, off + i * 3 + 1, none⟩ = some v1 ∧ w.cell? ⟨b, off + i * 3 + 2, none⟩ = some v2 ∧ SttV .u8 w w.heap.size v0 v1 v2 p) ∧ (p.edges.length ≤ reachN ∧ p.alts.length ≤ reachN) ∧ 0 ≤ p.kind ∧ p.kind ≤ 255) len 0 (fun k hk => by
    obtain ⟨b, off, cs', y, e1, e2, e3, e4, e5, e6⟩ := hel k hk
    obtain ⟨u0, u1, u2, p, rfl, hp, hp1, hp2⟩ := st_open e5 e6
    rw [pc.2.2.2.2.2.1] at e4
    rw [Nat.zero_add]
    have g0 := e4 0 (by decide)
    rw [Nat.add_zero] at g0
    exact ⟨p, ⟨b, off, u0, u1, u2, e1, e2, g0, e4 1 (by decide), e4 2 (by decide), hp⟩, hp1, hp2⟩)
  subst hl
  refine ⟨_, l, rfl, hlen, ⟨a, cap, rfl, hcap, fun k hk => ?_⟩, fun s hs => ?_, fun s hs => ?_⟩
  · obtain ⟨⟨b, off, v0, v1, v2, h1, h2, h3, h4, h5, h6⟩, -⟩ := hq k hk
    rw [Nat.zero_add] at h3 h4 h5
    exact ⟨b, off, v0, v1, v2, h1, h2, h3, h4, h5, h6⟩
  · obtain ⟨k, hk, rfl⟩ := List.mem_iff_getElem.1 hs
    exact (hq k hk).2.1
  · obtain ⟨k, hk, rfl⟩ := List.mem_iff_getElem.1 hs
    exact (hq k hk).2.2
set_option maxRecDepth 20000 in
theorem auto_open {W : World} {v : Value} {d : DataW H} {ps : List MemPlace} {b0 : Nat} (hval : Value.okWide Tryd.prog W .any b0 24 v) (h : DataW.Trod enc Tryd.prog W base spare held 24 v d ps) (hw : Light Tryd.prog 24 d) :
    ∃ u a, v = .agg #[u] ∧ AutV .u8 W W.heap.size u a ∧ a.length ≤ reachN ∧ (∀ s ∈ a, s.edges.length ≤ reachN ∧ s.alts.length ≤ reachN) ∧ a.U8 := by
  obtain ⟨cs, rfl, hsz⟩ := okWide_struct Tryd.underlying24 hval
  obtain ⟨fuel, h⟩ := h
  obtain ⟨n, rfl, hl, hf⟩ := trod_fields Tryd.underlying24 h hw
  obtain ⟨y0, h0, w0⟩ := hf 0 22 0 1 rfl pc.2.2.2.2.2.2.1
  obtain ⟨u, a, e0, n0, q0, q1, q2⟩ := sts_open h0 w0
  rw [pc.2.2.2.2.2.2.2.1] at hsz
  obtain ⟨x, rfl⟩ : ∃ x, cs = #[x] := by
    obtain ⟨l⟩ := cs
    match l, hsz with
    | [x], _ => exact ⟨x, rfl⟩
  simp [Value.cells] at e0
  subst e0
  exact ⟨x, a, rfl, q0, n0, q1, q2⟩
set_option maxRecDepth 20000 in
theorem lists_open {W : World} {v : Value} {d : DataW H} {ps : List MemPlace} {b0 : Nat} (hval : Value.okWide Tryd.prog W .any b0 55 v) (h : DataW.Trod enc Tryd.prog W base spare held 55 v d ps) (hw : Light Tryd.prog 55 d) :
    ∃ l : List (List Int), ListsV W W.heap.size v l ∧ l.length ≤ reachN ∧ ∀ x ∈ l, x.length ≤ reachN := by
  obtain ⟨a9, n9, c9, rfl⟩ := okWide_slice Tryd.underlying55 hval
  obtain ⟨fuel, h⟩ := h
  obtain ⟨a, len, cap, n, -, hcs, hlen, hel⟩ := trod_elems Tryd.underlying55 pb.2.2.2 (by rw [pc.2.1]; decide) h hw
  simp [Value.cells] at hcs
  obtain ⟨rfl, rfl, rfl⟩ := hcs
  have hcap := len_cap Tryd.underlying55 h
  obtain ⟨l, hl, hq⟩ := row_of (Q := fun i (p : List Int) => (∃ b off u, a9 = some ⟨b, off, none⟩ ∧ b < W.heap.size ∧ W.cell? ⟨b, off + i, none⟩ = some u ∧ IntsV W W.heap.size u p) ∧ p.length ≤ reachN) n9 0 (fun k hk => by
    obtain ⟨b, off, cs', y, e1, e2, e3, e4, e5, e6⟩ := hel k hk
    obtain ⟨u, p, rfl, hp, hp1⟩ := ints_open e5 e6
    rw [pc.2.1] at e4
    rw [Nat.zero_add]
    have := e4 0 (by decide)
    rw [Nat.mul_one, Nat.add_zero] at this
    exact ⟨p, ⟨b, off, u, e1, e2, this, hp1⟩, hp⟩)
  subst hl
  refine ⟨l, ⟨a9, c9, rfl, hcap, fun k hk => ?_⟩, hlen, fun s hs => ?_⟩
  · obtain ⟨⟨b, off, u, h1, h2, h3, c, cc, rfl, h5, h6⟩, -⟩ := hq k hk
    rw [Nat.zero_add] at h3
    exact ⟨b, off, c, cc, h1, h2, h3, h5, h6⟩
  · obtain ⟨k, hk, rfl⟩ := List.mem_iff_getElem.1 hs
    exact (hq k hk).2
theorem okWide_array {P : Program} {r : Reach} {n : Nat} {e t : TypeId} {b0 : Nat} {v : Value} (ht : P.underlying t = some (.array n e)) (h : Value.okWide P w r b0 t v) : ∃ cs, v = .agg cs ∧ cs.size = P.cellsOf t := by
  simp only [Value.okWide, ht] at h
  obtain ⟨cs, h1, h2, _⟩ := h
  exact ⟨cs, h1, h2⟩
set_option maxRecDepth 20000 in
theorem pair_open {W : World} {v : Value} {d : DataW H} {ps : List MemPlace} {b0 : Nat} (hval : Value.okWide Tryd.prog W .any b0 25 v) (h : DataW.Trod enc Tryd.prog W base spare held 25 v d ps) :
    ∃ z0 z1 : Int, v = .agg #[.int .u8 z0, .int .u8 z1] ∧ (0 ≤ z0 ∧ z0 ≤ 255) ∧ 0 ≤ z1 ∧ z1 ≤ 255 := by
  obtain ⟨cs, rfl, hsz⟩ := okWide_array (n := 2) (e := 5) (by kernel_rfl) hval
  obtain ⟨fuel, h⟩ := h
  obtain ⟨xs, m, rfl, _, hl, hn, hf⟩ := DataW.trod_array (n := 2) (e := 5) (by kernel_rfl) h
  rw [pc.2.2.2.2.2.2.2.2.2] at hsz
  rw [pc.2.2.2.2.2.2.2.2.1] at hf
  obtain ⟨x, y, rfl⟩ : ∃ x y, cs = #[x, y] := by
    obtain ⟨l⟩ := cs
    match l, hsz with
    | [x, y], _ => exact ⟨x, y, rfl⟩
  have f0 := hf 0 (by decide)
  have f1 := hf 1 (by decide)
  obtain ⟨y0, g0⟩ : ∃ y0, xs[0]? = some y0 := ⟨_, List.getElem?_eq_getElem (by omega)⟩
  obtain ⟨y1, g1⟩ : ∃ y1, xs[1]? = some y1 := ⟨_, List.getElem?_eq_getElem (by omega)⟩
  rw [g0] at f0
  rw [g1] at f1
  obtain ⟨p, e0, p0, p1⟩ := light_int (k := .u8) (by kernel_rfl) f0
  obtain ⟨q, e1, q0, q1⟩ := light_int (k := .u8) (by kernel_rfl) f1
  simp [Value.cells] at e0 e1
  subst e0 e1
  exact ⟨p, q, rfl, ⟨p0, p1⟩, q0, q1⟩
end
end Go.Proofs.YtogmlonhciiomaaDoor
