/- A net, an Ask and a Cut that are handed in read as such. -/
import Derived.Test.YtgdcnndmdgcjlaaPGreat
import Derived.Test.YtgdcnndmdgcjlaaOpen
namespace Go.Proofs.Ytgdcnndmdgcjlaa
open Go.RowKit Go.ChangeShapes Go.WideShapes

/-- kinds are bytes -/
def Net.Kinds (N : Net) : Prop := ∀ s ∈ N.states, ∀ e ∈ s.edges, 0 ≤ e.kind ∧ e.kind ≤ 255

section
variable {H : Type} {enc : TypeId × Value → H} {w : World} {base : Nat} {spare : Nat → Bool} {held : Bool}

theorem pcells : Try.prog.cellsOf 3 = 1 ∧ Try.prog.cellsOf 23 = 1 ∧ Try.prog.cellsOf 85 = 1 ∧ Try.prog.cellsOf 87 = 3 ∧ Try.prog.cellsOf 49 = 1 ∧ Try.prog.cellsOf 51 = 3 ∧ Try.prog.cellsOf 22 = 1 ∧ Try.prog.cellsOf 25 = 5 ∧ Try.prog.cellsOf 27 = 3 ∧ Try.prog.cellsOf 46 = 3 ∧ Try.prog.cellsOf 5 = 1 :=
  ⟨by kernel_rfl, by kernel_rfl, by kernel_rfl, by kernel_rfl, by kernel_rfl, by kernel_rfl, by kernel_rfl, by kernel_rfl, by kernel_rfl, by kernel_rfl, by kernel_rfl⟩
theorem pbytes : 1 ≤ Try.prog.bytesOf 3 ∧ 1 ≤ Try.prog.bytesOf 87 ∧ 1 ≤ Try.prog.bytesOf 51 := ⟨of_decide_eq_true (by kernel_rfl), of_decide_eq_true (by kernel_rfl), of_decide_eq_true (by kernel_rfl)⟩

theorem pints_open {fuel : Nat} {cs : List Value} {x : DataW H × List MemPlace} (h : DataW.trod enc Try.prog w base spare held fuel 23 cs = some x) (hw : Light Try.prog 23 x.1) :
    ∃ a cap, ∃ l : List Int, cs = [.slice a l.length cap] ∧ l.length ≤ reachN ∧ IntsAt w w.heap.size a l := by
  obtain ⟨a, len, cap, n, -, rfl, hlen, hel⟩ := trod_elems Try.underlying23 pbytes.1 (by rw [pcells.1]; decide) h hw
  obtain ⟨l, hl, hq⟩ := row_of (Q := fun i (p : Int) => ∃ b off, a = some ⟨b, off, none⟩ ∧ b < w.heap.size ∧ w.cell? ⟨b, off + i, none⟩ = some (.int .i64 p)) len 0 (fun k hk => by
    obtain ⟨b, off, cs', y, e1, e2, e3, e4, e5, e6⟩ := hel k hk
    obtain ⟨p, rfl, -⟩ := light_int Try.underlying3 e5
    rw [pcells.1] at e4
    rw [Nat.zero_add]
    have := e4 0 (by decide)
    rw [Nat.mul_one, Nat.add_zero] at this
    exact ⟨p, b, off, e1, e2, this⟩)
  subst hl
  refine ⟨a, cap, l, rfl, hlen, fun k hk => ?_⟩
  obtain ⟨b, off, h1, h2, h3⟩ := hq k hk
  rw [Nat.zero_add] at h3
  exact ⟨b, off, h1, h2, h3⟩
theorem edge_open {fuel : Nat} {cs : List Value} {x : DataW H × List MemPlace} (h : DataW.trod enc Try.prog w base spare held fuel 87 cs = some x) (hw : Light Try.prog 87 x.1) : ∃ e : Edg, cs = [.int .u8 e.kind, .int .i64 e.what, .int .i64 e.to] ∧ 0 ≤ e.kind ∧ e.kind ≤ 255 := by
  obtain ⟨n, -, hl, hf⟩ := trod_fields Try.underlying87 h hw
  rw [pcells.2.2.2.1] at hl
  obtain ⟨a, b, c, rfl⟩ := list3 hl
  obtain ⟨y0, h0, -⟩ := hf 0 85 0 1 rfl pcells.2.2.1
  obtain ⟨y1, h1, -⟩ := hf 1 3 1 1 rfl pcells.1
  obtain ⟨y2, h2, -⟩ := hf 2 3 2 1 rfl pcells.1
  obtain ⟨p, e1, p0, p1⟩ := light_int Try.underlying85 h0
  obtain ⟨q, e2, -⟩ := light_int Try.underlying3 h1
  obtain ⟨r, e3, -⟩ := light_int Try.underlying3 h2
  simp at e1 e2 e3
  exact ⟨⟨p, q, r⟩, by simp [e1, e2, e3], p0, p1⟩
theorem edges_open {fuel : Nat} {cs : List Value} {x : DataW H × List MemPlace} (h : DataW.trod enc Try.prog w base spare held fuel 49 cs = some x) (hw : Light Try.prog 49 x.1) :
    ∃ a cap, ∃ l : List Edg, cs = [.slice a l.length cap] ∧ l.length ≤ reachN ∧ EdgesAt w w.heap.size a l ∧ ∀ e ∈ l, 0 ≤ e.kind ∧ e.kind ≤ 255 := by
  obtain ⟨a, len, cap, n, -, rfl, hlen, hel⟩ := trod_elems Try.underlying49 pbytes.2.1 (by rw [pcells.2.2.2.1]; decide) h hw
  obtain ⟨l, hl, hq⟩ := row_of (Q := fun i (p : Edg) => (∃ b off, a = some ⟨b, off, none⟩ ∧ b < w.heap.size ∧ w.cell? ⟨b, off + i * 3, none⟩ = some (.int .u8 p.kind) ∧ w.cell? ⟨b, off + i * 3 + 1, none⟩ = some (.int .i64 p.what) ∧ w.cell? ⟨b, off + i * 3 + 2, none⟩ = some (.int .i64 p.to)) ∧ 0 ≤ p.kind ∧ p.kind ≤ 255) len 0 (fun k hk => by
    obtain ⟨b, off, cs', y, e1, e2, e3, e4, e5, e6⟩ := hel k hk
    obtain ⟨p, rfl, p0, p1⟩ := edge_open e5 e6
    rw [pcells.2.2.2.1] at e4
    rw [Nat.zero_add]
    exact ⟨p, ⟨b, off, e1, e2, e4 0 (by decide), e4 1 (by decide), e4 2 (by decide)⟩, p0, p1⟩)
  subst hl
  refine ⟨a, cap, l, rfl, hlen, fun k hk => ?_, fun e he => ?_⟩
  · obtain ⟨⟨b, off, h1, h2, h3⟩, -⟩ := hq k hk
    rw [Nat.zero_add] at h3
    exact ⟨b, off, h1, h2, h3⟩
  · obtain ⟨k, hk, rfl⟩ := List.mem_iff_getElem.1 he
    exact (hq k hk).2
theorem state_open {fuel : Nat} {cs : List Value} {x : DataW H × List MemPlace} (h : DataW.trod enc Try.prog w base spare held fuel 51 cs = some x) (hw : Light Try.prog 51 x.1) :
    ∃ v0 v1 v2, ∃ s : Sta, cs = [v0, v1, v2] ∧ SttAt w w.heap.size (some v0) (some v1) (some v2) s ∧ s.edges.length ≤ reachN ∧ s.ends.length ≤ reachN ∧ ∀ e ∈ s.edges, 0 ≤ e.kind ∧ e.kind ≤ 255 := by
  obtain ⟨n, -, hl, hf⟩ := trod_fields Try.underlying51 h hw
  rw [pcells.2.2.2.2.2.1] at hl
  obtain ⟨v0, v1, v2, rfl⟩ := list3 hl
  obtain ⟨y0, h0, -⟩ := hf 0 3 0 1 rfl pcells.1
  obtain ⟨y1, h1, w1⟩ := hf 1 49 1 1 rfl pcells.2.2.2.2.1
  obtain ⟨y2, h2, w2⟩ := hf 2 23 2 1 rfl pcells.2.1
  obtain ⟨r, e0, -⟩ := light_int Try.underlying3 h0
  obtain ⟨a1, c1, l1, e1, n1, k1, k1'⟩ := edges_open h1 w1
  obtain ⟨a2, c2, l2, e2, n2, k2⟩ := pints_open h2 w2
  simp at e0 e1 e2
  subst e0 e1 e2
  exact ⟨_, _, _, ⟨r, l1, l2⟩, rfl, ⟨rfl, ⟨a1, c1, rfl, k1⟩, a2, c2, rfl, k2⟩, n1, n2, k1'⟩
theorem states_open {fuel : Nat} {cs : List Value} {x : DataW H × List MemPlace} (h : DataW.trod enc Try.prog w base spare held fuel 22 cs = some x) (hw : Light Try.prog 22 x.1) :
    ∃ a cap, ∃ l : List Sta, cs = [.slice a l.length cap] ∧ l.length ≤ reachN ∧ StatesAt w w.heap.size a l ∧ ∀ s ∈ l, s.edges.length ≤ reachN ∧ s.ends.length ≤ reachN ∧ ∀ e ∈ s.edges, 0 ≤ e.kind ∧ e.kind ≤ 255 := by
  obtain ⟨a, len, cap, n, -, rfl, hlen, hel⟩ := trod_elems Try.underlying22 pbytes.2.2 (by rw [pcells.2.2.2.2.2.1]; decide) h hw
  obtain ⟨l, hl, hq⟩ := row_of (Q := fun i (p : Sta) => (∃ b off, a = some ⟨b, off, none⟩ ∧ b < w.heap.size ∧ SttAt w w.heap.size (w.cell? ⟨b, off + i * 3, none⟩) (w.cell? ⟨b, off + i * 3 + 1, none⟩) (w.cell? ⟨b, off + i * 3 + 2, none⟩) p) ∧ p.edges.length ≤ reachN ∧ p.ends.length ≤ reachN ∧ ∀ e ∈ p.edges, 0 ≤ e.kind ∧ e.kind ≤ 255) len 0 (fun k hk => by
    obtain ⟨b, off, cs', y, e1, e2, e3, e4, e5, e6⟩ := hel k hk
    obtain ⟨u0, u1, u2, p, rfl, hp, hp1, hp2⟩ := state_open e5 e6
    rw [pcells.2.2.2.2.2.1] at e4
    rw [Nat.zero_add]
    refine ⟨p, ⟨b, off, e1, e2, ?_⟩, hp1, hp2⟩
    have g0 := e4 0 (by decide)
    rw [Nat.add_zero] at g0
    rw [g0, e4 1 (by decide), e4 2 (by decide)]
    exact hp)
  subst hl
  refine ⟨a, cap, l, rfl, hlen, fun k hk => ?_, fun s hs => ?_⟩
  · obtain ⟨⟨b, off, h1, h2, h3⟩, -⟩ := hq k hk
    rw [Nat.zero_add] at h3
    exact ⟨b, off, h1, h2, h3⟩
  · obtain ⟨k, hk, rfl⟩ := List.mem_iff_getElem.1 hs
    exact (hq k hk).2
set_option maxRecDepth 20000 in
/-- THE OPENING of a net. -/
theorem net_open {W : World} {v : Value} {d : DataW H} {ps : List MemPlace} {b0 : Nat} (hval : Value.okWide Try.prog W .any b0 25 v) (h : DataW.Trod enc Try.prog W base spare held 25 v d ps) (hw : Light Try.prog 25 d) :
    ∃ v0 v1 v2 v3 v4 N, v = .agg #[v0, v1, v2, v3, v4] ∧ NetAt W W.heap.size v0 v1 v2 v3 v4 N ∧ N.Reach ∧ N.Kinds := by
  obtain ⟨cs, rfl, hsz⟩ := okWide_struct Try.underlying25 hval
  obtain ⟨fuel, h⟩ := h
  obtain ⟨n, rfl, hl, hf⟩ := trod_fields Try.underlying25 h hw
  rw [pcells.2.2.2.2.2.2.2.1] at hl
  obtain ⟨v0, v1, v2, v3, v4, hcs⟩ := list5 hl
  rw [hcs] at hf
  obtain ⟨y0, h0, w0⟩ := hf 0 22 0 1 rfl pcells.2.2.2.2.2.2.1
  obtain ⟨y1, h1, w1⟩ := hf 1 23 1 1 rfl pcells.2.1
  obtain ⟨y2, h2, w2⟩ := hf 2 23 2 1 rfl pcells.2.1
  obtain ⟨y3, h3, w3⟩ := hf 3 23 3 1 rfl pcells.2.1
  obtain ⟨y4, h4, w4⟩ := hf 4 23 4 1 rfl pcells.2.1
  obtain ⟨a0, k0, l0, e0, n0, q0, q0'⟩ := states_open h0 w0
  obtain ⟨a1, k1, l1, e1, n1, q1⟩ := pints_open h1 w1
  obtain ⟨a2, k2, l2, e2, n2, q2⟩ := pints_open h2 w2
  obtain ⟨a3, k3, l3, e3, n3, q3⟩ := pints_open h3 w3
  obtain ⟨a4, k4, l4, e4, n4, q4⟩ := pints_open h4 w4
  simp at e0 e1 e2 e3 e4
  subst e0 e1 e2 e3 e4
  exact ⟨_, _, _, _, _, ⟨l0, l1, l2, l3, l4⟩, congrArg Value.agg (Array.ext' hcs), ⟨⟨a0, k0, rfl, q0⟩, ⟨a1, k1, rfl, q1⟩, ⟨a2, k2, rfl, q2⟩, ⟨a3, k3, rfl, q3⟩, ⟨a4, k4, rfl, q4⟩⟩,
    ⟨n0, n1, n2, n3, n4, fun s hs => (q0' s hs).1, fun s hs => (q0' s hs).2.1⟩, fun s hs => (q0' s hs).2.2⟩
theorem len_cap {t e : TypeId} {fuel : Nat} {a : Option Addr} {n c : Nat} {x : DataW H × List MemPlace} (ht : Try.prog.underlying t = some (.slice e)) (h : DataW.trod enc Try.prog w base spare held fuel t [.slice a n c] = some x) : n ≤ c := by
  rcases DataW.trod_slice ht h with ⟨h1, -⟩ | ⟨a', len, cap, elems, rest, m, -, h2, -, -, hl, -⟩
  · simp at h1; omega
  · simp at h2; omega
set_option maxRecDepth 20000 in
theorem ask_open {W : World} {v : Value} {d : DataW H} {ps : List MemPlace} {b0 : Nat} (hval : Value.okWide Try.prog W .any b0 27 v) (h : DataW.Trod enc Try.prog W base spare held 27 v d ps) (hw : Light Try.prog 27 d) :
    ∃ a b c : Int, v = .agg #[.int .i64 a, .int .i64 b, .int .i64 c] := by
  obtain ⟨cs, rfl, hsz⟩ := okWide_struct Try.underlying27 hval
  obtain ⟨fuel, h⟩ := h
  obtain ⟨n, rfl, hl, hf⟩ := trod_fields Try.underlying27 h hw
  rw [pcells.2.2.2.2.2.2.2.2.1] at hl
  obtain ⟨v0, v1, v2, hcs⟩ := list3 hl
  rw [hcs] at hf
  obtain ⟨y0, h0, -⟩ := hf 0 3 0 1 rfl pcells.1
  obtain ⟨y1, h1, -⟩ := hf 1 3 1 1 rfl pcells.1
  obtain ⟨y2, h2, -⟩ := hf 2 3 2 1 rfl pcells.1
  obtain ⟨p, e0, -⟩ := light_int Try.underlying3 h0
  obtain ⟨q, e1, -⟩ := light_int Try.underlying3 h1
  obtain ⟨r, e2, -⟩ := light_int Try.underlying3 h2
  simp at e0 e1 e2
  subst e0 e1 e2
  exact ⟨p, q, r, congrArg Value.agg (Array.ext' hcs)⟩
set_option maxRecDepth 20000 in
theorem cut_open {W : World} {v : Value} {d : DataW H} {ps : List MemPlace} {b0 : Nat} (hval : Value.okWide Try.prog W .any b0 46 v) (h : DataW.Trod enc Try.prog W base spare held 46 v d ps) (hw : Light Try.prog 46 d) :
    ∃ (wv : Value) (l : List Int) (m : Int) (c : Nat), v = .agg #[wv, .int .i64 m, .int .u8 c] ∧ c ≤ 255 ∧ l.length ≤ reachN ∧ IntsV W W.heap.size wv l ∧ ∃ a k, wv = .slice a l.length k ∧ l.length ≤ k := by
  obtain ⟨cs, rfl, hsz⟩ := okWide_struct Try.underlying46 hval
  obtain ⟨fuel, h⟩ := h
  obtain ⟨n, rfl, hl, hf⟩ := trod_fields Try.underlying46 h hw
  rw [pcells.2.2.2.2.2.2.2.2.2.1] at hl
  obtain ⟨v0, v1, v2, hcs⟩ := list3 hl
  rw [hcs] at hf
  obtain ⟨y0, h0, w0⟩ := hf 0 23 0 1 rfl pcells.2.1
  obtain ⟨y1, h1, -⟩ := hf 1 3 1 1 rfl pcells.1
  obtain ⟨y2, h2, -⟩ := hf 2 5 2 1 rfl pcells.2.2.2.2.2.2.2.2.2.2
  obtain ⟨a0, k0, l0, e0, n0, q0⟩ := pints_open h0 w0
  have hlc := len_cap Try.underlying23 (e0 ▸ h0)
  obtain ⟨p, e1, -⟩ := light_int Try.underlying3 h1
  obtain ⟨r, e2, r0, r1⟩ := light_int Try.underlying5 h2
  simp at e0 e1 e2
  subst e0 e1 e2
  have r0' : 0 ≤ r := r0
  have r1' : r ≤ 255 := r1
  obtain ⟨c, rfl⟩ : ∃ c : Nat, r = c := ⟨r.toNat, by omega⟩
  exact ⟨_, l0, p, c, congrArg Value.agg (Array.ext' hcs), by omega, n0, ⟨a0, k0, rfl, q0⟩, a0, k0, rfl, hlc⟩
end
end Go.Proofs.Ytgdcnndmdgcjlaa
