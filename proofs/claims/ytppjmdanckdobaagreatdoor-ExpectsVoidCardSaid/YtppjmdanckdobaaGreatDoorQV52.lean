/- A grammar that is handed in reads as one: what the row's hypothesis says of the argument gives 'GrAt'. -/
import Derived.ChangeArms
import Derived.SizedLaws
import Derived.Test.YtppjmdanckdobaaGreatDoorRows
import Derived.ProofKit
import Derived.Below
import Derived.Test.YtppjmdanckdobaaGreatDoorCards
import Derived.Test.YtppjmdanckdobaaGreatDoorTie
import Derived.Lib.LaidU8
import Derived.PinnedBridge
import Derived.Shelf.Vars
import Derived.WalkKit
import Derived.OpenShut
import Derived.Carry
import Derived.ChangeMaps5
import Derived.Deep.DeepHandedRow
import Derived.Lay
import Derived.LaidOnce
import Derived.SevenTiedAt
import Derived.Test.YtppjmdanckdobaaGreatDoorQV3
import Derived.Test.YtppjmdanckdobaaGreatDoorQV7
import Derived.Test.YtppjmdanckdobaaGreatDoorQV51
namespace Go.Proofs.YtppjmdanckdobaaGreatDoor
open Go.RowKit Go.ChangeShapes Go.WideShapes
section
variable {H : Type} {enc : TypeId × Value → H} {P : Program} {w : World} {base : Nat} {spare : Nat → Bool} {held : Bool}
theorem list4 {α : Type} : ∀ {cs : List α}, cs.length = 4 → ∃ a b c d, cs = [a, b, c, d]
  | [a, b, c, d], _ => ⟨a, b, c, d, rfl⟩
def Light (P : Program) (t : TypeId) (d : DataW H) : Prop := ∀ n ∈ d.weights P t, n ≤ reachBytes
theorem light_each : ∀ (ts : List TypeId) (ds : List (DataW H)) (_ : ∀ n ∈ DataW.weightsEach P ts ds, n ≤ reachBytes) (i : Nat) (t : TypeId) (d : DataW H), ts[i]? = some t → ds[i]? = some d → Light P t d
  | [], _, _, _, _, _, h, _ => by simp at h
  | _ :: _, [], _, _, _, _, _, h => by simp at h
  | t :: ts, d :: ds, hw, 0, t', d', h, h' => by
    simp only [List.getElem?_cons_zero, Option.some.injEq] at h h'
    subst h; subst h'
    intro n hn
    exact hw n (by rw [DataW.weightsEach]; exact List.mem_append_left _ hn)
  | t :: ts, d :: ds, hw, i + 1, t', d', h, h' => by
    rw [List.getElem?_cons_succ] at h h'
    exact light_each ts ds (fun n hn => hw n (by rw [DataW.weightsEach]; exact List.mem_append_right _ hn)) i t' d' h h'
theorem light_all {e : TypeId} : ∀ (ds : List (DataW H)) (_ : ∀ n ∈ DataW.weightsAll P e ds, n ≤ reachBytes) (i : Nat) (d : DataW H), ds[i]? = some d → Light P e d
  | [], _, _, _, h => by simp at h
  | d :: ds, hw, 0, d', h => by
    simp only [List.getElem?_cons_zero, Option.some.injEq] at h
    subst h
    intro n hn
    exact hw n (by rw [DataW.weightsAll]; exact List.mem_append_left _ hn)
  | d :: ds, hw, i + 1, d', h => by
    rw [List.getElem?_cons_succ] at h
    exact light_all ds (fun n hn => hw n (by rw [DataW.weightsAll]; exact List.mem_append_right _ hn)) i d' h
theorem trod_fields {t : TypeId} {fs : Array Field} {fuel : Nat} {cs : List Value} {x : DataW H × List MemPlace} (ht : P.underlying t = some (.struct fs)) (h : DataW.trod enc P w base spare held fuel t cs = some x) (hw : Light P t x.1) :
    ∃ n, fuel = n + 1 ∧ cs.length = P.cellsOf t ∧ ∀ (i : Nat) (ty off c : Nat), (fs[i]?).map (fun f => (f.type, f.offset)) = some (ty, off) → P.cellsOf ty = c → ∃ y, DataW.trod enc P w base spare held n ty ((cs.drop off).take c) = some y ∧ Light P ty y.1 := by
  obtain ⟨xs, n, rfl, rfl, hl, hn, hf⟩ := DataW.trod_struct ht h
  refine ⟨n, rfl, hl, fun i ty off c hi hc => ?_⟩
  rw [Option.map_eq_some_iff] at hi
  obtain ⟨f, hi, he⟩ := hi
  simp only [Prod.mk.injEq] at he
  obtain ⟨rfl, rfl⟩ := he
  subst hc
  have h1 := hf i f hi
  have hlt : i < xs.length := by
    rw [hn]
    by_cases hc : i < fs.size
    · exact hc
    · rw [Array.getElem?_eq_none (by omega)] at hi; cases hi
  rw [List.getElem?_eq_getElem hlt] at h1
  refine ⟨xs[i], h1, ?_⟩
  have hw2 : ∀ n ∈ DataW.weightsEach P (fs.toList.map (·.type)) (xs.map (·.1)), n ≤ reachBytes := by
    intro n hn
    refine hw n ?_
    rw [DataW.weights, ht]
    exact hn
  exact light_each _ _ hw2 i f.type xs[i].1 (by rw [List.getElem?_map]; rw [Array.getElem?_toList, hi]; rfl) (by rw [List.getElem?_map, List.getElem?_eq_getElem hlt]; rfl)
theorem trod_elems {t e : TypeId} {fuel : Nat} {cs : List Value} {x : DataW H × List MemPlace} (ht : P.underlying t = some (.slice e)) (hpos : 1 ≤ P.bytesOf e) (hc : 1 ≤ P.cellsOf e) (h : DataW.trod enc P w base spare held fuel t cs = some x) (hw : Light P t x.1) :
    ∃ (a : Option Addr) (len cap n : Nat), fuel = n + 1 ∧ cs = [.slice a len cap] ∧ len ≤ reachN ∧ ∀ i, i < len → ∃ (b off : Nat) (cs' : List Value) (y : DataW H × List MemPlace), a = some ⟨b, off, none⟩ ∧ b < w.heap.size ∧
      cs'.length = P.cellsOf e ∧ (∀ j, j < P.cellsOf e → w.cell? ⟨b, off + i * P.cellsOf e + j, none⟩ = cs'[j]?) ∧ DataW.trod enc P w base spare held n e cs' = some y ∧ Light P e y.1 := by
  have hfu : ∃ n, fuel = n + 1 := by
    cases fuel with
    | zero => simp [DataW.trod] at h
    | succ n => exact ⟨n, rfl⟩
  rcases DataW.trod_slice ht h with ⟨rfl, rfl⟩ | ⟨a, len, cap, elems, rest, n, rfl, rfl, rfl, hb, hl, hm, hlen, hel, hsp, hns⟩
  · obtain ⟨n, rfl⟩ := hfu
    exact ⟨none, 0, 0, n, rfl, rfl, by simp [reachN], fun i hi => absurd hi (by omega)⟩
  have hw2 : ∀ n ∈ (DataW.slice (elems.map (·.1)) (rest.map (·.1))).weights P t, n ≤ reachBytes := hw
  rw [DataW.weights, ht] at hw2
  have h0 := hw2 _ (List.mem_cons_self ..)
  simp only [List.length_map] at h0
  have h0' : elems.length + rest.length ≤ reachBytes := Nat.le_trans (Nat.le_mul_of_pos_right _ hpos) h0
  refine ⟨some a, len, cap, n, rfl, rfl, ?_, fun i hi => ?_⟩
  · have : reachBytes ≤ reachN := by decide
    omega
  have key : ∀ i, i < len → ∃ (cs' : List Value) (y : DataW H × List MemPlace), cs'.length = P.cellsOf e ∧ (∀ j, j < P.cellsOf e → w.cell? ((a.add (i * P.cellsOf e)).add j) = cs'[j]?) ∧ DataW.trod enc P w base spare held n e cs' = some y ∧ Light P e y.1 := by
    intro i hi
    have h1 := hel i hi
    rw [List.getElem?_eq_getElem (by omega), Option.bind_eq_some_iff] at h1
    obtain ⟨cs', h2, h3⟩ := h1
    obtain ⟨_, hcl, hcell⟩ := World.cells?_some h2
    refine ⟨cs', elems[i], hcl, hcell, h3, ?_⟩
    exact light_all (elems.map (·.1)) (fun n hn => hw2 n (List.mem_cons_of_mem _ (List.mem_append_left _ hn))) i _ (by rw [List.getElem?_map, List.getElem?_eq_getElem (by omega)]; rfl)
  obtain ⟨b, off, spot⟩ := a
  obtain ⟨c0, y0, l0, hj0, -, -⟩ := key 0 (by omega)
  have h4 := hj0 0 hc
  rw [List.getElem?_eq_getElem (by omega)] at h4
  simp only [Addr.add, Nat.zero_mul, if_true, World.cell?] at h4
  have hb2 : b < w.heap.size ∧ spot = none := by
    split at h4
    · rename_i hcs
      split at h4
      · cases h4
      · rename_i hs
        refine ⟨?_, by simpa using hs⟩
        by_cases hlt : b < w.heap.size
        · exact hlt
        · rw [Array.getElem?_eq_none (by omega)] at hcs; cases hcs
    · cases h4
  obtain ⟨hbl, rfl⟩ := hb2
  obtain ⟨cs', y, k1, k2, k3, k4⟩ := key i hi
  refine ⟨b, off, cs', y, rfl, hbl, k1, fun j hj => ?_, k3, k4⟩
  have := k2 j hj
  rw [add_plain, add_plain] at this
  exact this
theorem row_of {α : Type} {Q : Nat → α → Prop} : ∀ (len i : Nat), (∀ k, k < len → ∃ x, Q (i + k) x) → ∃ l : List α, l.length = len ∧ ∀ k (hk : k < l.length), Q (i + k) l[k]
  | 0, _, _ => ⟨[], rfl, fun k hk => absurd hk (by simp)⟩
  | len + 1, i, h => by
    obtain ⟨x, hx⟩ := h 0 (by omega)
    obtain ⟨l, hl, hq⟩ := row_of len (i + 1) (fun k hk => by
      obtain ⟨y, hy⟩ := h (k + 1) (by omega)
      exact ⟨y, by rw [show i + 1 + k = i + (k + 1) by omega]; exact hy⟩)
    refine ⟨x :: l, by simp [hl], fun k hk => ?_⟩
    cases k with
    | zero => exact hx
    | succ k =>
      rw [show i + (k + 1) = i + 1 + k by omega]
      exact hq k (by simpa using hk)
end
section
variable {H : Type} {enc : TypeId × Value → H} {w : World} {base : Nat} {spare : Nat → Bool} {held : Bool}
theorem light_int {t : TypeId} {k : IntKind} {P : Program} {cs : List Value} {x : DataW H × List MemPlace} {fuel : Nat} (ht : P.underlying t = some (.int k)) (h : DataW.trod enc P w base spare held fuel t cs = some x) : ∃ n, cs = [.int k n] ∧ k.min ≤ n ∧ n ≤ k.max := by
  obtain ⟨n, h1, -, h3⟩ := DataW.trod_int ht h
  refine ⟨n, h1, ?_⟩
  simpa [Lit.wf] using h3
end
end Go.Proofs.YtppjmdanckdobaaGreatDoor

/- An Ask that is handed in reads as such. -/
namespace Go.Proofs.YtppjmdanckdobaaGreatDoor
open Go.RowKit Go.ChangeShapes Go.WideShapes
section
variable {H : Type} {enc : TypeId × Value → H} {w : World} {base : Nat} {spare : Nat → Bool} {held : Bool}
theorem scells : Tryz.prog.cellsOf 3 = 1 ∧ Tryz.prog.cellsOf 22 = 1 ∧ Tryz.prog.cellsOf 24 = 4 ∧ 1 ≤ Tryz.prog.bytesOf 3 :=
  ⟨by kernel_rfl, by kernel_rfl, by kernel_rfl, of_decide_eq_true (by kernel_rfl)⟩
theorem sints_open {fuel : Nat} {cs : List Value} {x : DataW H × List MemPlace} (h : DataW.trod enc Tryz.prog w base spare held fuel 22 cs = some x) (hw : Light Tryz.prog 22 x.1) :
    ∃ a cap, ∃ l : List Int, cs = [.slice a l.length cap] ∧ l.length ≤ reachN ∧ IntsAt w w.heap.size a l := by
  obtain ⟨a, len, cap, n, -, rfl, hlen, hel⟩ := trod_elems Tryz.underlying22 scells.2.2.2 (by rw [scells.1]; decide) h hw
  obtain ⟨l, hl, hq⟩ := row_of (Q := fun i (p : Int) => ∃ b off, a = some ⟨b, off, none⟩ ∧ b < w.heap.size ∧ w.cell? ⟨b, off + i, none⟩ = some (.int .i64 p)) len 0 (fun k hk => by
    obtain ⟨b, off, cs', y, e1, e2, e3, e4, e5, e6⟩ := hel k hk
    obtain ⟨p, rfl, -⟩ := light_int Tryz.underlying3 e5
    rw [scells.1] at e4
    rw [Nat.zero_add]
    have := e4 0 (by decide)
    rw [Nat.mul_one, Nat.add_zero] at this
    exact ⟨p, b, off, e1, e2, this⟩)
  subst hl
  refine ⟨a, cap, l, rfl, hlen, fun k hk => ?_⟩
  obtain ⟨b, off, h1, h2, h3⟩ := hq k hk
  rw [Nat.zero_add] at h3
  exact ⟨b, off, h1, h2, h3⟩
set_option maxRecDepth 20000 in
theorem ask27_open {W : World} {v : Value} {d : DataW H} {ps : List MemPlace} {b0 : Nat} (hval : Value.okWide Tryz.prog W .any b0 24 v) (h : DataW.Trod enc Tryz.prog W base spare held 24 v d ps) (hw : Light Tryz.prog 24 d) :
    ∃ (a b c : Int) (ya : Option Addr) (yc : Nat) (l : List Int), v = .agg #[.int .i64 a, .int .i64 b, .int .i64 c, .slice ya l.length yc] ∧ l.length ≤ reachN ∧ IntsAt W W.heap.size ya l ∧ InI64 a ∧ InI64 b ∧ InI64 c := by
  obtain ⟨cs, rfl, hsz⟩ := okWide_struct Tryz.underlying24 hval
  obtain ⟨fuel, h⟩ := h
  obtain ⟨n, rfl, hl, hf⟩ := trod_fields Tryz.underlying24 h hw
  rw [scells.2.2.1] at hl
  obtain ⟨v0, v1, v2, v3, hcs⟩ := list4 hl
  rw [hcs] at hf
  obtain ⟨y0, h0, -⟩ := hf 0 3 0 1 rfl scells.1
  obtain ⟨y1, h1, -⟩ := hf 1 3 1 1 rfl scells.1
  obtain ⟨y2, h2, -⟩ := hf 2 3 2 1 rfl scells.1
  obtain ⟨y3, h3, w3⟩ := hf 3 22 3 1 rfl scells.2.1
  obtain ⟨p, e0, p0, p1⟩ := light_int Tryz.underlying3 h0
  obtain ⟨q, e1, q0, q1⟩ := light_int Tryz.underlying3 h1
  obtain ⟨r, e2, r0, r1⟩ := light_int Tryz.underlying3 h2
  obtain ⟨ya, yc, l, e3, hlen, hin⟩ := sints_open h3 w3
  simp at e0 e1 e2 e3
  subst e0 e1 e2 e3
  exact ⟨p, q, r, ya, yc, l, congrArg Value.agg (Array.ext' hcs), hlen, hin, ⟨p0, p1⟩, ⟨q0, q1⟩, ⟨r0, r1⟩⟩
end
end Go.Proofs.YtppjmdanckdobaaGreatDoor

/- The shutting of a row whose function leaves old memory as it was: what it answers, and that its arguments read as they did. -/
namespace Go.Proofs.YtppjmdanckdobaaGreatDoor
open Go.ChangeShapes Go.WideShapes Go.RowKit
section
variable {H : Type} {enc : TypeId × Value → H} {P : Program}
theorem post_below {f : Func} {s : ChangeSpec} {fresh handsOn again : Bool} {W W' : World} {args : Array Value} {v : Value} {ds gs : List (DataW H)} {before : List MemPlace} (hb : Below W.heap.size W W')
    (hW : DataW.Whole enc P f.params.toList s.vars false W args.toList ds gs before)
    (hres : ∀ (b : Nat) (sp : Nat → Bool) (hd : Bool), DataW.TrodAll enc P W' b sp hd f.resultTypes.toList (v.resultList f.resultTypes.size) (s.fn H (ds ++ gs)).results [])
    (hargs : ∀ sp : Nat → Bool, (∀ p ∈ before, sp p.block = true) → DataW.TrodAll enc P W' 0 sp true f.params.toList args.toList (s.fn H (ds ++ gs)).args before)
    (hvars : ∀ sp : Nat → Bool, DataW.TrodVars enc P W' sp s.vars (s.fn H (ds ++ gs)).vars [])
    (hok : ∀ (j : Nat) (t : TypeId) (r : Value), f.resultTypes[j]? = some t → (v.resultList f.resultTypes.size)[j]? = some r → Value.okWide P W' .any 0 t r) :
    s.post enc P f false fresh handsOn again W args v W' := by
  have hlt := hW.lt
  have hold : ∀ p ∈ before, (fun b => decide (b < W.heap.size)) p.block = true := fun p hp => by simpa using hlt p hp
  refine ⟨ds, gs, before, [], before, [], hW, hres _ _ _, hargs _ hold, hvars _, World.keptBut_mono (fun p hp => ⟨hp, Or.inr (Or.inl hp)⟩) (hb.frame _), fun _ => ?_⟩
  obtain ⟨_, _, _, _, _, hz, hn⟩ := hW
  refine ⟨hok, _, _, ([] ++ before) ++ [], ⟨[] ++ before, [], trodAll_append (hargs _ (fun _ _ => rfl)) (hres _ _ _), hvars _, rfl, ?_, fun h => (Bool.noConfusion h)⟩, ?_⟩
  · intro b off hp
    have hp' : MemPlace.cell b off ∈ before := by simpa using hp
    rw [hb.frozen (p := ⟨b, off, none⟩) (hlt _ hp')]
    exact hz b off hp'
  · intro p hp _
    simpa using hp
end
end Go.Proofs.YtppjmdanckdobaaGreatDoor

/- ExpectsVoid's tied card: it answers true whatever comes in, which reads as it did; the variables that the row lists hold what the program's text lays. -/
namespace Go.Proofs.YtppjmdanckdobaaGreatDoor
open Go.ChangeShapes Go.WideShapes Go.ChangeAt Go.RowKit
theorem svown : ownKnob Tryz.prog.godebug = none := by kernel_rfl
theorem svlaidOut : laidOutB Tryz.prog = true := by kernel_rfl
set_option maxRecDepth 100000 in
theorem sv_tabs {W : World} (h : laidMetH Tryz.prog Rows.expectsVoidRow.laid W) : Lib.Utf8Tabs 1 2 W := by
  rw [MakeChecks.laidMetH_plain Tryz.prog Rows.expectsVoidRow.laid W (by kernel_rfl)] at h
  exact utf8Tabs_of_reads (ρ := Tryz.lays260_ren) { Tryz.lays260 with } ⟨by kernel_rfl, by kernel_rfl, by kernel_rfl, by kernel_rfl, by kernel_rfl, by kernel_rfl, by kernel_rfl⟩
    (Pinned.utf8First_eq ▸ Lib.laidMet.reads h (by simp [Rows.expectsVoidRow, Rows.laid_unicode_utf8_first])) ((show Rows.laid_unicode_utf8_acceptRanges = Lib.acceptData by kernel_rfl) ▸ Lib.laidMet.reads h (by simp [Rows.expectsVoidRow]))
set_option maxRecDepth 20000 in
theorem sv_contract (H : Type) (enc : TypeId × Value → H) (W : World) (base : Nat) (args : Array Value) (ds gs : List (DataW H)) (before : List MemPlace)
    (hval : ∀ (j : Nat) t v, Tryz.f3.params[j]? = some t → args[j]? = some v → Value.okWide Tryz.prog W .any base t v)
    (hW : DataW.Whole enc Tryz.prog Tryz.f3.params.toList Rows.expectsVoidSpec.vars false W args.toList ds gs before)
    (hL : (DataW.weightsEach Tryz.prog (Tryz.f3.params.toList ++ (OpenSpec.ofChange Rows.expectsVoidSpec).bare.plain.varTypes Tryz.prog) (ds ++ gs)).all (· ≤ reachBytes) = true)
    (hT : laidMetH Tryz.prog Rows.expectsVoidRow.laid W) :
    Calls Tryz.prog 3 args W fun e W' => ∃ v, e = .returned v ∧ Rows.expectsVoidSpec.post enc Tryz.prog Tryz.f3 false true false false W args v W' := by
  have hW' := hW
  obtain ⟨p, q, hA0, hV, rfl, hfz, hnd⟩ := hW
  have hA : DataW.TrodAll enc Tryz.prog W 0 (fun _ => true) true Tryz.f3.params.toList args.toList ds p := hA0
  rw [Tryz.params3] at hA hval hL
  obtain ⟨v0, d0, rfl, rfl, h0⟩ := trodAll_one hA
  obtain ⟨rfl, rfl⟩ := trodVars_none hV
  have hL' : ∀ i t d, (#[24] : Array TypeId).toList[i]? = some t → ([d0] : List _)[i]? = some d → Light Tryz.prog t d := fun i t d ht hd => by
    simp only [List.all_eq_true, decide_eq_true_eq] at hL
    exact light_each ((#[24] : Array TypeId).toList ++ (OpenSpec.ofChange Rows.expectsVoidSpec).bare.plain.varTypes Tryz.prog) ([d0] ++ []) hL i t d (by rw [List.getElem?_append_left (by have := (List.getElem?_eq_some_iff.1 ht).1; exact this)]; exact ht) (by rw [List.append_nil]; exact hd)
  have h0k := h0
  obtain ⟨x0, x1, x2, ya, yc, l, rfl, -, -, -, -, -⟩ := ask27_open (hval 0 24 v0 rfl rfl) h0 (hL' 0 _ _ rfl rfl)
  clear hA0
  simp only [List.append_nil] at hW'
  refine (void28_ok x0 x1 x2 ya _ yc W (sv_tabs hT)).mono fun e W' ⟨he, hb⟩ => ?_
  subst he
  have hlt := hW'.lt
  refine ⟨_, rfl, post_below hb hW' (fun _ _ _ => trodAll_cons_mk (shut_bool Tryz.underlying4 _) trodAll_mk0) (fun sp hsp => ?_) (fun _ => rfl) (ok_one (by kernel_rfl) rfl (okWide_bool_mk Tryz.underlying4 _))⟩
  have h3 := trodAll_mk1 (WideElems.Trod_stays svlaidOut (by kernel_rfl) (of_decide_eq_true (by kernel_rfl)) h0k (fun y hy => hb.same (hlt y (by simp [hy]))) (fun y hy => hsp y (by simp [hy])))
  first
    | exact h3
    | (simp only [List.append_nil, List.append_assoc] at h3 ⊢; exact h3)
    | simpa using h3
theorem sv_lays (os : Os) (args : Array Value) : laidMet Tryz.prog Rows.expectsVoidRow.laid ((World.laidAll Tryz.prog os Rows.expectsVoidRow.laid).forCall (fun _ _ => 0) ⟨#[], args, []⟩).memory :=
  laidMet_laidAll _ (by kernel_rfl) (by kernel_rfl)
theorem sv_reads (os : Os) {H : Type} (enc : TypeId × Value → H) : ∃ places, DataW.whole enc Tryz.prog ((World.laidAll Tryz.prog os Rows.expectsVoidRow.laid).forCall (fun _ _ => 0) ⟨#[], #[.agg #[.int .i64 0, .int .i64 0, .int .i64 0, .slice none 0 0]], []⟩).memory Tryz.f3.params.toList Rows.expectsVoidSpec.vars false (#[.agg #[.int .i64 0, .int .i64 0, .int .i64 0, .slice none 0 0]] : Array Value).toList 8 = some ([.agg [.lit (.int .i64 0), .lit (.int .i64 0), .lit (.int .i64 0), .nil]], [], places) :=
  ⟨[], by kernel_rfl⟩
set_option maxRecDepth 100000 in
theorem sv_lifted (os : Os) (started : os.Started) (H : Type) (enc : TypeId × Value → H) (F : Stop.Interp) :
    ReturnsInHanded {} Tryz.checked os 3 .any ((OpenSpec.ofChange Rows.expectsVoidSpec).preRow enc Tryz.prog Tryz.f3 Rows.expectsVoidRow.domain false Rows.expectsVoidRow.laid) (((OpenSpec.ofChange Rows.expectsVoidSpec).at F).post enc Tryz.prog Tryz.f3 false true false false) := by
  obtain ⟨places, hx⟩ := sv_reads os enc
  have hok : Input.okWideB Tryz.prog ((World.laidAll Tryz.prog os Rows.expectsVoidRow.laid).forCall (fun _ _ => 0) ⟨#[], #[.agg #[.int .i64 0, .int .i64 0, .int .i64 0, .slice none 0 0]], []⟩) 3 ⟨#[], #[.agg #[.int .i64 0, .int .i64 0, .int .i64 0, .slice none 0 0]], []⟩ = true := by kernel_rfl
  refine returnsInHanded_of_row (C := Tryz.checked) (s := OpenSpec.ofChange Rows.expectsVoidSpec) svown started (by kernel_rfl) Tryz.func3
    ⟨World.laidAll Tryz.prog os Rows.expectsVoidRow.laid, fun _ _ => 0, ⟨#[], #[.agg #[.int .i64 0, .int .i64 0, .int .i64 0, .slice none 0 0]], []⟩, World.laidAll_os _ _ _, World.shaped_of_ZipB (by kernel_rfl) (by kernel_rfl), (Input.okWide_of_okWideB (base := 0) hok).1, (Input.okWide_of_okWideB hok).2,
      OpenSpec.preRow_of_cond 8 hx (by kernel_rfl) (fun k hk => by cases hk) (by kernel_rfl) (sv_lays os _), by
        simp only [Assume.holds]
        exact ⟨by simp, by simp, fun _ => Modest.zero, by simp, by simp⟩⟩ ?_
  intro W base args ds gs before hval hW _ _ hw hT _ _
  exact sv_contract H enc W base args ds gs before hval hW hw hT
theorem sv_row : Rows.ExpectsVoidSaid :=
  OpenClaim.holds_of_cond 3 Tryz.f3 rfl rfl rfl rfl rfl rfl rfl ⟨rfl, rfl, rfl, rfl, rfl⟩ rfl rfl rfl rfl rfl (by kernel_rfl) Tryz.func3 (by kernel_rfl)
    (of_decide_eq_true (by kernel_rfl)) (by unfold Func.isWrapper; first | (rw [if_pos (by decide +kernel)]; kernel_rfl) | (rw [if_neg (by decide +kernel)]; exact ⟨rfl, rfl⟩))
    (fun os started H enc _ F => by rw [OpenClaim.pre_eq_preRow]; exact sv_lifted os started H enc F)
theorem sv_plain (f : FuncId) (fn : Func) (hf : Tryz.pinned.checked.prog.funcNamed "harbinger/harbingerlaw28.ExpectsVoid" = some f) (hfn : Tryz.pinned.checked.prog.funcs[f]? = some fn) :
    false = Tryz.pinned.checked.prog.looks [] ∧ ∀ (j : Nat) t, fn.params[j]? = some t → Tryz.pinned.checked.prog.wantsStandIn t = false := by
  obtain rfl : f = 3 := Option.some.inj ((show Tryz.prog.funcNamed "harbinger/harbingerlaw28.ExpectsVoid" = some 3 by kernel_rfl).symm.trans hf) |>.symm
  obtain rfl : fn = Tryz.f3 := (Option.some.inj (Tryz.func3.symm.trans hfn)).symm
  refine ⟨by kernel_rfl, fun j t ht => ?_⟩
  rw [Tryz.params3] at ht
  have hm : t ∈ ([24] : List TypeId) := by simpa using Array.mem_of_getElem? ht
  simp only [List.mem_cons, List.not_mem_nil, or_false] at hm
  rcases hm with rfl
  · exact (show Tryz.prog.wantsStandIn 24 = false by kernel_rfl)
theorem expectsVoid_card : Rows.ExpectsVoidCardSaid :=
  Claim7.holds_tied_plain_at .later [] _ _ _ _ sv_row (fun _ h => by cases h) (by kernel_rfl) (fun _ h => by cases h) expectsVoid_row_tie rfl ⟨rfl, rfl⟩ (by kernel_rfl) rfl sv_plain (by kernel_rfl)
end Go.Proofs.YtppjmdanckdobaaGreatDoor
