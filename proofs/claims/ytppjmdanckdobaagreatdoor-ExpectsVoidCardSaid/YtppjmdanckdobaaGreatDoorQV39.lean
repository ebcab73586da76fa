/- Far: how many tokens are a beginning. -/
import Derived.Test.YtppjmdanckdobaaGreatDoorQV37
import Derived.Test.YtppjmdanckdobaaGreatDoorQV38
import Derived.Test.YtppjmdanckdobaaGreatDoorQV25
import Derived.Test.YtppjmdanckdobaaGreatDoorQV28
import Derived.Test.YtppjmdanckdobaaGreatDoorQV15
import Derived.Test.YtppjmdanckdobaaGreatDoorQV19
namespace Go.Proofs.YtppjmdanckdobaaGreatDoor
open Go.RowKit Go.Sort
def OkN (B : Bk) (r : Int) (wl : List Int) : Prop := askB B r wl = true ∧ ∃ x, NextS B r.toNat wl x
theorem NextIs.okN {B : Bk} {r : Int} {wl : List Int} {W W' : World} {e : Ending} (h : NextIs B r wl W e W') : Grew W W' ∧ ∃ v b, e = .returned (.tuple #[v, .bool b]) ∧ (b = true ↔ OkN B r wl) := by
  obtain ⟨hg, h⟩ := h
  refine ⟨hg, ?_⟩
  by_cases ha : askB B r wl = true
  · rw [if_pos ha] at h
    obtain ⟨L, v, rfl, _, hn⟩ := h
    refine ⟨v, _, rfl, ?_⟩
    rw [decide_eq_true_eq]
    constructor
    · intro hl
      exact ⟨ha, L[0], (hn.mem _).1 (List.getElem_mem hl)⟩
    · rintro ⟨_, x, hx⟩
      exact List.length_pos_of_mem ((hn.mem x).2 hx)
  · rw [if_neg ha] at h
    exact ⟨_, _, h, ⟨nofun, fun h => absurd h.1 ha⟩⟩
theorem size_intX (u : World) : (sizeOf (Tryz.prog.elem 22)).run Tryz.prog u = .ok 1 u := by kernel_rfl
theorem xcut {W : World} {lim sc : Nat} {wa : Option Addr} {wl : List Int} (hI : IntsAt W lim wa wl) (hsc : wl.length ≤ sc) {j : Nat} (hj : j ≤ wl.length) :
    ∃ a', (∀ u : World, (Instr.slice 22 (.slice wa wl.length sc) none (some (.int .i64 (j : Int))) none).run Tryz.prog u = .ok (.slice a' j sc) u) ∧ IntsAt W lim a' (wl.take j) := by
  have h0 : ∀ u : World, (Instr.slice 22 (.slice wa wl.length sc) none (some (.int .i64 (j : Int))) none).run Tryz.prog u = .ok (sliced wa 0 j sc 1) u := fun u => by
    have := run_slice_h (P := Tryz.prog) u 22 wa wl.length sc (by kernel_rfl) .i64 (j : Int) (by omega) (by omega)
    rw [this, size_intX, Int.toNat_natCast]
    rfl
  refine ⟨_, h0, fun k hk => ?_⟩
  rw [List.length_take] at hk
  obtain ⟨b, off, rfl, hb, hc⟩ := hI k (by omega)
  refine ⟨b, off, ?_, hb, by rw [List.getElem_take]; exact hc⟩
  rw [if_neg (by omega)]
  rfl
structure FarIs (B : Bk) (r : Int) (wl : List Int) (x : Int) : Prop where
  lt : x ≤ (wl.length : Int)
  lo : -1 ≤ x
  ok : 0 ≤ x → OkN B r (wl.take x.toNat)
  no : ∀ m : Nat, x < (m : Int) → m ≤ wl.length → ¬ OkN B r (wl.take m)
def FarAt (B : Bk) (r : Int) (wl : List Int) (W : World) (e : Ending) (W' : World) : Prop := Grew W W' ∧ ∃ x, e = .returned (.int .i64 x) ∧ if hasX B r wl.length then FarIs B r wl x else x = -1
set_option maxHeartbeats 8000000 in
set_option maxRecDepth 40000 in
theorem xfar_ok (T : XT) (hG : T.B.Good) (hB : T.B.Lng) (r : Int) (wa : Option Addr) (sc : Nat) (wl : List Int) (W : World) (hT : T.At W.heap.size W) (hI : IntsAt W W.heap.size wa wl) (hwl : wl.length ≤ reachN) (hsc : wl.length ≤ sc) (htk : ∀ nm, T.B.tok nm ≤ 1000000) :
    Calls Tryz.prog 7 #[T.ptr, .int .i64 r, .slice wa wl.length sc] W (FarAt T.B r wl W) := by
  have HH := Lib.hid (xhas_ok T r wa wl.length sc W hT)
  have HT := Lib.hid hT
  have HI := Lib.hid hI
  have HNX : Hid (∀ (w : World) (n : Nat) (a : Option Addr) (c : Nat), n ≤ wl.length → IntsAt W W.heap.size a (wl.take n) → Grew W w → Calls Tryz.prog 5 #[T.ptr, .int .i64 r, .slice a n c] w fun e w' => Grew W w' ∧ ∃ v b, e = .returned (.tuple #[v, .bool b]) ∧ (b = true ↔ OkN T.B r (wl.take n))) := Lib.hid fun w n a c hn hI hg => by
    have hl : (wl.take n).length = n := by rw [List.length_take]; omega
    have h1 := xnext_ok T hG hB r a c (wl.take n) w (hT.grew hg) (IntsAt.mono hg.size (IntsAt.keep hg hI)) (by omega) htk
    rw [hl] at h1
    exact h1.mono fun e w' h => ⟨hg.trans h.okN.1, h.okN.2⟩
  obtain ⟨Q, hQ⟩ : ∃ Q, FarAt T.B r wl W = Q := ⟨_, rfl⟩
  rw [hQ]
  unfold XT.ptr at *
  cases hh : hasX T.B r wl.length with
  | false =>
    rw [hh] at HH
    have HX : Hid (Q (.returned (.int .i64 (-1))) W) := Lib.hid (by
      rw [← hQ]
      refine ⟨Grew.refl _, _, rfl, ?_⟩
      rw [if_neg (by rw [hh]; simp)])
    clear hQ hG hB hT hI hh
    go_enter Tryz.func7, Tryz.ntmps7
    go_wp2_with fail
    refine HH.out.mono ?_
    rintro e w1 ⟨rfl, rfl⟩
    go_wp2_with fail
    exact HX.out
  | true =>
    rw [hh] at HH
    have HX : Hid (∀ w' x, Grew W w' → FarIs T.B r wl x → Q (.returned (.int .i64 x)) w') := Lib.hid fun w' x h1 h2 => by
      rw [← hQ]
      refine ⟨h1, _, rfl, ?_⟩
      rw [if_pos hh]
      exact h2
    have HW48 : Hid (wl.length ≤ 48) := Lib.hid (by
      unfold hasX at hh
      simp only [Bool.and_eq_true, decide_eq_true_eq] at hh
      exact hh.2.2)
    obtain ⟨n0, hn⟩ : ∃ n, wl.length = n := ⟨_, rfl⟩
    have HN := Lib.hid hn
    have HCUT : Hid (∀ j, j ≤ wl.length → ∃ a', (∀ u : World, (Instr.slice 22 (.slice wa wl.length sc) none (some (.int .i64 (j : Int))) none).run Tryz.prog u = .ok (.slice a' j sc) u) ∧ IntsAt W W.heap.size a' (wl.take j)) := Lib.hid fun j hj => xcut HI.out hsc hj
    rw [hn] at HH hsc HNX HCUT ⊢
    clear hQ hG hB hT hI hh hwl hn
    go_enter Tryz.func7, Tryz.ntmps7
    go_wp2_with fail
    refine HH.out.mono ?_
    rintro e w1 ⟨rfl, rfl⟩
    go_wp2_with fail
    go_loopw [7] (fun v wr => ∃ (j : Nat), v = .int .i64 ((j : Int) - 1) ∧ j ≤ n0 + 1 ∧ Hid (∀ m : Nat, (j : Int) - 1 < (m : Int) → m ≤ n0 → ¬ OkN T.B r (wl.take m)) ∧ Hid (Grew w1 wr)) (fun v _ => (intOf v + 1).toNat)
    case atStart => exact ⟨n0 + 1, by simp, Nat.le_refl _, fun m h1 h2 => by omega, Grew.refl _⟩
    case round =>
      obtain ⟨j, rfl, hj, hno, hgw⟩ := hrel
      by_cases h0 : j = 0
      · subst h0
        have HXN := Lib.hid (HX.out wr (-1) hgw.out ⟨by omega, by omega, fun h => absurd h (by omega), fun m h1 h2 => hno.out m (by omega) (by rw [← HN.out]; exact h2)⟩)
        go_wp2_with fail
        exact HXN.out
      · obtain ⟨i, rfl⟩ : ∃ i, j = i + 1 := ⟨j - 1, by omega⟩
        have e1 : ((i + 1 : Nat) : Int) - 1 = (i : Int) := by omega
        rw [e1] at hno ⊢
        obtain ⟨a', hrun, hia⟩ := HCUT.out i (by omega)
        have HCL := Lib.hid (HNX.out wr i a' sc (by omega) hia hgw.out)
        have HSTEP : Hid (¬ OkN T.B r (wl.take i) → ∀ m : Nat, (i : Int) - 1 < (m : Int) → m ≤ n0 → ¬ OkN T.B r (wl.take m)) := Lib.hid fun h m h1 h2 => by
          by_cases e : m = i
          · rw [e]; exact h
          · exact hno.out m (by omega) h2
        have HFND : Hid (OkN T.B r (wl.take i) → ∀ w', Grew w1 w' → Q (.returned (.int .i64 (i : Int))) w') := Lib.hid fun h w' hg => HX.out w' _ hg ⟨by have := HN.out; omega, by omega, fun _ => by rw [Int.toNat_natCast]; exact h, fun m h1 h2 => hno.out m (by omega) (by rw [← HN.out]; exact h2)⟩
        clear hia
        go_wp2_with fail
        refine HCL.out.mono ?_
        rintro e w3 ⟨hg3, v, b, rfl, hb⟩
        have HG3 := Lib.hid hg3
        have HB3 := Lib.hid hb
        clear hg3 hb
        cases b
        · have HX3 := Lib.hid (HSTEP.out fun h => by have := HB3.out.2 h; cases this)
          go_wp2_with fail
          have hwr : wrap64 ((i : Int) - 1) = (i : Int) - 1 := by have := HW48.out; have := HN.out; unfold wrap64; omega
          rw [hwr]
          exact ⟨⟨i, rfl, by omega, HX3.out, HG3.out⟩, by simp only [intOf]; omega⟩
        · have HX3 := Lib.hid (HFND.out (HB3.out.1 rfl) _ HG3.out)
          go_wp2_with fail
          exact HX3.out
end Go.Proofs.YtppjmdanckdobaaGreatDoor

/- What holds of a grammar's book, for a table. -/
namespace Go.Proofs.YtppjmdanckdobaaGreatDoor
open Go.RowKit
structure Bk.Okx (B : Bk) : Prop where
  good : B.Good
  lng : B.Lng
  toks : ∀ n ∈ B.bodies, TokIn B n
  rise : B.kinds.Pairwise (· < ·)
  few : B.kinds.length ≤ 1000
  tok : ∀ nm, B.tok nm ≤ 1000000
theorem of_len (g : Gr) (S : List Int) : (g.of S).length ≤ g.rules.length := Gr.ofTo_len g S _
theorem book_tok_le (g : Gr) (nm : ByteArray) : (bookOf g).tok nm ≤ g.rules.length := by
  unfold Bk.tok bookOf
  rw [(Bk.iter_rest _ _).2.1]
  show (lookS (nmsTo g (g.of [1, 3]) (g.of [1, 3]).length) nm).getD 0 ≤ _
  cases h : lookS (nmsTo g (g.of [1, 3]) (g.of [1, 3]).length) nm with
  | none => exact Nat.zero_le _
  | some k =>
    obtain ⟨x, hx, _, rfl⟩ := lookS_mem h
    have h1 := (nmsTo_mem hx).1
    have h2 := of_len g [1, 3]
    show x.2 ≤ _
    omega
theorem book_okx {g : Gr} (hs : soundP g) (hf : g.Fine) (hl : g.rules.length ≤ 1000) : (bookOf g).Okx := by
  have hn := hf.names
  have hf' := hf
  obtain ⟨es, M, N, he, hM, hN, ht⟩ := hf'
  have hkr := kindsTo_rise g (g.of [1, 3]) (g.of [1, 3]).length
  have hkl := kindsTo_len g (g.of [1, 3]) (g.of [1, 3]).length
  rw [← bookOf_kinds] at hkr hkl
  refine ⟨book_good hs hf, book_lng hs, book_toks ht hn, hkr.2, ?_, fun nm => Nat.le_trans (book_tok_le g nm) (by omega)⟩
  have := of_len g [1, 3]
  omega
theorem rise_uniq : ∀ {u v : List Int}, u.Pairwise (· < ·) → v.Pairwise (· < ·) → (∀ x, x ∈ u ↔ x ∈ v) → u = v
  | [], [], _, _, _ => rfl
  | [], y :: v, _, _, h => absurd ((h y).2 (List.mem_cons_self ..)) (by simp)
  | x :: u, [], _, _, h => absurd ((h x).1 (List.mem_cons_self ..)) (by simp)
  | x :: u, y :: v, hu, hv, h => by
    obtain ⟨u1, u2⟩ := List.pairwise_cons.1 hu
    obtain ⟨v1, v2⟩ := List.pairwise_cons.1 hv
    have e : x = y := by
      rcases List.mem_cons.1 ((h x).1 (List.mem_cons_self ..)) with e | hx
      · exact e
      · rcases List.mem_cons.1 ((h y).2 (List.mem_cons_self ..)) with e | hy
        · exact e.symm
        · have := v1 x hx
          have := u1 y hy
          omega
    subst e
    rw [rise_uniq u2 v2 fun z => ?_]
    have hz := h z
    rw [List.mem_cons, List.mem_cons] at hz
    constructor
    · intro hm
      rcases hz.1 (.inr hm) with rfl | h
      · have := u1 z hm; omega
      · exact h
    · intro hm
      rcases hz.2 (.inr hm) with rfl | h
      · have := v1 z hm; omega
      · exact h
theorem NextL.uniq {B : Bk} {r : Nat} {wl L L' : List Int} (h : NextL B r wl L) (h' : NextL B r wl L') : L = L' := rise_uniq h.rise h'.rise fun x => (h.mem x).trans (h'.mem x).symm
end Go.Proofs.YtppjmdanckdobaaGreatDoor

/- Plain law: who goes on to whom, of rules that are no parser's, as it is marked node by node. -/
namespace Go.Proofs.YtppjmdanckdobaaGreatDoor
def Gr.rdHit (g : Gr) (r : Rl) (n : Nd) : Bool := n.isName && (!r.parser && (decide (0 ≤ g.find n.name) && !(g.sortAt (g.find n.name) == 0)))
def Gr.rdMark (g : Gr) (r : Rl) (l : List Bool) (n : Nd) : List Bool := if g.rdHit r n then l.set (g.find n.name).toNat true else l
def Gr.rdMarks (g : Gr) (r : Rl) (ns : List Nd) : List Bool := ns.foldl (g.rdMark r) (List.replicate g.rules.length false)
theorem rdMarks_snoc (g : Gr) (r : Rl) (ns : List Nd) (n : Nd) : g.rdMarks r (ns ++ [n]) = g.rdMark r (g.rdMarks r ns) n := by
  unfold Gr.rdMarks
  rw [List.foldl_append]
  rfl
theorem rdMark_length (g : Gr) (r : Rl) (l : List Bool) (n : Nd) : (g.rdMark r l n).length = l.length := by
  unfold Gr.rdMark
  split <;> simp
theorem rdMarks_length (g : Gr) (r : Rl) (ns : List Nd) : (g.rdMarks r ns).length = g.rules.length := by
  unfold Gr.rdMarks
  have : ∀ (ns : List Nd) (l : List Bool), (ns.foldl (g.rdMark r) l).length = l.length := by
    intro ns
    induction ns with
    | nil => intro l; rfl
    | cons n ns ih => intro l; rw [List.foldl_cons, ih, rdMark_length]
  rw [this]
  simp
theorem rdMarks_iff (g : Gr) (r : Rl) (k : Nat) (hk : k < g.rules.length) : ∀ (ns : List Nd) (l : List Bool), l.length = g.rules.length →
    ((ns.foldl (g.rdMark r) l).getD k false = true ↔ l.getD k false = true ∨ ∃ m ∈ ns, g.rdHit r m = true ∧ g.find m.name = (k : Int)) := by
  intro ns
  induction ns with
  | nil => intro l _; simp
  | cons n ns ih =>
    intro l hl
    rw [List.foldl_cons, ih _ (by rw [rdMark_length, hl])]
    have h1 : (g.rdMark r l n).getD k false = true ↔ l.getD k false = true ∨ (g.rdHit r n = true ∧ g.find n.name = (k : Int)) := by
      unfold Gr.rdMark
      split
      · next hh =>
        rw [getD_set]
        have hpos : 0 ≤ g.find n.name := by
          unfold Gr.rdHit at hh
          simp only [Bool.and_eq_true, decide_eq_true_eq] at hh
          exact hh.2.2.1
        split
        · next he =>
          refine ⟨fun _ => .inr ⟨hh, by omega⟩, fun _ => rfl⟩
        · next he =>
          refine ⟨.inl, fun h => h.elim id fun h => absurd ⟨by omega, by omega⟩ he⟩
      · next hh => exact ⟨.inl, fun h => h.elim id fun h => absurd h.1 hh⟩
    rw [h1]
    constructor
    · rintro ((h | h) | ⟨m, hm, h⟩)
      · exact .inl h
      · exact .inr ⟨n, List.mem_cons_self .., h⟩
      · exact .inr ⟨m, List.mem_cons_of_mem _ hm, h⟩
    · rintro (h | ⟨m, hm, h⟩)
      · exact .inl (.inl h)
      · rcases List.mem_cons.1 hm with rfl | hm
        · exact .inl (.inr h)
        · exact .inr ⟨m, hm, h⟩
def Gr.rdM (g : Gr) : List (List Bool) := g.rules.map fun r => g.rdMarks r r.body.all
theorem rdM_square (g : Gr) : Square g.rules.length g.rdM := by
  refine ⟨by simp [Gr.rdM], fun i h => ?_⟩
  simp only [Gr.rdM, List.getElem_map]
  exact rdMarks_length ..
theorem rdM_at (g : Gr) (i k : Nat) (hi : i < g.rules.length) : at2 g.rdM i k = (g.rdMarks g.rules[i] g.rules[i].body.all).getD k false := by
  unfold at2 Gr.rdM
  rw [List.getD_eq_getElem?_getD (l := List.map _ _), List.getElem?_map, List.getElem?_eq_getElem hi]
  rfl
theorem rdM_iff (g : Gr) (i k : Nat) : at2 g.rdM i k = true ↔ g.rd0 i k := by
  constructor
  · intro h
    obtain ⟨hi, hk⟩ := at2_lt (rdM_square g) h
    rw [rdM_at g i k hi] at h
    unfold Gr.rdMarks at h
    rw [rdMarks_iff g _ k hk _ _ (by simp)] at h
    rcases h with h | ⟨m, hm, h1, h2⟩
    · rw [List.getD_eq_getElem?_getD, List.getElem?_replicate] at h
      split at h <;> simp at h
    · unfold Gr.rdHit at h1
      rw [h2, sortAt_nat g k hk] at h1
      simp only [Bool.and_eq_true, Bool.not_eq_true'] at h1
      exact ⟨hi, hk, h1.2.1, h1.2.2.2, m, hm, h1.1, h2⟩
  · rintro ⟨hi, hk, h1, h2, m, hm, h3, h4⟩
    rw [rdM_at g i k hi]
    unfold Gr.rdMarks
    rw [rdMarks_iff g _ k hk _ _ (by simp)]
    refine .inr ⟨m, hm, ?_, h4⟩
    unfold Gr.rdHit
    rw [h3, h1, h4, sortAt_nat g k hk]
    have : (g.rules[k].sort == 0) = false := h2
    rw [this]
    simp
end Go.Proofs.YtppjmdanckdobaaGreatDoor

/- The rows of a square of bools in memory: the slices of the rows in block rb, the rows in blocks of their own. -/
namespace Go.Proofs.YtppjmdanckdobaaGreatDoor
open Go.RowKit
structure MatR (W : World) (B rb n j : Nat) (f : Nat → Nat) (row : Nat → List Bool) : Prop where
  r : Owns W rb (rowsL f n j) 151
  rows : ∀ i, i < j → Owns W (f i) ((row i).map .bool) 4
  len : ∀ i, i < j → (row i).length = n
  inj : ∀ i k, i < j → k < j → i ≠ k → f i ≠ f k
  lo : ∀ i, i < j → B ≤ f i
  rb_lt : rb < B
  jn : j ≤ n
theorem MatR.keep {W W' : World} {B rb n j : Nat} {f : Nat → Nat} {row : Nat → List Bool} (h : MatR W B rb n j f row) (hg : Grew W W') : MatR W' B rb n j f row :=
  ⟨h.r.keep hg, fun i hi => (h.rows i hi).keep hg, h.len, h.inj, h.lo, h.rb_lt, h.jn⟩
theorem MatR.of {W W' : World} {B rb n j : Nat} {f : Nat → Nat} {row : Nat → List Bool} (h : MatR W B rb n j f row) (hk : ∀ b cs T, (T = 151 ∨ T = 4) → Owns W b cs T → Owns W' b cs T) : MatR W' B rb n j f row :=
  ⟨hk _ _ _ (.inl rfl) h.r, fun i hi => hk _ _ _ (.inr rfl) (h.rows i hi), h.len, h.inj, h.lo, h.rb_lt, h.jn⟩
theorem MatR.next {W W' : World} {B rb n j t : Nat} {f : Nat → Nat} {row : Nat → List Bool} {l : List Bool} (h : MatR W B rb n j f row) (hg : Upd t (W.setCell ⟨rb, j, none⟩ (.slice (some ⟨t, 0, none⟩) n n)) W') (ht : Owns W' t (l.map .bool) 4) (hl : l.length = n)
    (hB : B ≤ t) (hnew : ∀ i, i < j → f i ≠ t) (hj : j < n) : MatR W' B rb n (j + 1) (fun k => if k = j then t else f k) (fun k => if k = j then l else row k) := by
  have hb : rb < B := h.rb_lt
  refine ⟨?_, fun i hi => ?_, fun i hi => ?_, fun i k hi hk hne => ?_, fun i hi => ?_, hb, by omega⟩
  · have := (h.r.set j (.slice (some ⟨t, 0, none⟩) n n)).upd hg (by omega)
    rwa [rowsL_next] at this
  · by_cases e : i = j
    · subst e; simpa using ht
    · have hi' : i < j := by omega
      have h1 := h.lo i hi'
      have := ((h.rows i hi').other (a := ⟨rb, j, none⟩) (by show rb ≠ f i; omega) (.slice (some ⟨t, 0, none⟩) n n)).upd hg (hnew i hi')
      simpa [e] using this
  · by_cases e : i = j
    · subst e; simpa using hl
    · simpa [e] using h.len i (by omega)
  · by_cases e : i = j
    · subst e
      have : ¬ k = i := fun x => hne x.symm
      simp only [if_true, this, if_false]
      exact fun x => hnew k (by omega) x.symm
    · by_cases e2 : k = j
      · subst e2
        simp only [e, if_false, if_true]
        exact hnew i (by omega)
      · simp only [e, e2, if_false]
        exact h.inj i k (by omega) (by omega) hne
  · by_cases e : i = j
    · subst e; simpa using hB
    · simpa [e] using h.lo i (by omega)
theorem MatR.put {W : World} {B rb n : Nat} {f : Nat → Nat} {M : List (List Bool)} (h : MatR W B rb n n f (fun i => M.getD i [])) (hs : Square n M) {i k : Nat} (hi : i < n) (b : Bool) :
    MatR (W.setCell ⟨f i, k, none⟩ (.bool b)) B rb n n f (fun j => (set2 M i k b).getD j []) := by
  have h1 := h.lo i hi
  have hb : rb < B := h.rb_lt
  have hget : ∀ j, (set2 M i k b).getD j [] = if j = i then (M.getD i []).set k b else M.getD j [] := by
    intro j
    unfold set2
    by_cases e : j = i
    · subst e; simp [List.getD_eq_getElem?_getD, hs.1, hi]
    · simp only [List.getD_eq_getElem?_getD, List.getElem?_set_ne (fun x => e x.symm), e, if_false]
  refine ⟨h.r.other (by show f i ≠ rb; omega) _, fun j hj => ?_, fun j hj => ?_, h.inj, h.lo, hb, h.jn⟩
  · rw [hget]
    by_cases e : j = i
    · subst e
      simp only [if_true]
      have := (h.rows j hj).set k (.bool b)
      rwa [← List.map_set] at this
    · simp only [e, if_false]
      exact (h.rows j hj).other (by show f i ≠ f j; exact h.inj i j hi hj (fun x => e x.symm)) _
  · rw [hget]
    split
    · rename_i e; subst e; simpa using h.len j hj
    · exact h.len j hj
theorem MatR.cell {W : World} {B rb n : Nat} {f : Nat → Nat} {M : List (List Bool)} (h : MatR W B rb n n f (fun i => M.getD i [])) {i k : Nat} (hi : i < n) (hk : k < n) : W.cell? ⟨f i, k, none⟩ = some (.bool (at2 M i k)) := by
  have h1 := h.rows i hi
  have h2 := h.len i hi
  refine h1.cell_at ?_
  unfold at2
  rw [List.getElem?_map, List.getElem?_eq_getElem (by omega), List.getD_eq_getElem?_getD (l := M.getD i []), List.getElem?_eq_getElem (by omega)]
  rfl
theorem MatR.row {W : World} {B rb n j : Nat} {f : Nat → Nat} {row : Nat → List Bool} (h : MatR W B rb n j f row) {i : Nat} (hi : i < j) : W.cell? ⟨rb, i, none⟩ = some (.slice (some ⟨f i, 0, none⟩) n n) := by
  have := h.jn
  rw [h.r.cell, rowsL_at _ _ _ _ (by omega), if_pos hi]
theorem MatR.congr {W : World} {B rb n j : Nat} {f : Nat → Nat} {row row' : Nat → List Bool} (h : MatR W B rb n j f row) (he : ∀ i, i < j → row i = row' i) : MatR W B rb n j f row' :=
  ⟨h.r, fun i hi => by rw [← he i hi]; exact h.rows i hi, fun i hi => by rw [← he i hi]; exact h.len i hi, h.inj, h.lo, h.rb_lt, h.jn⟩
theorem Mat.matR {W : World} {B ob rb n j : Nat} {f : Nat → Nat} {row : Nat → List Bool} (h : Mat W B ob rb n j f row) : MatR W B rb n j f row := ⟨h.r, h.rows, h.len, h.inj, h.lo, h.rb_lt, h.jn⟩
end Go.Proofs.YtppjmdanckdobaaGreatDoor
