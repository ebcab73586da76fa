/- An append onto a row that may begin behind its block's beginning. -/
import Derived.Test.YtiiffcmojkdlaaaGreatDoorQ22
import Derived.Test.YtiiffcmojkdlaaaGreatDoorQ20
import Derived.Test.YtiiffcmojkdlaaaGreatDoorQ21
namespace Go.Proofs.YtiiffcmojkdlaaaGreatDoor
open Go.RowKit

theorem tail_form {w : World} {base e size n : Nat} {v : Value} {xs : List Value} (h : tailRow w base e size v n xs) : ∃ a c, v = .slice a n c := by
  rcases h with h | ⟨_, g, off, cur, h1, _⟩
  · rcases h.2 with ⟨h1, h0⟩ | ⟨b, cap, cur, h1, h2, h3, h4⟩
    · exact ⟨none, 0, by rw [h1, h0]⟩
    · exact ⟨_, cap, h1⟩
  · exact ⟨_, _, h1⟩
theorem tail_len {w : World} {base e size n : Nat} {v : Value} {xs : List Value} (h : tailRow w base e size v n xs) : xs.length = n * size := by
  rcases h with h | h
  · exact h.1
  · exact h.1
/-- a cell of such a row -/
theorem tail_cell {w : World} {base e size n : Nat} {v : Value} {xs : List Value} (h : tailRow w base e size v n xs) (hn : 0 < n) : ∃ g off cap, v = .slice (some ⟨g, off, none⟩) n cap ∧ base ≤ g ∧ g < w.heap.size ∧ n ≤ cap ∧ ∀ (j : Nat) u, xs[j]? = some u → w.cell? ⟨g, off + j, none⟩ = some u := by
  rcases h with h | ⟨h0, g, off, cur, h1, h2, h3, h4, h5, h6⟩
  · rcases h.2 with ⟨_, h0⟩ | ⟨g, cap, cur, h1, h2, h3, h4, _⟩
    · omega
    · refine ⟨g, 0, cap, h1, h2, (Array.getElem?_eq_some_iff.1 h3).1, h4, fun j u hj => ?_⟩
      rw [Nat.zero_add]
      exact looseRow_cells h (g := g) (by rw [h1]; rfl) j u hj
  · refine ⟨g, off, n, h1, h2, (Array.getElem?_eq_some_iff.1 h3).1, Nat.le_refl _, fun j u hj => ?_⟩
    rw [← h6, List.getElem?_take] at hj
    split at hj
    · rw [cell_of_row w g (off + j) cur e (0, 0) h3]
      simpa using hj
    · cases hj

section
variable {P : Program} (w : World)
theorem run_append_tail (t ty : TypeId) (base : Nat) (e : TypeId) (i : TypeInfo) (z : Value) (size bytes : Nat) (ht : P.underlying t = some (.slice e)) (hi : P.info? e = some i) (hz : i.zero = some z)
    (hsize : i.size = size) (hby : i.bytes = bytes) (hzs : z.cells.size = size) (hsz : 0 < size)
    (v : Value) (n : Nat) (xs : List Value) (hown : tailRow w base e size v n xs)
    (ad : Addr) (m c : Nat) (news : List Value) (hl : news.length = m * size) (hnews : ∀ j u, news[j]? = some u → w.cell? (ad.add j) = some u) (h1 : ∀ u ∈ news, u.oneCell' = true)
    (hm : 0 < m) (h63 : n + m ≤ maxLen) (hbytes : (n + m) * bytes ≤ 140737488355328) (hbase : base ≤ w.heap.size) (H : Nat) (hH : w.heap.size = H) :
    ∃ g cap w', (Builtin.append_ #[t, t] ty #[v, .slice (some ad) m c]).run P w = .ok (.slice (some ⟨g, 0, none⟩) (n + m) cap) w' ∧
      looseRow w' base e size (.slice (some ⟨g, 0, none⟩) (n + m) cap) (n + m) (xs ++ news) ∧ w.grownBy w' v.ownBlock ∧ (v.ownBlock = some g ∨ g = H) ∧ g < w'.heap.size := by
  rcases hown with hown | ⟨h0, g, off, cur, rfl, h2, h3, h4, h5, h6⟩
  · exact run_append_loose w t ty base e i z size bytes ht hi hz hsize hby hzs hsz v n xs hown ad m c news hl hnews h1 hm h63 hbytes hbase H hH
  · subst hsize
    subst hby
    subst hH
    have hlen : (xs ++ news).length = (n + m) * i.size := by rw [List.length_append, h0, hl, Nat.add_mul]
    have hsmall : n + m ≤ 9223372036854775807 := by simp only [maxLen] at h63; omega
    have holds : ∀ j u, xs[j]? = some u → w.cell? ((⟨g, off, none⟩ : Addr).add j) = some u := fun j u hj => by
      rw [show (⟨g, off, none⟩ : Addr).add j = ⟨g, off + j, none⟩ by unfold Addr.add; split <;> simp_all]
      rw [← h6, List.getElem?_take] at hj
      split at hj
      · rw [cell_of_row w g (off + j) cur e (0, 0) h3]
        simpa using hj
      · cases hj
    have hr := run_append_grow (P := P) w t ty e i z ht hi hz ⟨g, off, none⟩ n n xs h0 holds ad m c news hl hnews (by omega) (by omega) (growslice_fits (by omega) hbytes)
    have hge := grownCap_ge w (n + m) n e
    have hcm : grownCap w (n + m) n e ≤ maxLen := grownCap_le_maxLen w (n + m) n e h63
    refine ⟨_, _, _, hr, ⟨hlen, .inr ⟨w.heap.size, _, _, rfl, hbase, heap_alloc_new w.drew _, hge, hcm, ?_, ?_⟩⟩, ⟨rfl, rfl, rfl, by simp, fun k hk _ => (Below.refl _ w.drew).alloc (Nat.le_refl _) _ |>.block k hk⟩, .inr rfl, by simp⟩
    · apply Nat.le_of_eq
      simp only [Array.size_append, List.size_toArray, size_zeroCells, hzs, h0, hl, ← Nat.add_mul]
      congr 1
      omega
    · simp only [Array.toList_append, List.append_assoc]
      rw [← List.append_assoc, ← hlen]
      exact List.take_left
theorem wpList_append_tail {ops : Array Oper} {rest : List Oper} {o : Oper} {a : Act} {Q : Exit → Act → World → Prop} (hgd : o.guard = none) (s x : Operand) (t : TypeId)
    (ho : o.op = .call { callee := .builtin .append, args := #[s, x], argTypes := #[t, t] })
    (base : Nat) (e : TypeId) (i : TypeInfo) (z : Value) (size bytes : Nat) (ht : P.underlying t = some (.slice e)) (hi : P.info? e = some i) (hz : i.zero = some z)
    (hsize : i.size = size) (hby : i.bytes = bytes) (hzs : z.cells.size = size) (hsz : 0 < size)
    (v : Value) (n : Nat) (xs : List Value) (hs : a.eval s = v) (hown : tailRow w base e size v n xs)
    (ad : Addr) (m c : Nat) (news : List Value) (hx : a.eval x = .slice (some ad) m c) (hl : news.length = m * size) (hnews : ∀ j u, news[j]? = some u → w.cell? (ad.add j) = some u) (h1 : ∀ u ∈ news, u.oneCell' = true)
    (hm : 0 < m) (h63 : n + m ≤ maxLen) (hbytes : (n + m) * bytes ≤ 140737488355328) (hbase : base ≤ w.heap.size) (H : Nat) (hH : w.heap.size = H)
    (h : ∀ g cap w', looseRow w' base e size (.slice (some ⟨g, 0, none⟩) (n + m) cap) (n + m) (xs ++ news) → w.grownBy w' v.ownBlock → (v.ownBlock = some g ∨ g = H) → g < w'.heap.size → wpList P ops Q rest (a.put o.dst (.slice (some ⟨g, 0, none⟩) (n + m) cap)) w') : wpList P ops Q (o :: rest) a w :=
  wpList_plain hgd fun K hK => by
    obtain ⟨g, cap, w', hr, h2, h3, h4, h5⟩ := run_append_tail (P := P) w t o.type base e i z size bytes ht hi hz hsize hby hzs hsz v n xs hown ad m c news hl hnews h1 hm h63 hbytes hbase H hH
    unfold Oper.wp execOp
    simp only [ho, resolve, invoke, builtin, Sem.run_bind, Sem.run_pure, Result.andThen_ok, List.map_toArray, List.map_cons, List.map_nil, hs, hx, hr]
    exact hK _ _ (h g cap w' h2 h3 h4 h5)
end
/-- such a row without its first element -/
theorem tail_drop {w : World} {base e size n : Nat} {v : Value} {xs : List Value} (h : tailRow w base e size v (n + 1) xs) : ∃ g off cap, v = .slice (some ⟨g, off, none⟩) (n + 1) cap ∧ n + 1 ≤ cap ∧ tailRow w base e size (.slice (some ⟨g, off + size, none⟩) n n) n (xs.drop size) := by
  have hl : (xs.drop size).length = n * size := by rw [List.length_drop, tail_len h, Nat.add_mul]; omega
  have hm : (n + 1) * size = n * size + size := by rw [Nat.add_mul, Nat.one_mul]
  rcases h with h | ⟨h0, g, off, cur, h1, h2, h3, h4, h5, h6⟩
  · rcases h.2 with ⟨_, h0⟩ | ⟨g, cap, cur, h1, h2, h3, h4, h5, h6, h7⟩
    · omega
    · have hc : (n + 1) * size ≤ cap * size := Nat.mul_le_mul_right _ h4
      refine ⟨g, 0, cap, h1, h4, .inr ⟨hl, g, 0 + size, cur, rfl, h2, h3, by omega, by omega, ?_⟩⟩
      rw [← h7, List.drop_take, Nat.zero_add, hm, Nat.add_sub_cancel]
  · refine ⟨g, off, n + 1, h1, Nat.le_refl _, .inr ⟨hl, g, off + size, cur, rfl, h2, h3, by omega, by omega, ?_⟩⟩
    rw [← h6, List.drop_take, List.drop_drop, hm, Nat.add_sub_cancel]
theorem tail_zero {w : World} {base e size n g off cap : Nat} {xs : List Value} (h : tailRow w base e size (.slice (some ⟨g, off, none⟩) n cap) n xs) : tailRow w base e size (.slice (some ⟨g, off, none⟩) 0 0) 0 [] := by
  rcases h with h | ⟨h0, g', off', cur, h1, h2, h3, h4, h5, h6⟩
  · rcases h.2 with ⟨h1, _⟩ | ⟨g', cap', cur, h1, h2, h3, h4, h5, h6, h7⟩
    · cases h1
    · cases h1
      exact .inr ⟨by simp, g, 0, cur, rfl, h2, h3, Nat.zero_le _, by omega, by simp⟩
  · cases h1
    exact .inr ⟨by simp, g, off, cur, rfl, h2, h3, Nat.zero_le _, by omega, by simp⟩
/-- what is left behind the first element -/
def restV (wg woff rn : Nat) : Value := if rn = 0 then .slice (some ⟨wg, woff, none⟩) 0 0 else .slice (some ⟨wg, woff + 6, none⟩) rn rn
theorem restV_form (wg woff rn : Nat) : ∃ off, restV wg woff rn = .slice (some ⟨wg, off, none⟩) rn rn := by
  unfold restV
  split
  · rename_i h; subst h; exact ⟨_, rfl⟩
  · exact ⟨_, rfl⟩
def Mk.dropWait (m : Mk) : Mk := { m with waits := m.waits.tail }
theorem MkAt.dropWait {E : MkE} {m : Mk} {V : MkV} {w : World} (h : MkAt E w m V) {v : Value} {cs' : List Value} (hr : tailRow w E.base 69 6 v m.waits.tail.length cs') (hw : WaitsAt w E.base m.waits.tail cs') (hown : v.ownBlock = V.wv.ownBlock) :
    MkAt E (w.setCell ⟨E.mb, 12, none⟩ v) m.dropWait (V.withW v) ∧ Frk E m V m.dropWait (V.withW v) w (w.setCell ⟨E.mb, 12, none⟩ v) := by
  have hbx := h.box
  have hmine : ∀ c, (V.withW v).mine E m.dropWait c → V.mine E m c := by
    intro c hc
    rcases hc with hc | hc | hc | ⟨r, hr', hc⟩ | ⟨k, hk, hc⟩
    · exact .inl hc
    · exact .inr (.inl hc)
    · have hc : v.ownBlock = some c := hc
      rw [hown] at hc
      exact .inr (.inr (.inl hc))
    · exact .inr (.inr (.inr (.inl ⟨r, by cases r <;> exact hr', hc⟩)))
    · exact .inr (.inr (.inr (.inr ⟨k, hk, hc⟩)))
  have hi : ∀ r, E.ints m.dropWait r = E.ints m r := fun r => by cases r <;> rfl
  have hl : ∀ r, m.dropWait.live r → m.live r := fun r hr => by cases r <;> exact hr
  refine ⟨⟨hbx.set 12 v, fun r hr' => ?_, fun k hk => ?_, ?_, ?_, fun r1 r2 h1 h2 => h.iinj r1 r2 (hl r1 h1) (hl r2 h2), h.einj, h.lo⟩, ⟨⟨rfl, rfl, rfl, by simp [World.setCell], fun k _ hn => put_heap (a := ⟨E.mb, 12, none⟩) (fun e => hn (.inl (by have e : E.mb = k := e; exact e.symm)))⟩, fun b hb => .inl (hmine b hb), fun _ _ => rfl⟩⟩
  · rw [hi]
    have h1 := h.ints r (hl r hr')
    exact loose_put h1 (own_box h1 hbx (by decide))
  · have h1 := h.edges k hk
    exact loose_put h1 (own_box h1 hbx (by decide))
  · exact loose_put h.states (own_box h.states hbx (by decide))
  · refine ⟨cs', loose_putT hr (own_boxT hr hbx (by decide)), hw.keep ?_⟩
    exact Below.setCell (Below.refl _ _) (p := ⟨E.mb, 12, none⟩) h.lo v
end Go.Proofs.YtiiffcmojkdlaaaGreatDoor

/- (atns.State).may: may a state of a net be? -/
namespace Go.Proofs.YtiiffcmojkdlaaaGreatDoor
open Go.RowKit

def okN (n : Nat) (i : Int) : Bool := decide (0 ≤ i) && decide (i < n)
def Net.mostOf (N : Net) (k : Int) : Int := if k = 2 then N.starts.length else if k = 3 then N.preds.length else 1
def Edg.mayB (N : Net) (e : Edg) : Bool := !(decide (3 < e.kind) || decide (e.what < 0) || (e.kind != 1 && decide (N.mostOf e.kind ≤ e.what)) || !okN N.states.length e.to)
def Sta.decides (s : Sta) : Bool := decide (s.ends.length = s.edges.length) && decide (2 ≤ s.ends.length) && !(s.edges.any fun e => !(e.kind == 0))
def Sta.mayB (N : Net) (s : Sta) : Bool := s.edges.all (Edg.mayB N) && (decide (s.ends.length = 0) || (s.decides && !(s.ends.any fun i => !okN N.states.length i)))

theorem enters21 : Enters 21 := fun _ _ => by kernel_rfl
theorem enters22 : Enters 22 := fun _ _ => by kernel_rfl
theorem enters25 : Enters 25 := fun _ _ => by kernel_rfl
theorem enters46 : Enters 46 := fun _ _ => by kernel_rfl
theorem enters47 : Enters 47 := fun _ _ => by kernel_rfl
theorem enters49 : Enters 49 := fun _ _ => by kernel_rfl
theorem enters50 : Enters 50 := fun _ _ => by kernel_rfl

theorem AMay1_ok (i : Int) (nb n cap : Nat) (a : Option Addr) (W : World) (hc : W.cell? ⟨nb, 0, none⟩ = some (.slice a n cap)) :
    Calls Tryz.prog 21 (#[.int .i64 i] ++ #[.pointer (some ⟨nb, 0, none⟩)]) W fun e W' => e = .returned (.bool (okN n i)) ∧ Grew W W' := by
  simp only [List.append_toArray, List.cons_append, List.nil_append]
  by_cases h0 : 0 ≤ i
  · have hd : decide (0 ≤ i) = true := decide_eq_true h0
    go_enter Tryz.func21, Tryz.ntmps21
    go_wp2_with fail
    go_ret
    exact ⟨ret_bool (by unfold okN; simp [h0]), Grew.refl W⟩
  · have hd : decide (0 ≤ i) = false := decide_eq_false h0
    go_enter Tryz.func21, Tryz.ntmps21
    go_wp2_with fail
    go_ret
    exact ⟨ret_bool (by unfold okN; simp; omega), Grew.refl W⟩
theorem smay1_ok (i : Int) (nb n cap : Nat) (a : Option Addr) (W : World) (hc : W.cell? ⟨nb, 0, none⟩ = some (.slice a n cap)) :
    Calls Tryz.prog 46 (#[.int .i64 i] ++ #[.pointer (some ⟨nb, 0, none⟩)]) W fun e W' => e = .returned (.bool (okN n i)) ∧ Grew W W' := by
  simp only [List.append_toArray, List.cons_append, List.nil_append]
  by_cases h0 : 0 ≤ i
  · have hd : decide (0 ≤ i) = true := decide_eq_true h0
    go_enter Tryz.func46, Tryz.ntmps46
    go_wp2_with fail
    go_ret
    exact ⟨ret_bool (by unfold okN; simp [h0]), Grew.refl W⟩
  · have hd : decide (0 ≤ i) = false := decide_eq_false h0
    go_enter Tryz.func46, Tryz.ntmps46
    go_wp2_with fail
    go_ret
    exact ⟨ret_bool (by unfold okN; simp; omega), Grew.refl W⟩
theorem AMay2_ok (i : Int) (fb nb n cap : Nat) (a : Option Addr) (W : World) (hc : W.cell? ⟨nb, 0, none⟩ = some (.slice a n cap)) (hf : W.cell? ⟨fb, 0, none⟩ = some (.func (.func 21) #[] #[.pointer (some ⟨nb, 0, none⟩)])) :
    Calls Tryz.prog 22 (#[.int .i64 i] ++ #[.pointer (some ⟨fb, 0, none⟩)]) W fun e W' => e = .returned (.bool (!okN n i)) ∧ Grew W W' := by
  simp only [List.append_toArray, List.cons_append, List.nil_append]
  have hS := Lib.hid (AMay1_ok i nb n cap a W hc)
  have hF := enters21
  unfold Enters at hF
  clear hc
  go_enter Tryz.func22, Tryz.ntmps22
  go_wp2_with (refine hS.out.mono ?_; rintro e w' ⟨rfl, hb⟩)
  go_ret
  exact ⟨rfl, hb⟩
theorem smay4_ok (i : Int) (fb nb n cap : Nat) (a : Option Addr) (W : World) (hc : W.cell? ⟨nb, 0, none⟩ = some (.slice a n cap)) (hf : W.cell? ⟨fb, 0, none⟩ = some (.func (.func 46) #[] #[.pointer (some ⟨nb, 0, none⟩)])) :
    Calls Tryz.prog 50 (#[.int .i64 i] ++ #[.pointer (some ⟨fb, 0, none⟩)]) W fun e W' => e = .returned (.bool (!okN n i)) ∧ Grew W W' := by
  simp only [List.append_toArray, List.cons_append, List.nil_append]
  have hS := Lib.hid (smay1_ok i nb n cap a W hc)
  have hF := enters46
  unfold Enters at hF
  clear hc
  go_enter Tryz.func50, Tryz.ntmps50
  go_wp2_with (refine hS.out.mono ?_; rintro e w' ⟨rfl, hb⟩)
  go_ret
  exact ⟨rfl, hb⟩
theorem AMay3_ok (i : Int) (nb n cap : Nat) (hn : n ≤ 1000000000) (a : Option Addr) (W : World) (hc : W.cell? ⟨nb, 0, none⟩ = some (.slice a n cap)) :
    Calls Tryz.prog 25 (#[.int .i64 i] ++ #[.pointer (some ⟨nb, 0, none⟩)]) W fun e W' => e = .returned (.bool (decide (i < 0) || decide ((n : Int) - 1 ≤ i))) ∧ Grew W W' := by
  simp only [List.append_toArray, List.cons_append, List.nil_append]
  have hw : IntKind.i64.wrap ((n : Int) - 1) = (n : Int) - 1 := by rw [IntKind.wrap_i64]; omega
  by_cases h0 : i < 0
  · have hd : decide (i < 0) = true := decide_eq_true h0
    go_enter Tryz.func25, Tryz.ntmps25
    go_wp2_with fail
    go_ret
    exact ⟨ret_bool (by simp [h0]), Grew.refl W⟩
  · have hd : decide (i < 0) = false := decide_eq_false h0
    go_enter Tryz.func25, Tryz.ntmps25
    go_wp2_with fail
    go_ret
    exact ⟨rfl, Grew.refl W⟩
theorem smay2_ok (e : Edg) (W : World) : Calls Tryz.prog 47 #[.agg #[.int .u8 e.kind, .int .i64 e.what, .int .i64 e.to]] W fun r W' => r = .returned (.bool (e.kind == 0)) ∧ Grew W W' := by
  go_enter Tryz.func47, Tryz.ntmps47
  go_wp2_with fail
  go_ret
  exact ⟨rfl, grew_alloc _ _⟩
theorem smay3_ok (e : Edg) (fb : Nat) (W : World) (hf : W.cell? ⟨fb, 0, none⟩ = some (.func (.func 47) #[] #[])) : Calls Tryz.prog 49 (#[.agg #[.int .u8 e.kind, .int .i64 e.what, .int .i64 e.to]] ++ #[.pointer (some ⟨fb, 0, none⟩)]) W fun r W' => r = .returned (.bool (!(e.kind == 0))) ∧ Grew W W' := by
  simp only [List.append_toArray, List.cons_append, List.nil_append]
  have hg := grew_alloc W (.cells #[.int .u8 e.kind, .int .i64 e.what, .int .i64 e.to] 44)
  have hS := Lib.hid (smay2_ok e (W.alloc (.cells #[.int .u8 e.kind, .int .i64 e.what, .int .i64 e.to] 44)))
  have hlt : fb < W.heap.size := by
    rcases Nat.lt_or_ge fb W.heap.size with h' | h'
    · exact h'
    · simp [World.cell?, Array.getElem?_eq_none h'] at hf
  have hF := enters47
  unfold Enters at hF
  have HG := Lib.hid hg
  clear hg
  go_enter Tryz.func49, Tryz.ntmps49
  go_wp2_with (refine hS.out.mono ?_; rintro e w' ⟨rfl, hb⟩)
  go_ret
  exact ⟨rfl, HG.out.trans hb⟩
end Go.Proofs.YtiiffcmojkdlaaaGreatDoor
