/- An append in a region that draws its order: whenever it comes, its row's block is written once, or a new one is made. -/
import Derived.Test.YtiiffcmojkdlaaaGreatDoorQ26
import Derived.Test.YtiiffcmojkdlaaaGreatDoorQ19
import Derived.Test.YtiiffcmojkdlaaaGreatDoorQ20
import Derived.Test.YtiiffcmojkdlaaaGreatDoorQ25
import Derived.Test.YtiiffcmojkdlaaaGreatDoorQ23
namespace Go.Proofs.YtiiffcmojkdlaaaGreatDoor
open Go.RowKit

/-- all stays, but for one block, that may come to hold N -/
structure Once (F : Option Nat) (N : Obj) (w w' : World) : Prop where
  but : But (fun b => F = some b) w w'
  row : ∀ b, F = some b → w'.heap[b]? = w.heap[b]? ∨ w'.heap[b]? = some N
theorem Once.rel (F : Option Nat) (N : Obj) : Rel (Once F N) where
  refl w := ⟨But.refl _ w, fun _ _ => .inl rfl⟩
  trans h k := ⟨h.but.trans k.but fun _ _ h => h, fun b hb => by
    rcases k.row b hb with h1 | h1
    · rw [h1]; exact h.row b hb
    · exact .inr h1⟩
  drew w := ⟨⟨rfl, rfl, rfl, Nat.le_refl _, fun _ _ _ => rfl⟩, fun _ _ => .inl rfl⟩
section
variable {F : Option Nat} {N : Obj} {w w' : World}
theorem Once.grew (h : Grew w w') (hF : ∀ b, F = some b → b < w.heap.size) : Once F N w w' := ⟨But.of_grew h, fun b hb => .inl (h.block b (hF b hb))⟩
theorem Once.cell (h : Once F N w w') {a : Addr} {v : Value} (hc : w.cell? a = some v) (hn : F ≠ some a.block) : w'.cell? a = some v := by
  have hlt : a.block < w.heap.size := by
    rcases Nat.lt_or_ge a.block w.heap.size with hl | hl
    · exact hl
    · simp [World.cell?, Array.getElem?_eq_none hl] at hc
  rw [World.cell?_of_block (h.but.block _ hlt hn)]
  exact hc
theorem Once.owns (h : Once F N w w') {b T : Nat} {cs : List Value} (hc : Owns w b cs T) (hn : F ≠ some b) : Owns w' b cs T := h.but.owns hc hn
theorem Once.size (h : Once F N w w') : w.heap.size ≤ w'.heap.size := h.but.size
theorem loose_same {base e size n g n' cap : Nat} {xs : List Value} (h : looseRow w base e size (.slice (some ⟨g, 0, none⟩) n cap) n' xs) (hh : w'.heap[g]? = w.heap[g]?) : looseRow w' base e size (.slice (some ⟨g, 0, none⟩) n cap) n' xs := by
  refine ⟨h.1, h.2.imp id ?_⟩
  rintro ⟨b, cap', cur, h1, h2, h3, h4⟩
  have hb : b = g := by cases h1; rfl
  subst hb
  exact ⟨b, cap', cur, h1, h2, hh.trans h3, h4⟩

/-- what the append gives -/
def AppR (F : Option Nat) (N : Obj) (S base e size n : Nat) (xs : List Value) (v : Value) (w : World) : Prop :=
  ∃ g cap, v = .slice (some ⟨g, 0, none⟩) n cap ∧ looseRow w base e size v n xs ∧ g < w.heap.size ∧ ((F = some g ∧ w.heap[g]? = some N) ∨ (F = none ∧ S ≤ g))
theorem AppR.keep {S base e size n : Nat} {xs : List Value} {v : Value} (h : Once F N w w') (hr : AppR F N S base e size n xs v w) : AppR F N S base e size n xs v w' := by
  obtain ⟨g, cap, rfl, h1, h2, h3⟩ := hr
  rcases h3 with ⟨hF, h4⟩ | ⟨hF, h4⟩
  · have hh : w'.heap[g]? = some N := by
      rcases h.row g hF with h5 | h5
      · rw [h5]; exact h4
      · exact h5
    exact ⟨g, cap, rfl, loose_same h1 (hh.trans h4.symm), Nat.lt_of_lt_of_le h2 h.size, .inl ⟨hF, hh⟩⟩
  · exact ⟨g, cap, rfl, loose_same h1 (h.but.block g h2 (by rw [hF]; simp)), Nat.lt_of_lt_of_le h2 h.size, .inr ⟨hF, h4⟩⟩
end

theorem put_again0 (A news D : List Value) : (A ++ news ++ D).take A.length ++ news ++ (A ++ news ++ D).drop (A.length + news.length) = A ++ news ++ D := by
  rw [show A.length + news.length = (A ++ news).length by simp, List.drop_left, List.append_assoc A news D, List.take_left, List.append_assoc]
theorem put_again (cur : List Value) (news : List Value) (k : Nat) (hk : k + news.length ≤ cur.length) :
    (cur.take k ++ news ++ cur.drop (k + news.length)).take k ++ news ++ (cur.take k ++ news ++ cur.drop (k + news.length)).drop (k + news.length) = cur.take k ++ news ++ cur.drop (k + news.length) := by
  have h1 : (cur.take k).length = k := by rw [List.length_take]; omega
  have := put_again0 (cur.take k) news (cur.drop (k + news.length))
  rw [h1] at this
  exact this

theorem append_once {P : Program} (w0 : World) (t ty : TypeId) (base : Nat) (e : TypeId) (i : TypeInfo) (z : Value) (size bytes : Nat) (ht : P.underlying t = some (.slice e)) (hi : P.info? e = some i) (hz : i.zero = some z)
    (hsize : i.size = size) (hby : i.bytes = bytes) (hzs : z.cells.size = size)
    (v : Value) (n : Nat) (xs : List Value) (hown : looseRow w0 base e size v n xs)
    (m : Nat) (news : List Value) (hl : news.length = m * size) (h1 : ∀ u ∈ news, u.oneCell' = true)
    (hm : 0 < m) (h63 : n + m ≤ maxLen) (hbytes : (n + m) * bytes ≤ 140737488355328) (hbase : base ≤ w0.heap.size) :
    ∃ F N, (∀ b, F = some b → v.ownBlock = some b ∧ b < w0.heap.size) ∧ ∀ w ad c, Once F N w0 w → (∀ j u, news[j]? = some u → w.cell? (ad.add j) = some u) →
      ∃ r w', (Builtin.append_ #[t, t] ty #[v, .slice (some ad) m c]).run P w = .ok r w' ∧ Once F N w w' ∧ AppR F N w0.heap.size base e size (n + m) (xs ++ news) r w' := by
  subst hsize
  subst hby
  have hsmall : n + m ≤ 9223372036854775807 := by simp only [maxLen] at h63; omega
  have hlen : (xs ++ news).length = (n + m) * i.size := by rw [List.length_append, hown.1, hl, Nat.add_mul]
  have grown : ∀ (w : World), base ≤ w.heap.size → w0.heap.size ≤ w.heap.size → ∀ (old : Nat), old < n + m → ∀ N,
      Once none N w (w.drew.alloc (.cells (xs.toArray ++ news.toArray ++ Builtin.zeroCells z.cells (grownCap w (n + m) old e - (n + m))) e)) ∧
      AppR none N w0.heap.size base e i.size (n + m) (xs ++ news) (.slice (some ⟨w.heap.size, 0, none⟩) (n + m) (grownCap w (n + m) old e)) (w.drew.alloc (.cells (xs.toArray ++ news.toArray ++ Builtin.zeroCells z.cells (grownCap w (n + m) old e - (n + m))) e)) := by
    intro w hbw hw0 old ho N
    have hge := grownCap_ge w (n + m) old e
    have hcm : grownCap w (n + m) old e ≤ maxLen := grownCap_le_maxLen w (n + m) old e h63
    refine ⟨⟨⟨rfl, rfl, rfl, by simp, fun k hk _ => (Below.refl _ w.drew).alloc (Nat.le_refl _) _ |>.block k hk⟩, fun b hb => by cases hb⟩, w.heap.size, _, rfl, ⟨hlen, .inr ⟨w.heap.size, _, _, rfl, hbw, heap_alloc_new w.drew _, hge, hcm, ?_, ?_⟩⟩, by simp, .inr ⟨rfl, hw0⟩⟩
    · apply Nat.le_of_eq
      simp only [Array.size_append, List.size_toArray, size_zeroCells, hzs, hown.1, hl, ← Nat.add_mul]
      congr 1
      omega
    · simp only [Array.toList_append, List.append_assoc]
      rw [← List.append_assoc, ← hlen]
      exact List.take_left
  rcases hown.2 with ⟨rfl, rfl⟩ | ⟨g, cap, cur, rfl, hbg, hg, hnc, hcm, hcs, htake⟩
  · have hx : xs = [] := List.eq_nil_of_length_eq_zero (by simpa using hown.1)
    subst hx
    refine ⟨none, .cells #[] 0 (0, 0), fun b hb => (by cases hb), fun w ad c hw hnews => ?_⟩
    have hr := run_append_nil (P := P) w t ty e i z ht hi hz ad m c news hl hnews (by omega) (by omega) (by have hb := hbytes; simp only [Nat.zero_add] at hb; omega)
    have hgr := grown w (Nat.le_trans hbase hw.size) hw.size 0 (by omega) (.cells #[] 0 (0, 0))
    simp only [Nat.zero_add, List.nil_append, Array.empty_append] at hgr ⊢
    exact ⟨_, _, hr, hgr⟩
  · have hlt := (Array.getElem?_eq_some_iff.1 hg).1
    by_cases hroom : n + m ≤ cap
    · have hfit : n * i.size + news.length ≤ cur.size := by
        rw [hl, ← Nat.add_mul]
        exact Nat.le_trans (Nat.mul_le_mul_right _ hroom) hcs
      obtain ⟨nc, hnc9⟩ : ∃ nc, cur.toList.take (n * i.size) ++ news ++ cur.toList.drop (n * i.size + news.length) = nc := ⟨_, rfl⟩
      have hagain := put_again cur.toList news (n * i.size) (by simpa using hfit)
      have hncl : nc.length = cur.size := by
        rw [← hnc9]
        simp only [List.length_append, List.length_take, List.length_drop, Array.length_toList]
        omega
      have hnct : nc.take ((n + m) * i.size) = xs ++ news := by
        rw [← hnc9, htake, ← hlen]
        exact List.take_left
      rw [hnc9] at hagain
      refine ⟨some g, .cells nc.toArray e (0, 0), fun b hb => (by cases hb; exact ⟨rfl, hlt⟩), fun w ad c hw hnews => ?_⟩
      have fin : ∀ c9 : Array Value, w.heap[g]? = some (.cells c9 e (0, 0)) → c9.toList.take (n * i.size) ++ news ++ c9.toList.drop (n * i.size + news.length) = nc → n * i.size + news.length ≤ c9.size →
          ∃ r w', (Builtin.append_ #[t, t] ty #[.slice (some ⟨g, 0, none⟩) n cap, .slice (some ad) m c]).run P w = .ok r w' ∧ Once (some g) (.cells nc.toArray e (0, 0)) w w' ∧ AppR (some g) (.cells nc.toArray e (0, 0)) w0.heap.size base e i.size (n + m) (xs ++ news) r w' := by
        intro c9 hg9 he9 hf9
        have hr := run_append_room (P := P) w t ty e i ht hi g n cap c9 hg9 ad m c news hl hnews h1 hroom hf9
        rw [he9] at hr
        have hh := setRow_heap w g c9 nc.toArray e _ hg9
        refine ⟨_, _, hr, ⟨⟨rfl, rfl, rfl, by simp, fun k _ hk => setRow_other w g k _ (fun e => hk (by rw [e]))⟩, fun b hb => by cases hb; exact .inr hh⟩, g, cap, rfl, ⟨hlen, .inr ⟨g, cap, _, rfl, hbg, hh, hroom, hcm, ?_, ?_⟩⟩, ?_, .inl ⟨rfl, hh⟩⟩
        · simp only [List.size_toArray, hncl]; exact hcs
        · exact hnct
        · have := hw.size; simp; omega
      rcases hw.row g rfl with h9 | h9
      · exact fin cur (h9.trans hg) hnc9 hfit
      · exact fin nc.toArray h9 hagain (by simp only [List.size_toArray, hncl]; exact hfit)
    · refine ⟨none, .cells #[] 0 (0, 0), fun b hb => (by cases hb), fun w ad c hw hnews => ?_⟩
      have hgw : w.heap[g]? = some (.cells cur e (0, 0)) := (hw.but.block g hlt (by simp)).trans hg
      have hownw : looseRow w base e i.size (.slice (some ⟨g, 0, none⟩) n cap) n xs := loose_same hown (hgw.trans hg.symm)
      have holds : ∀ j u, xs[j]? = some u → w.cell? ((⟨g, 0, none⟩ : Addr).add j) = some u := fun j u hj => by
        have := looseRow_cells hownw (g := g) rfl j u hj
        rw [show (⟨g, 0, none⟩ : Addr).add j = ⟨g, j, none⟩ by unfold Addr.add; split <;> simp_all]
        exact this
      have hr := run_append_grow (P := P) w t ty e i z ht hi hz ⟨g, 0, none⟩ n cap xs hown.1 holds ad m c news hl hnews (by omega) (by omega) (growslice_fits (by omega) hbytes)
      exact ⟨_, _, hr, grown w (Nat.le_trans hbase hw.size) hw.size cap (by omega) _⟩
end Go.Proofs.YtiiffcmojkdlaaaGreatDoor

/- An alternative more of a decision. -/
namespace Go.Proofs.YtiiffcmojkdlaaaGreatDoor
open Go.RowKit

/-- the slice of an end -/
def NewI (F : Option Nat) (x : Int) (v : Value) (w : World) : Prop := ∃ b, v = .slice (some ⟨b, 0, none⟩) 1 1 ∧ Owns w b [.int .i64 x] 3 ∧ F ≠ some b
theorem NewI.keep {F : Option Nat} {N : Obj} {x : Int} {v : Value} {w w' : World} (hg : Once F N w w') (h : NewI F x v w) : NewI F x v w' := by
  obtain ⟨b, h1, h2, h3⟩ := h
  exact ⟨b, h1, hg.owns h2 h3, h3⟩

theorem upon_app {P : Program} {o : Oper} {a : Act} {w w' : World} {G : Value → World → Prop} {v vs vx : Value} (s x : Operand) (t : TypeId) (ho : o.op = .call { callee := .builtin .append, args := #[s, x], argTypes := #[t, t] }) (hs : a.eval s = vs) (hx : a.eval x = vx)
    (hr : (Builtin.append_ #[t, t] o.type #[vs, vx]).run P w = .ok v w') (hG : G v w') : uponV P G ((execOp a.eval o).run P w) := by
  unfold execOp
  simp only [ho, resolve, invoke, builtin, Sem.run_bind, Sem.run_pure, Result.andThen_ok, List.map_toArray, List.map_cons, List.map_nil, hs, hx, hr]
  exact hG

set_option maxHeartbeats 2000000 in
set_option maxRecDepth 20000 in
theorem malt_ok (E : MkE) (m : Mk) (V : MkV) (W : World) (h : MkAt E W m V) (d tt over : Nat) (ha : m.full = true ∨ d < m.N.states.length) (hln : (m.N.edges d).length ≤ 1000000000) (hle : (m.N.ends d).length ≤ 1000000000) :
    Calls Tryz.prog 42 #[.pointer (some ⟨E.mb, 0, none⟩), .int .i64 d, .int .i64 tt, .int .i64 over] W fun e W' => (∃ v, e = .returned v) ∧ Made E m V (m.alt d tt over) W W' := by
  have HC := Lib.hid (mempty_ok E m V W h d tt ha hln)
  have HLE := Lib.hid hle
  have HA := Lib.hid ha
  clear h ha hln hle
  cases hf : (m.empty d tt).full
  · have hmf : m.full = false := by rw [← empty_full m d tt]; exact hf
    have ha' : d < (m.empty d tt).N.states.length := by rw [empty_states]; exact HA.out.resolve_left (by rw [hmf]; simp)
    have hend : ((m.empty d tt).N.ends d).length ≤ 1000000000 := by rw [empty_ends]; exact HLE.out
    have hres : m.alt d tt over = (m.empty d tt).addEnd d over := by unfold Mk.alt; rw [hf]; rfl
    rw [hres]
    generalize m.empty d tt = m1 at *
    have HFU := Lib.hid hf
    have HA2 := Lib.hid ha'
    have HEND := Lib.hid hend
    clear hf hmf hres HA HLE ha' hend
    go_enter Tryz.func42, Tryz.ntmps42
    go_wp2_with fail
    refine HC.out.mono ?_
    rintro e w1 ⟨⟨v, rfl⟩, V1, hM1, hF1⟩
    have c14 := hM1.box.cell_at (i := 14) rfl
    have bl := hM1.box.lt
    have HF1 := Lib.hid hF1
    clear hF1 HC
    rw [HFU.out] at c14
    have ha' := HA2.out
    have hend := HEND.out
    obtain ⟨sb, sc, hsv, hsl, hsb, -, s2, -, g2⟩ := hM1.sblock ha'
    have c7 := hM1.box.cell_at (i := 7) rfl
    rw [hsv] at c7
    obtain ⟨ea, ec, hev⟩ := loose_form (hM1.ints (.ends d) ha')
    rw [hev] at s2
    have hlen0 : E.ints m1 (.ends d) = m1.N.ends d := rfl
    rw [hlen0] at s2 hev
    obtain ⟨n, hn⟩ : ∃ n, m1.N.states.length = n := ⟨_, rfl⟩
    obtain ⟨k, hk⟩ : ∃ k, (m1.N.ends d).length = k := ⟨_, rfl⟩
    rw [hn] at c7 hsv
    rw [hk] at s2 hev hend
    have han : d < n := by omega
    have HAA := Lib.hid ha'
    have HM1 := Lib.hid hM1
    have HN := Lib.hid hn
    have HK := Lib.hid hk
    have HSB := Lib.hid hsb
    have HEV := Lib.hid hev
    obtain ⟨i0, hi, hz0, hz1, hz2⟩ := info_parts info_int
    have hrow : looseRow w1 E.base 3 1 (.slice ea k ec) k (intVs (m1.N.ends d)) := by have := hM1.ints (.ends d) ha'; rw [hev, hlen0, hk] at this; exact this
    obtain ⟨F, N, hFo, happ⟩ := append_once (P := Tryz.prog) w1 30 30 E.base 3 i0 _ 1 8 rfl hi hz0 hz1 hz2 rfl (.slice ea k ec) k (intVs (m1.N.ends d)) hrow 1 [.int .i64 over] rfl (by intro u hu; simp only [List.mem_singleton] at hu; subst hu; rfl) (by decide) (by unfold maxLen; omega) (by omega) hM1.lim
    have hFm : F ≠ some E.mb := fun e => own_box (hM1.ints (.ends d) ha') hM1.box (by decide) (by rw [hev]; exact (hFo _ e).1)
    have hFs : F ≠ some sb := fun e => own_ne (hM1.ints (.ends d) ha') hM1.states (by decide) _ (by rw [hev]; exact (hFo _ e).1) hsb
    have HFO := Lib.hid hFo
    have HAPP := Lib.hid happ
    have HFM := Lib.hid hFm
    have HFS := Lib.hid hFs
    have HC7 := Lib.hid c7
    have HS2 := Lib.hid s2
    clear hi hz0 hz1 hz2 hM1 ha' hsv hsb hev hn hk hlen0 hrow hFo happ hFm hFs
    go_wp2_with fail
    refine wp_region_hav_litB (Once.rel F N) follows (by kernel_rfl) ?_
    repeat (first
      | (refine HavB.skip (fun _ => rfl) ?_; simp only [Act.put, List.setIfInBounds_toArray, List.set_cons_zero, List.set_cons_succ])
      | (refine HavB.val (Once.rel F N) (fun _ => rfl) ?_ (fun x w hw _ => ?_) ?_; rotate_left; (focus (have q7 := hw.cell HC7.out HFM.out; have q2 := hw.cell HS2.out HFS.out; clear hw; go_simp; first | done | rfl)); simp only [Act.put, List.setIfInBounds_toArray, List.set_cons_zero, List.set_cons_succ]))
    refine HavB.any (fun _ => rfl) (NewI F over) (fun _ _ _ hg h => NewI.keep hg h) (fun x w hw _ => ?_) ?_
    · have hfl : ∀ b, F = some b → b < w.heap.size := fun b hb => Nat.lt_of_lt_of_le (HFO.out b hb).2 hw.size
      have HFL := Lib.hid hfl
      clear hw hfl
      go_simp
      exact ⟨Once.grew (grew_alloc _ _) HFL.out, _, rfl, Owns.alloc _ _ _, fun e => absurd (HFL.out _ e) (Nat.lt_irrefl _)⟩
    simp only [Act.put, List.setIfInBounds_toArray, List.set_cons_zero, List.set_cons_succ]
    refine HavB.any (fun _ => rfl) (AppR F N w1.heap.size E.base 3 1 (k + 1) (intVs (m1.N.ends d) ++ [.int .i64 over])) (fun _ _ _ hg h => AppR.keep hg h) (fun x w hw hd => ?_) ?_
    · have hd16 := hd _ (List.mem_append_right _ (List.mem_singleton.2 rfl)) (by kernel_rfl)
      clear hd
      dsimp only at hd16
      generalize x (0 + 1 + 1 + 1 + 1 + 1 + 1 + 1 + 1 + 1 + 1 + 1 + 1 + 1 + 1 + 1 + 1) = y16 at *
      obtain ⟨nb, rfl, hnb, -⟩ := hd16
      obtain ⟨r, w', hr, ho, hR⟩ := HAPP.out w ⟨nb, 0, none⟩ 1 hw (owns_newsO hnb)
      exact upon_app _ _ 30 rfl rfl rfl hr ⟨ho, hR⟩
    simp only [Act.put, List.setIfInBounds_toArray, List.set_cons_zero, List.set_cons_succ]
    refine HavB.tail (by kernel_rfl) (by kernel_rfl) (fun x w2 hw hx => ?_)
    have hx17 := hx _ (List.mem_append_right _ (List.mem_singleton.2 rfl))
    clear hx
    dsimp only at hx17
    generalize x (0 + 1 + 1 + 1 + 1 + 1 + 1 + 1 + 1 + 1 + 1 + 1 + 1 + 1 + 1 + 1 + 1 + 1) = y17 at *
    obtain ⟨gb, cap, rfl, hrow, hgl, hcase⟩ := hx17
    have hgrow : w1.grownBy w2 (V1.iv (.ends d)).ownBlock := ⟨hw.but.os, hw.but.tape, hw.but.output, hw.size, fun q hq hn => hw.but.block q hq fun e => hn (by rw [HEV.out]; exact (HFO.out q e).1.symm)⟩
    have hat : (V1.iv (.ends d)).ownBlock = some gb ∨ w1.heap.size ≤ gb := by
      rcases hcase with ⟨h1, -⟩ | ⟨-, h1⟩
      · exact .inl (by rw [HEV.out]; exact (HFO.out gb h1).1)
      · exact .inr h1
    have hpush := HM1.out.pushEnd (w1 := w2) HAA.out (x := over) (sb := sb) (g := gb) (v := .slice (some ⟨gb, 0, none⟩) (k + 1) cap) HSB.out hgrow (by rw [HK.out]; exact hrow) rfl hat
    have HPU := Lib.hid hpush
    have r18 : w2.cell? ⟨sb, d * 3 + 2, none⟩ = some (.slice ea k ec) := hw.cell HS2.out HFS.out
    have hs3 := loose_far HM1.out.states hgrow (fun c hc hc2 => own_ne HM1.out.states (HM1.out.ints (.ends d) HAA.out) (by decide) c hc hc2)
    have f18 := (loose_free hs3 HSB.out).1 (d * 3 + 2)
    have l18 := (loose_free hs3 HSB.out).2
    clear hrow hgl hcase hgrow hat hpush hw c7 s2 g2 c14 hs3
    go_wp2_with fail
    go_end0
    exact ⟨⟨_, rfl⟩, _, HPU.out.1, HF1.out.trans HPU.out.2⟩
  · have hres : m.alt d tt over = m.empty d tt := by unfold Mk.alt; rw [hf]; rfl
    rw [hres]
    generalize m.empty d tt = m1 at *
    have HFU := Lib.hid hf
    clear hf hres HA HLE
    go_enter Tryz.func42, Tryz.ntmps42
    go_wp2_with fail
    refine HC.out.mono ?_
    rintro e w1 ⟨⟨v, rfl⟩, V1, hM1, hF1⟩
    have c14 := hM1.box.cell_at (i := 14) rfl
    have bl := hM1.box.lt
    have HF1 := Lib.hid hF1
    clear hF1 HC
    rw [HFU.out] at c14
    have HM1 := Lib.hid hM1
    clear hM1
    go_wp2_with fail
    go_end0
    exact ⟨⟨_, rfl⟩, V1, HM1.out, HF1.out⟩
end Go.Proofs.YtiiffcmojkdlaaaGreatDoor

/- A loop's way out. -/
namespace Go.Proofs.YtiiffcmojkdlaaaGreatDoor
open Go.RowKit

theorem Made.of {E : MkE} {m m' : Mk} {V : MkV} {w w' : World} {V' : MkV} (h : MkAt E w' m' V') (hf : Frk E m V m' V' w w') : Made E m V m' w w' := ⟨V', h, hf⟩

set_option maxHeartbeats 2000000 in
set_option maxRecDepth 20000 in
theorem mleaving_ok (E : MkE) (m0 : Mk) (V0 : MkV) (w0 : World) (h : MkAt E w0 m0 V0) (d e b : Nat) (hd : m0.has d) (he : m0.has e) (hs : m0.Slim 3) :
    Calls Tryz.prog 43 #[.pointer (some ⟨E.mb, 0, none⟩), .int .i64 d, .int .i64 e, .int .i64 b] w0 fun e' W' => (∃ v, e' = .returned v) ∧ Made E m0 V0 (m0.leaving d e b) w0 W' := by
  have HM0 := Lib.hid h
  have HF0 := Lib.hid (Frk.refl E m0 V0 w0)
  have HL0 := Lib.hid (Mk.Le.refl m0)
  have HS := Lib.hid hs
  have HX_d := Lib.hid hd
  have HX_e := Lib.hid he
  clear h hs hd he
  go_enter Tryz.func43, Tryz.ntmps43
  have HC := Lib.hid (mstate_ok E m0 V0 w0 HM0.out ((HS.out.mono (show 0 + 0 ≤ 3 by omega)).next HL0.out).cap)
  go_wp2_with fail
  refine HC.out.mono ?_
  clear HC
  rintro e9 w1 ⟨rfl, V1, hM, hF⟩
  obtain ⟨m1, hm⟩ : ∃ m9, m9 = m0.state.2 := ⟨_, rfl⟩
  rw [← hm] at hM hF
  have hle : Mk.Le 0 m0 m1 := hm ▸ m0.state_le
  obtain ⟨y, hx⟩ : ∃ x9, x9 = m0.state.1 := ⟨_, rfl⟩
  rw [← hx]
  have HX_y : Hid (m1.has y) := Lib.hid (by rw [hm, hx]; exact m0.state_has)
  have HEX_y := Lib.hid hx
  clear hx
  have HX_d := Lib.hid (HX_d.out.next hle)
  have HX_e := Lib.hid (HX_e.out.next hle)
  have HL1 : Hid (Mk.Le 0 m0 m1) := Lib.hid ((HL0.out.trans hle).mono (by omega))
  have HM1 := Lib.hid hM
  have HF1 := Lib.hid (HF0.out.trans hF)
  have HEM1 := Lib.hid hm
  clear hM hF hm hle HM0 HF0 HL0
  have HC := Lib.hid (malt_ok E m1 V1 w1 HM1.out d y e HX_d.out (by have := ((HS.out.mono (show 0 + 1 ≤ 3 by omega)).next HL1.out).edges d; omega) (by have := ((HS.out.mono (show 0 + 1 ≤ 3 by omega)).next HL1.out).ends d; omega))
  go_wp2_with fail
  refine HC.out.mono ?_
  clear HC
  rintro e9 w2 ⟨⟨v, rfl⟩, V2, hM, hF⟩
  obtain ⟨m2, hm⟩ : ∃ m9, m9 = m1.alt d y e := ⟨_, rfl⟩
  rw [← hm] at hM hF
  have hle : Mk.Le 1 m1 m2 := hm ▸ m1.alt_le d y e
  have HX_d := Lib.hid (HX_d.out.next hle)
  have HX_e := Lib.hid (HX_e.out.next hle)
  have HX_y := Lib.hid (HX_y.out.next hle)
  have HL2 : Hid (Mk.Le 1 m0 m2) := Lib.hid ((HL1.out.trans hle).mono (by omega))
  have HM2 := Lib.hid hM
  have HF2 := Lib.hid (HF1.out.trans hF)
  have HEM2 := Lib.hid hm
  clear hM hF hm hle HM1 HF1 HL1
  have HC := Lib.hid (mempty_ok E m2 V2 w2 HM2.out y e HX_y.out (by have := ((HS.out.mono (show 1 + 1 ≤ 3 by omega)).next HL2.out).edges y; omega))
  go_wp2_with fail
  refine HC.out.mono ?_
  clear HC
  rintro e9 w3 ⟨⟨v, rfl⟩, V3, hM, hF⟩
  obtain ⟨m3, hm⟩ : ∃ m9, m9 = m2.empty y e := ⟨_, rfl⟩
  rw [← hm] at hM hF
  have hle : Mk.Le 1 m2 m3 := hm ▸ m2.empty_le y e
  have HX_d := Lib.hid (HX_d.out.next hle)
  have HX_e := Lib.hid (HX_e.out.next hle)
  have HX_y := Lib.hid (HX_y.out.next hle)
  have HL3 : Hid (Mk.Le (1 + 1) m0 m3) := Lib.hid ((HL2.out.trans hle).mono (by omega))
  have HM3 := Lib.hid hM
  have HF3 := Lib.hid (HF2.out.trans hF)
  have HEM3 := Lib.hid hm
  clear hM hF hm hle HM2 HF2 HL2
  have HC := Lib.hid (mempty_ok E m3 V3 w3 HM3.out e b HX_e.out (by have := ((HS.out.mono (show (1 + 1) + 1 ≤ 3 by omega)).next HL3.out).edges e; omega))
  go_wp2_with fail
  refine HC.out.mono ?_
  clear HC
  rintro e9 w4 ⟨⟨v, rfl⟩, V4, hM, hF⟩
  obtain ⟨m4, hm⟩ : ∃ m9, m9 = m3.empty e b := ⟨_, rfl⟩
  rw [← hm] at hM hF
  have hle : Mk.Le 1 m3 m4 := hm ▸ m3.empty_le e b
  have HX_d := Lib.hid (HX_d.out.next hle)
  have HX_e := Lib.hid (HX_e.out.next hle)
  have HX_y := Lib.hid (HX_y.out.next hle)
  have HL4 : Hid (Mk.Le ((1 + 1) + 1) m0 m4) := Lib.hid ((HL3.out.trans hle).mono (by omega))
  have HM4 := Lib.hid hM
  have HF4 := Lib.hid (HF3.out.trans hF)
  have HEM4 := Lib.hid hm
  clear hM hF hm hle HM3 HF3 HL3
  go_wp2_with fail
  go_end0
  have hres : m0.leaving d e b = m4 := by
    unfold Mk.leaving
    rw [HEM4.out, HEM3.out, HEM2.out, HEM1.out, HEX_y.out]
  rw [hres]
  exact ⟨⟨_, rfl⟩, _, HM4.out, HF4.out⟩
end Go.Proofs.YtiiffcmojkdlaaaGreatDoor
