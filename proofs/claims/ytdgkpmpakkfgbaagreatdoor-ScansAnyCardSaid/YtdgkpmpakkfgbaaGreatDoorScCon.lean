/- strings.IndexRune and ContainsRune: a rune beyond ASCII in an ASCII string. -/
import Derived.Test.YtdgkpmpakkfgbaaGreatDoorScBox
import Derived.Test.YtdgkpmpakkfgbaaGreatDoorRu1
import Derived.Laws.Runes
import Derived.Laws.RangeAny
import Derived.BigQuiet
namespace Go.Proofs.YtdgkpmpakkfgbaaGreatDoor
open Go.RowKit

theorem follows : Tryz.prog.follows .mixedOrders = true := by kernel_rfl

theorem indexByte_asc : ∀ (l : List UInt8) (c : UInt8), (∀ b ∈ l, b.toNat < 128) → 128 ≤ c.toNat → Lib.indexByte l c = -1
  | [], _, _, _ => rfl
  | b :: l, c, h, hc => by
    have h1 : (b == c) = false := beq_eq_false_iff_ne.2 fun e => by
      have := h b (by simp)
      rw [e] at this
      omega
    rw [Lib.indexByte, h1, indexByte_asc l c (fun x hx => h x (by simp [hx])) hc]
    rfl

set_option maxHeartbeats 8000000 in
set_option maxRecDepth 20000 in
theorem indexRune_far (s : ByteArray) (r : Int) (W : World) (_hs : s.size ≤ 9) (ha : ∀ b ∈ s.data.toList, b.toNat < 128) (h128 : 128 ≤ r) (hv : Lib.validRune r = true) (hne : r ≠ 65533) :
    Calls Tryz.prog 68 #[.string s, .int .i32 r] W fun e W' => e = .returned (.int .i64 (-1)) ∧ Below W.heap.size W W' := by
  have hvv : (0 ≤ r ∧ r < 0xD800) ∨ (0xDFFF < r ∧ r ≤ 0x10FFFF) := of_decide_eq_true hv
  have hu : Utf8.valid r = true := by
    unfold Utf8.valid
    simp only [Bool.or_eq_true, Bool.and_eq_true, decide_eq_true_eq]
    omega
  have hE := encode_facts r hu h128
  have hV := fun w => Tryz.utf8_ValidRune r w
  rw [hv] at hV
  have HV := Lib.hid hV
  generalize hen : Utf8.encode r = en at *
  obtain ⟨e2, e4, e3⟩ := hE
  obtain ⟨z, hz⟩ : ∃ z, en.size - 1 = z := ⟨_, rfl⟩
  rw [hz] at e3
  have hzz : (en.size : Int) - 1 = z := by omega
  have hzl : z < en.size := by omega
  have e3' := e3 hzl
  have hI := indexByte_asc
  have a3 : ∀ h : z < s.size, (s[z]'h).toNat < 128 := fun h => ha _ (Array.getElem_mem_toList (xs := s.data) h)
  have HI : Hid (∀ k w, Calls Tryz.prog 26 #[.string (s.extract k s.size), .int .u8 ((en[z]'hzl).toNat : Int)] w fun e w' => e = .returned (.int .i64 (-1)) ∧ w' = w) := by
    intro k w
    have := Tryz.strings_IndexByte (s.extract k s.size) ((en[z]'hzl).toNat : Int) w
    rw [indexByte_asc _ _ (fun b hb => ha b (by rw [Lib.extract_data] at hb; exact List.mem_of_mem_drop (List.mem_of_mem_take hb))) (by simpa using e3')] at this
    exact this
  have hr2 : r ≤ 1114111 := by omega
  clear hV hv hu hvv
  go_enter Tryz.func68, Tryz.ntmps68
  go_wp2_with (go_at_call 73; refine (HV.out _).mono ?_; rintro e w2 ⟨rfl, rfl⟩)
  refine wp_scope_calm 1 (by kernel_rfl) ?_
  go_wp2_with fail
  go_loop [9] (fun v => v = .int .i64 (z : Int)) (fun _ => 0)
  case atStart => rfl
  case round =>
    subst hrel
    by_cases hlt : z < s.size
    · have a3' := a3 hlt
      go_wp2_with fail
      refine wp_scope_calm 0 (by kernel_rfl) ?_
      go_wp2_with fail
      go_quiet (fail)
      go_wp2_with fail
      have hb3 := grew_drewN w2 nq
      generalize w2.drewN nq = w3 at *
      go_quiet ((go_at_call 26; refine Calls.quiet_of_same (HI.out _ _)))
      go_wp2_with fail
      change bodyPost Tryz.prog Tryz.f68 (fun e W' => e = .returned (.int .i64 (-1)) ∧ Below w2.heap.size w2 W') Exit.ret _ _
      go_ret
      exact ⟨rfl, hb3.trans (grew_drewN _ _)⟩
    · go_wp2_with fail
      change bodyPost Tryz.prog Tryz.f68 (fun e W' => e = .returned (.int .i64 (-1)) ∧ Below w2.heap.size w2 W') Exit.ret _ _
      go_ret
      exact ⟨rfl, Below.refl _ _⟩

theorem decode_asc (s : ByteArray) (pos : Nat) (ha : ∀ b ∈ s.data.toList, b.toNat < 128) (hp : pos < s.size) : (Utf8.decode s pos).1 < 128 ∧ (Utf8.decode s pos).2 = 1 := by
  have hb : (s.get! pos).toNat < 128 := by
    rw [← Lib.getD_get!']
    have hl : pos < s.data.toList.length := by rw [← Lib.size_eq]; exact hp
    rw [List.getD_eq_getElem?_getD, List.getElem?_eq_getElem hl]
    exact ha _ (List.getElem_mem hl)
  rw [Lib.decode_at]
  unfold Lib.decodeN
  rw [if_pos hb]
  exact ⟨hb, rfl⟩

set_option maxHeartbeats 8000000 in
set_option maxRecDepth 20000 in
theorem indexRune_err (s : ByteArray) (W : World) (_hs : s.size ≤ 9) (ha : ∀ b ∈ s.data.toList, b.toNat < 128) :
    Calls Tryz.prog 68 #[.string s, .int .i32 65533] W fun e W' => e = .returned (.int .i64 (-1)) ∧ Below W.heap.size W W' := by
  have HA := Lib.hid ha
  clear ha
  go_enter Tryz.func68, Tryz.ntmps68
  go_wp2_with fail
  go_loopw [6] (fun _ wr => ∃ (pos : Nat), wr.heap[W.heap.size]? = some (.stringIter s pos) ∧ pos ≤ s.size ∧ Hid (Below W.heap.size W wr)) (fun _ wr => s.size + 4 - wr.iterPos W.heap.size)
  case atStart => exact ⟨0, World.iter_heap _ _ _, Nat.zero_le _, Below.alloc (Below.refl _ _) (Nat.le_refl _) _⟩
  case round =>
    obtain ⟨pos, hit, hpos, hbw⟩ := hrel
    by_cases hp : pos < s.size
    · have hnx : ∀ ty, (Instr.next (.pointer (some ⟨W.heap.size, 0, none⟩)) true ty).run Tryz.prog wr = _ := fun ty => Lib.run_next_any_at wr W.heap.size s pos ty hit hp
      obtain ⟨hd1, hd2⟩ := decode_asc s pos HA.out hp
      generalize Utf8.decode s pos = dd at *
      obtain ⟨r, z⟩ := dd
      simp only at hnx hd1 hd2
      subst hd2
      have hit1 := Lib.iterAt_heap wr _ s pos (pos + 1) hit
      have hb1 := Lib.hid (Lib.below_iterAt (k := W.heap.size) hbw.out (by omega) s (pos + 1))
      go_wp2_with fail
      refine ⟨⟨pos + 1, hit1, by omega, hb1.out⟩, ?_⟩
      unfold World.iterPos
      rw [hit1, hit]
      simp only
      omega
    · have hnx : ∀ ty, (Instr.next (.pointer (some ⟨W.heap.size, 0, none⟩)) true ty).run Tryz.prog wr = _ := fun ty => Lib.run_next_end_at wr W.heap.size s pos ty hit hp
      go_wp2_with fail
      go_ret
      exact ⟨rfl, hbw.out⟩

theorem indexRune_none (s : ByteArray) (r : Int) (W : World) (hs : s.size ≤ 9) (ha : ∀ b ∈ s.data.toList, b.toNat < 128) (h128 : 128 ≤ r) (hv : Lib.validRune r = true) :
    Calls Tryz.prog 68 #[.string s, .int .i32 r] W fun e W' => e = .returned (.int .i64 (-1)) ∧ Below W.heap.size W W' := by
  by_cases h : r = 65533
  · subst h
    exact indexRune_err s W hs ha
  · exact indexRune_far s r W hs ha h128 hv h

set_option maxHeartbeats 2000000 in
theorem containsRune_none (s : ByteArray) (r : Int) (W : World) (hs : s.size ≤ 9) (ha : ∀ b ∈ s.data.toList, b.toNat < 128) (h128 : 128 ≤ r) (hv : Lib.validRune r = true) :
    Calls Tryz.prog 60 #[.string s, .int .i32 r] W fun e W' => e = .returned (.bool false) ∧ Below W.heap.size W W' := by
  have HI := Lib.hid (indexRune_none s r W hs ha h128 hv)
  clear ha hv
  go_enter Tryz.func60, Tryz.ntmps60
  go_wp2_with (go_at_call 68; refine HI.out.mono ?_; rintro e w ⟨rfl, hb⟩)
  go_ret
  exact ⟨rfl, hb⟩
end Go.Proofs.YtdgkpmpakkfgbaaGreatDoor
