/- follows: none, named. -/
import Derived.Test.YtldoinfbimelpaaQ8
import Derived.Test.YtldoinfbimelpaaQ9
namespace Go.Proofs.Ytldoinfbimelpaa
open Go.RowKit

theorem make_fset (n : Nat) (hn : n ≤ 1000) (u : World) : (Instr.makeSlice 60 (.int .i64 (n : Int)) (.int .i64 (n : Int))).run Try.prog u =
    .ok (.slice (some ⟨u.heap.size, 0, none⟩) n n) (u.alloc (.cells (List.replicate n (.bool false)).toArray 4)) := by
  obtain ⟨i0, hi, hz0, hz1, hz2⟩ := info_parts info_bool
  have h := run_make (P := Try.prog) u 60 4 i0 (.bool false) Try.underlying60 hi hz0 .i64 .i64 (n : Int) (n : Int) (by omega) (Int.le_refl _) (by rw [hz2]; omega) (by omega)
  rw [Int.toNat_natCast, hz1, Nat.mul_one] at h
  rw [h, ← made_bools]
  rfl
/-- a row of one's own comes back -/
def NewRowIs (n : Nat) (l : List Bool) (w : World) (v : Value) (w' : World) : Prop := ∃ b, v = .slice (some ⟨b, 0, none⟩) n n ∧ Owns w' b (fbs l) 4 ∧ w.heap.size ≤ b ∧ Grew w w'

set_option maxHeartbeats 1000000 in
set_option maxRecDepth 20000 in
theorem fnone_ok (w : World) (V : FV) (S : FS) (hw : S.Wf) (h : SetsAt w V S) : Calls Try.prog 31 #[.pointer (some ⟨V.sb, 0, none⟩)] w fun e w' => ∃ v, e = .returned v ∧ NewRowIs S.n S.none w v w' := by
  have HS := Lib.hid h
  have HW := Lib.hid hw
  have hlen := hw.len
  have b2 := h.box.cell_at (i := 2) rfl
  have bl := h.box.lt
  clear h hw
  obtain ⟨L, hL⟩ : ∃ L, S.rules.length = L := ⟨_, rfl⟩
  rw [hL] at b2 hlen
  have HL := Lib.hid hL
  clear hL
  go_enter Try.func31, Try.ntmps31
  go_wp2_with fail
  go_loopw [10] (fun c wr => ∃ (j : Nat), c = .int .i64 j ∧ j ≤ L ∧ wr = w ∧ Hid (∀ i, i < j → S.at i = none)) (fun c _ => L - (intOf c).toNat)
  case atStart => exact ⟨0, rfl, by omega, rfl, fun i hi => by omega⟩
  case round =>
    obtain ⟨j, rfl, hj, rfl, hno⟩ := hrel
    by_cases hlt : j < L
    · have r0 := HS.out.row.cell_at (V.ptrs_at S (by rw [HL.out]; exact hlt))
      have rl := HS.out.row.lt
      unfold FV.ptr at r0
      cases hq : S.at j with
      | none =>
        rw [hq] at r0
        simp only [Option.isSome_none, Bool.false_eq_true, if_false] at r0
        have HQ := Lib.hid hq
        clear hq
        go_wp2_with fail
        refine ⟨⟨j + 1, by go_num, by omega, by first | rfl | trivial, fun i hi => ?_⟩, by simp [intOf]; omega⟩
        rcases Nat.lt_or_ge i j with h1 | h1
        · exact hno.out i h1
        · have : i = j := by omega
          subst this
          exact HQ.out
      | some r =>
        rw [hq] at r0
        simp only [Option.isSome_some, if_true] at r0
        obtain ⟨h1, h2, h3, h4⟩ := HS.out.rule j r hq
        have hfl := (HW.out.first j r hq).1
        have hbv : ∃ b0 b1 b2 b3 b4, V.bv j = [b0, b1, b2, b3, b4] := by
          match V.bv j, h4 with
          | [b0, b1, b2, b3, b4], _ => exact ⟨_, _, _, _, _, rfl⟩
        obtain ⟨b0, b1, b2', b3, b4, hb⟩ := hbv
        unfold FV.rcs at h1
        rw [hb] at h1
        have f6 := h1.cell_at (i := 6) rfl
        have fl := h1.lt
        clear h1 h2 h3 h4 hq hb
        go_wp2_with fail
        rw [make_fset _ HW.out.n]
        simp only [Result.andThen]
        go_wp2_with fail
        go_ret
        exact ⟨_, rfl, _, rfl, by have := Owns.alloc wr (List.replicate S.n (.bool false)) 4; rw [List.toArray_replicate, fbs_rep] at this; exact this, Nat.le_refl _, by have := grew_alloc wr (.cells (List.replicate S.n (.bool false)).toArray 4); rw [List.toArray_replicate] at this; exact this⟩
    · obtain rfl : j = L := by omega
      obtain ⟨i, r, hi⟩ := HW.out.any
      have := hno.out i (by have := FS.at_lt hi; rw [HL.out] at this; exact this)
      rw [hi] at this
      cases this

section
variable {P : Program} {w : World}
theorem findNow_string {a : ByteArray} {f : Value → Bool} : ∀ (L : List (Value × Value)) (n i : Nat), (∀ x ∈ L, ∃ b, x.1 = .string b ∧ f (.string b) = (a == b)) → Instr.findNow .string (.string a) (entsAt n L) i = some (fnd f L i)
  | [], _, _, _ => rfl
  | x :: r, n, i, h => by
    obtain ⟨b, hb, hf⟩ := h x (by simp)
    have ih := findNow_string (a := a) r (n + 1) (i + 1) fun y hy => h y (by simp [hy])
    rw [entsAt, Instr.findNow, fnd, hb, hf]
    cases hab : (a == b)
    · simp only [Instr.sameNow, hab, Bool.false_eq_true, if_false]
      exact ih
    · simp only [Instr.sameNow, if_true, hab]
theorem KeyRun.string {kt : TypeId} {a : ByteArray} {f : Value → Bool} {L : List (Value × Value)} (ht : P.underlying kt = some .string) (hL : ∀ x ∈ L, ∃ b, x.1 = .string b ∧ f (.string b) = (a == b)) :
    KeyRun P w kt (.string a) f L := by
  refine ⟨fun e => ?_, ?_⟩
  · rw [show (10000 : Nat) = 9999 + 1 from rfl]
    unfold Instr.checkKey
    simp only [Sem.run_bind, run_underlying ht, Result.andThen]
    rfl
  · unfold Instr.findKey
    rw [Sem.run_bind, run_underlying ht, Result.andThen_ok]
    simp only [findNow_string L 0 0 hL]
    rfl
theorem fnd_mapL (nm : ByteArray) : ∀ (l : List (ByteArray × Nat)) (i : Nat), (lookB l nm = none → fnd (fun v => match v with | .string b => nm == b | _ => false) (mapL l) i = none) ∧
    ∀ k, lookB l nm = some k → ∃ j, fnd (fun v => match v with | .string b => nm == b | _ => false) (mapL l) i = some (j, .int .i64 k)
  | [], _ => ⟨fun _ => rfl, fun k h => by cases h⟩
  | x :: r, i => by
    obtain ⟨h1, h2⟩ := fnd_mapL nm r (i + 1)
    rw [lookB]
    show (_ → fnd _ ((.string x.1, .int .i64 x.2) :: mapL r) i = none) ∧ ∀ k, _ → ∃ j, fnd _ ((.string x.1, .int .i64 x.2) :: mapL r) i = _
    rw [fnd]
    dsimp only
    by_cases h : (nm == x.1) = true
    · rw [if_pos h, if_pos h]
      exact ⟨fun h => (by cases h), fun k hk => ⟨i, by rw [Option.some.inj hk]⟩⟩
    · rw [if_neg h, if_neg h]
      exact ⟨h1, h2⟩
/-- v, ok := m[k] -/
theorem run_str_look {t kt e : TypeId} {b : Nat} {nm : ByteArray} {l : List (ByteArray × Nat)} (ht : P.underlying t = some (.map kt e)) (hkt : P.underlying kt = some .string) (hb : w.heap[b]? = some (mapObj (mapL l))) (hz : (zeroValue e).run P w = .ok (.int .i64 0) w) :
    (Instr.lookup t (.map (some b)) (.string nm) true).run P w = .ok (.tuple #[.int .i64 ((lookB l nm).getD 0 : Nat), .bool (lookB l nm).isSome]) w := by
  have hK : KeyRun P w kt (.string nm) (fun v => match v with | .string b => nm == b | _ => false) (mapL l) := KeyRun.string hkt fun x hx => by
    obtain ⟨y, -, rfl⟩ := List.mem_map.1 hx
    exact ⟨y.1, rfl, rfl⟩
  have hg := run_map_of (P := P) hb
  unfold mapObj at hg
  have hf := hK.find
  obtain ⟨f1, f2⟩ := fnd_mapL nm l 0
  cases hl : lookB l nm with
  | none =>
    rw [f1 hl] at hf
    simp only [Instr.lookup, Sem.run_bind, run_underlying ht, Result.andThen_ok, hg, Sem.run_pure, hK.check, hf]
    simp [hz]
  | some k =>
    obtain ⟨j, hj⟩ := f2 k hl
    rw [hj] at hf
    simp only [Instr.lookup, Sem.run_bind, run_underlying ht, Result.andThen_ok, hg, Sem.run_pure, hK.check, hf]
    simp
end

set_option maxHeartbeats 1000000 in
set_option maxRecDepth 20000 in
theorem fnamed_ok (nm : ByteArray) (w : World) (V : FV) (S : FS) (hw : S.Wf) (h : SetsAt w V S) : Calls Try.prog 32 #[.pointer (some ⟨V.sb, 0, none⟩), .string nm] w fun e w' =>
    e = .returned (.pointer ((S.ix nm).map fun i => ⟨V.rk i, 0, none⟩)) ∧ w' = w := by
  have HLK := Lib.hid (run_str_look (P := Try.prog) (w := w) (t := 29) (nm := nm) (l := S.places) Try.underlying29 Try.underlying9 h.places (by kernel_rfl))
  have HS := Lib.hid h
  have hp := hw.places nm
  have hlen := hw.len
  have b0 := h.box.cell_at (i := 0) rfl
  have b2 := h.box.cell_at (i := 2) rfl
  have bl := h.box.lt
  clear h hw
  obtain ⟨L, hL⟩ : ∃ L, S.rules.length = L := ⟨_, rfl⟩
  rw [hL] at b2 hlen hp
  have HL := Lib.hid hL
  clear hL
  have hix : S.ix nm = (lookB S.places nm).bind fun i => if (S.at i).isSome then some i else none := rfl
  rw [hix]
  clear hix
  cases hq : lookB S.places nm with
  | none =>
    rw [hq] at HLK
    go_enter Try.func32, Try.ntmps32
    go_wp2_with fail
    rw [HLK.out]
    simp only [Result.andThen, Option.getD_none, Option.isSome_none]
    go_wp2_with fail
    go_ret
    exact ⟨rfl, rfl⟩
  | some i =>
    rw [hq] at HLK
    have hi := hp i hq
    have r0 := HS.out.row.cell_at (V.ptrs_at S (by rw [HL.out]; exact hi))
    have rl := HS.out.row.lt
    unfold FV.ptr at r0
    simp only [Option.bind_some]
    clear hp hq
    cases hs : (S.at i).isSome
    · rw [hs] at r0
      simp only [Bool.false_eq_true, if_false] at r0
      go_enter Try.func32, Try.ntmps32
      go_wp2_with fail
      rw [HLK.out]
      simp only [Result.andThen, Option.getD_some, Option.isSome_some]
      go_wp2_with fail
      go_ret
      exact ⟨rfl, rfl⟩
    · rw [hs] at r0
      simp only [if_true] at r0
      go_enter Try.func32, Try.ntmps32
      go_wp2_with fail
      rw [HLK.out]
      simp only [Result.andThen, Option.getD_some, Option.isSome_some]
      go_wp2_with fail
      go_ret
      exact ⟨rfl, rfl⟩
end Go.Proofs.Ytldoinfbimelpaa
