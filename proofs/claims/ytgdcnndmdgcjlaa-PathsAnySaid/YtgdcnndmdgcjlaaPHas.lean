/- Is something among a map's keys? The three of them. -/
import Derived.Test.YtgdcnndmdgcjlaaPInv
namespace Go.Proofs.Ytgdcnndmdgcjlaa
open Go.RowKit

noncomputable def isV (v x : Value) : Bool := @decide (x = v) (Classical.propDecidable _)
theorem isV_true {v x : Value} : isV v x = true ↔ x = v := by simp [isV]
theorem isV_false {v x : Value} : isV v x = false ↔ x ≠ v := by simp [isV]
theorem plV_inj {p q : Pl} (h : plV p = plV q) : p = q := by
  obtain ⟨a, b⟩ := p
  obtain ⟨c, d⟩ := q
  simp [plV] at h
  rw [Prod.mk.injEq]
  omega

theorem at_check (p : Pl) (w : World) (e : Bool) : (Instr.checkKey e 10000 71 (plV p)).run Try.prog w = .ok () w := by
  kernel_rfl
theorem at_eqIn (n : Nat) (a b c d : Int) (w : World) : (Op.equalIn (n + 2) 71 (.agg #[.int .i64 a, .int .i64 b]) (.agg #[.int .i64 c, .int .i64 d])).run Try.prog w = .ok (a == c && b == d) w := by
  rw [run_equalIn_struct w (n + 1) 71 _ _ (by kernel_rfl) (by kernel_rfl)]
  go_simp
  by_cases h1 : a = c <;> by_cases h2 : b = d <;> simp [h1, h2]
theorem at_eq (p q : Pl) (w : World) : (Op.equal 71 (plV p) (plV q)).run Try.prog w = .ok (isV (plV p) (plV q)) w := by
  have h := at_eqIn 9998 p.1 p.2 q.1 q.2 w
  have e : (((p.1 : Int) == (q.1 : Int)) && ((p.2 : Int) == (q.2 : Int))) = isV (plV p) (plV q) := by
    rw [Bool.eq_iff_iff, isV_true]
    simp only [Bool.and_eq_true, beq_iff_eq]
    constructor
    · rintro ⟨h1, h2⟩; unfold plV; rw [h1, h2]
    · intro h; rw [plV_inj h]; exact ⟨rfl, rfl⟩
  rw [e] at h
  exact h
theorem frozen_own {w : World} {b T : Nat} {cs : List Value} (h : Owns w b cs T) (o : Nat) : w.frozen? { block := b, off := o } = false := h.free o
theorem shape_own {w : World} {b T : Nat} {cs : List Value} (h : Owns w b cs T) : w.shape? b = some (T, cs.length) := by
  unfold Owns at h
  simp [World.shape?, h]
theorem ptr_eqIn (n x y T T' : Nat) (w : World) {cx cy : List Value} (hx : Owns w x cx T) (hy : Owns w y cy T') : (Op.equalIn (n + 1) 65 (ptrV x) (ptrV y)).run Try.prog w = .ok (x == y) w := by
  have h1 := frozen_own hx
  have h2 := frozen_own hy
  have h3 := shape_own hx
  have h4 := shape_own hy
  unfold Op.equalIn ptrV
  go_simp
  by_cases e : x = y
  · subst e
    simp [sameAddr]
  · have e' : (x == y) = false := by simpa using e
    simp [sameAddr, e', noView, viewAt, mayBeOne, stringish, frozen, shape, Sem.run, h1, h2, h3, h4]

theorem wait_check (b : Nat) (s : Int) (w : World) (e : Bool) : (Instr.checkKey e 10000 149 (.agg #[ptrV b, .int .i64 s])).run Try.prog w = .ok () w := by
  kernel_rfl
theorem wait_eqIn (n x y T T' : Nat) (s t : Int) (w : World) {cx cy : List Value} (hx : Owns w x cx T) (hy : Owns w y cy T') :
    (Op.equalIn (n + 2) 149 (.agg #[ptrV x, .int .i64 s]) (.agg #[ptrV y, .int .i64 t])).run Try.prog w = .ok (x == y && s == t) w := by
  have hp := ptr_eqIn n x y T T' w hx hy
  unfold ptrV at *
  rw [run_equalIn_struct w (n + 1) 149 _ _ (by kernel_rfl) (by kernel_rfl)]
  clear hx hy
  go_simp
  cases h1 : (x == y) <;> cases h2 : (s == t) <;> simp_all

theorem any_isV {α : Type} [DecidableEq α] (f : α → Value) (u : Value) (hf : ∀ a b, f a = f b → a = b) (l : List α) (a : α) : ((l.map fun x => (f x, u)).any fun x => isV (f a) x.1) = decide (a ∈ l) := by
  rw [Bool.eq_iff_iff, decide_eq_true_eq, List.any_eq_true]
  constructor
  · rintro ⟨x, hx, h⟩
    obtain ⟨b, hb, rfl⟩ := List.mem_map.1 hx
    have := isV_true.1 h
    rw [← hf _ _ this]; exact hb
  · intro h
    exact ⟨(f a, u), List.mem_map.2 ⟨a, h, rfl⟩, isV_true.2 rfl⟩
theorem int_key (a : Int) (l : List Nat) : ∀ x ∈ l.map (fun (i : Nat) => (Value.int .i64 i, unitV)), ∃ b, x.1 = .int .i64 b ∧ isV (.int .i64 a) (.int .i64 b) = (a == b) := by
  intro x hx
  obtain ⟨b, hb, rfl⟩ := List.mem_map.1 hx
  refine ⟨b, rfl, ?_⟩
  rw [Bool.eq_iff_iff, isV_true, beq_iff_eq]
  exact ⟨fun h => by cases h; rfl, fun h => by rw [h]⟩
theorem zero_unit (w : World) : (zeroValue 122).run Try.prog w = .ok unitV w := by kernel_rfl
theorem key_at (w : World) (p : Pl) (l : List Pl) (u : Value) : KeyRun Try.prog w 71 (plV p) (isV (plV p)) (l.map fun q => (plV q, u)) :=
  KeyRun.struct (fs := Try.prog.fieldsOf 71) (by kernel_rfl) (at_check p w) fun x hx => by
    obtain ⟨q, _, rfl⟩ := List.mem_map.1 hx
    exact at_eq p q w
theorem key_at2 (w : World) (p : Pl) (l : List Pl) (f : Pl → Value) : KeyRun Try.prog w 71 (plV p) (isV (plV p)) (l.map fun q => (plV q, f q)) :=
  KeyRun.struct (fs := Try.prog.fieldsOf 71) (by kernel_rfl) (at_check p w) fun x hx => by
    obtain ⟨q, _, rfl⟩ := List.mem_map.1 hx
    exact at_eq p q w
theorem key_int (w : World) (a : Nat) (l : List Nat) : KeyRun Try.prog w 3 (.int .i64 a) (isV (.int .i64 a)) (l.map fun (i : Nat) => (Value.int .i64 i, unitV)) :=
  KeyRun.int Try.underlying3 (int_key a l)

theorem dec_eq {p : Prop} (a b : Decidable p) : @decide p a = @decide p b := by congr
set_option maxRecDepth 20000 in
theorem hasat_ok (W : World) (b : Nat) (l : List Pl) (p : Pl) (hb : W.heap[b]? = some (mapObj (l.map fun q => (plV q, unitV)))) :
    Calls Try.prog 26 #[.map (some b), plV p] W fun e W' => e = .returned (.bool (decide (p ∈ l))) ∧ Grew W W' := by
  have hlt := (Array.getElem?_eq_some_iff.1 hb).1
  have hg := grew_alloc W (.cells #[.int .i64 p.1, .int .i64 p.2] 71)
  have hlook := run_look_ok (P := Try.prog) (t := 72) (kt := 71) (e := 122) (by kernel_rfl) ((hg.block b hlt).trans hb) (key_at _ p l unitV) (zero_unit _) (fun x hx => by obtain ⟨q, _, rfl⟩ := List.mem_map.1 hx; rfl)
  rw [any_isV plV unitV (fun _ _ => plV_inj) l p] at hlook
  have HG := Lib.hid hg
  clear hg hb hlt
  unfold plV unitV at *
  go_enter Try.func26, Try.ntmps26
  go_wp2
  go_ret
  exact ⟨ret_bool (dec_eq _ _), HG.out.trans (grew_alloc _ _)⟩

set_option maxRecDepth 20000 in
theorem hasint_ok (W : World) (b : Nat) (l : List Nat) (p : Nat) (hb : W.heap[b]? = some (mapObj (l.map fun (q : Nat) => (Value.int .i64 q, unitV)))) :
    Calls Try.prog 67 #[.map (some b), .int .i64 p] W fun e W' => e = .returned (.bool (decide (p ∈ l))) ∧ Grew W W' := by
  have hlook := run_look_ok (P := Try.prog) (t := 144) (kt := 3) (e := 122) (by kernel_rfl) hb (key_int _ p l) (zero_unit _) (fun x hx => by obtain ⟨q, _, rfl⟩ := List.mem_map.1 hx; rfl)
  rw [any_isV (fun (q : Nat) => Value.int .i64 q) unitV (fun a b h => by simp at h; omega) l p] at hlook
  clear hb
  unfold unitV at *
  go_enter Try.func67, Try.ntmps67
  go_wp2
  go_ret
  exact ⟨ret_bool (dec_eq _ _), grew_alloc _ _⟩

def waitN (x : Nat × Nat) : Value := .agg #[ptrV x.1, .int .i64 x.2]
theorem waitN_inj : ∀ a b : Nat × Nat, waitN a = waitN b → a = b := by
  intro a b h
  obtain ⟨a1, a2⟩ := a
  obtain ⟨b1, b2⟩ := b
  simp [waitN, ptrV] at h
  rw [Prod.mk.injEq]
  omega
theorem key_wait (w : World) (l : List (Nat × Nat)) (x : Nat × Nat) (hx : ∃ cs T, Owns w x.1 cs T) (hl : ∀ q ∈ l, ∃ cs T, Owns w q.1 cs T) : KeyRun Try.prog w 149 (waitN x) (isV (waitN x)) (l.map fun q => (waitN q, unitV)) :=
  KeyRun.struct (fs := Try.prog.fieldsOf 149) (by kernel_rfl) (wait_check _ _ _) fun y hy => by
    obtain ⟨q, hq, rfl⟩ := List.mem_map.1 hy
    obtain ⟨cs, T, ho⟩ := hx
    obtain ⟨cs', T', ho'⟩ := hl q hq
    have h := wait_eqIn 9998 x.1 q.1 T T' x.2 q.2 _ ho ho'
    have e : (x.1 == q.1 && ((x.2 : Int) == (q.2 : Int))) = isV (waitN x) (waitN q) := by
      rw [Bool.eq_iff_iff, isV_true]
      simp only [Bool.and_eq_true, beq_iff_eq]
      constructor
      · rintro ⟨h1, h2⟩; unfold waitN; rw [h1, h2]
      · intro h; rw [waitN_inj _ _ h]; exact ⟨rfl, rfl⟩
    rw [e] at h
    exact h
set_option maxRecDepth 20000 in
theorem haswait_ok (W : World) (b : Nat) (l : List (Nat × Nat)) (x : Nat × Nat) (hb : W.heap[b]? = some (mapObj (l.map fun q => (waitN q, unitV)))) (hx : ∃ cs T, Owns W x.1 cs T) (hl : ∀ q ∈ l, ∃ cs T, Owns W q.1 cs T) :
    Calls Try.prog 81 #[.map (some b), waitN x] W fun e W' => e = .returned (.bool (decide (x ∈ l))) ∧ Grew W W' := by
  have hlt := (Array.getElem?_eq_some_iff.1 hb).1
  have hg := grew_alloc W (.cells #[ptrV x.1, .int .i64 x.2] 149)
  have hK := key_wait (W.alloc (.cells #[ptrV x.1, .int .i64 x.2] 149)) l x (by obtain ⟨cs, T, h⟩ := hx; exact ⟨cs, T, h.keep hg⟩) (fun q hq => by obtain ⟨cs, T, h⟩ := hl q hq; exact ⟨cs, T, h.keep hg⟩)
  have hlook := run_look_ok (P := Try.prog) (t := 145) (kt := 149) (e := 122) (by kernel_rfl) ((hg.block b hlt).trans hb) hK (zero_unit _) (fun x hx => by obtain ⟨q, _, rfl⟩ := List.mem_map.1 hx; rfl)
  rw [any_isV waitN unitV waitN_inj l x] at hlook
  have HG := Lib.hid hg
  clear hg hb hlt hx hl hK
  unfold waitN unitV ptrV at *
  go_enter Try.func81, Try.ntmps81
  go_wp2
  go_ret
  exact ⟨ret_bool (dec_eq _ _), HG.out.trans (grew_alloc _ _)⟩
end Go.Proofs.Ytgdcnndmdgcjlaa
