/- What a search does to its memory, step by step. -/
import Derived.Deep.RegionLaw
import Derived.Lib.AppendZerosOnto
import Derived.Laws.EntriesVeiled
import Derived.Test.YtgdcnndmdgcjlaaQ3
import Derived.Test.YtgdcnndmdgcjlaaQ2
namespace Go.Proofs.Ytgdcnndmdgcjlaa
open Go.RowKit
section
variable {E : Env} {S : St} {w w' : World}
theorem Rep.srch (h : Rep E S w) : Owns w (S.loc .srch) (S.srchL E) 93 := h.obj .srch trivial
theorem Rep.walk (h : Rep E S w) {κ : Key} (hk : S.has κ) : Owns w (S.loc (.walk κ)) (S.walkL E κ) 75 := h.obj (.walk κ) hk
theorem Rep.call (h : Rep E S w) {c : Nat × Nat} (hc : c ∈ S.calls) : Owns w (S.loc (.call c)) (S.callL c) 147 := h.obj (.call c) hc
theorem Rep.seenM (h : Rep E S w) {κ : Key} (hk : S.has κ) : w.heap[S.loc (.seen κ)]? = some (mapObj (S.seenL κ)) := h.obj (.seen κ) hk
theorem Rep.endsM (h : Rep E S w) {c : Nat × Nat} (hc : c ∈ S.calls) : w.heap[S.loc (.ends c)]? = some (mapObj (S.endsL c)) := h.obj (.ends c) hc
theorem Rep.waitsM (h : Rep E S w) {c : Nat × Nat} (hc : c ∈ S.calls) : w.heap[S.loc (.waits c)]? = some (mapObj (S.waitsL c)) := h.obj (.waits c) hc
theorem Rep.callsM (h : Rep E S w) : w.heap[S.loc .cmap]? = some (mapObj S.callsL) := h.obj .cmap trivial
theorem upd_seen (h : Rep E S w) {κ : Key} (hk : S.has κ) {p : Pl} (hn : p ∉ S.seen κ) :
    (Instr.mapUpdate 72 (.map (some (S.loc (.seen κ)))) (plV p) unitV).run Try.prog w = .ok () (putObj w (S.loc (.seen κ)) (mapObj (((S.seen κ) ++ [p]).map fun q => (plV q, unitV)))) := by
  have := run_update_new (x := unitV) (P := Try.prog) (t := 72) (kt := 71) (e := 122) (by kernel_rfl) (h.seenM hk) (key_at w p (S.seen κ) unitV) (fun x hx => by
    obtain ⟨q, hq, rfl⟩ := List.mem_map.1 hx
    exact isV_false.2 fun e => hn (by rw [← plV_inj e]; exact hq))
  rw [this]
  unfold St.seenL
  rw [List.map_append]
  rfl
theorem upd_ends (h : Rep E S w) {c : Nat × Nat} (hc : c ∈ S.calls) {i : Nat} (hn : i ∉ S.ends c) :
    (Instr.mapUpdate 144 (.map (some (S.loc (.ends c)))) (.int .i64 i) unitV).run Try.prog w = .ok () (putObj w (S.loc (.ends c)) (mapObj (((S.ends c) ++ [i]).map fun (q : Nat) => (.int .i64 q, unitV)))) := by
  have := run_update_new (x := unitV) (P := Try.prog) (t := 144) (kt := 3) (e := 122) (by kernel_rfl) (h.endsM hc) (key_int w i (S.ends c)) (fun x hx => by
    obtain ⟨q, hq, rfl⟩ := List.mem_map.1 hx
    refine isV_false.2 fun e => hn ?_
    simp at e
    rw [show i = q by omega]; exact hq)
  rw [this]
  unfold St.endsL
  rw [List.map_append]
  rfl
end
theorem follows : Try.prog.follows .mixedOrders = true := by kernel_rfl
theorem info_step : (Try.prog.info? 120).map (fun i => (i.zero, i.size, i.bytes)) = some (some (.agg #[.pointer none, .int .i64 0, .int .i64 0]), 3, 24) := by kernel_rfl
section
variable {E : Env} {S : St} {w w' : World}
def St.seenAnd (S : St) (κ : Key) (p : Pl) : St := { S with seen := fun k => if k = κ then S.seen k ++ [p] else S.seen k }
def St.withAll (S : St) (b : Bool) : St := { S with all := b }
def St.todoAnd (S : St) (x : Key × Pl) (v : Value) : St := { S with todo := S.todo ++ [x], tv := v }
def St.endsAnd (S : St) (c : Nat × Nat) (i : Nat) : St := { S with ends := fun d => if d = c then S.ends d ++ [i] else S.ends d }
theorem has_same {S S' : St} (h : S'.calls = S.calls) (κ : Key) : S'.has κ ↔ S.has κ := by
  cases κ with
  | none => exact Iff.rfl
  | some c => unfold St.has; rw [h]
theorem ex_same {S S' : St} (h : S'.calls = S.calls) (r : Role) : S'.ex r ↔ S.ex r := by
  cases r <;> first | exact Iff.rfl | exact has_same h _ | (unfold St.ex; rw [h])
theorem put_seen (h : Rep E S w) {κ : Key} (hk : S.has κ) (p : Pl) :
    Rep E (S.seenAnd κ p) (putObj w (S.loc (.seen κ)) (mapObj (((S.seen κ) ++ [p]).map fun q => (plV q, unitV)))) ∧ Frm S (S.seenAnd κ p) w (putObj w (S.loc (.seen κ)) (mapObj (((S.seen κ) ++ [p]).map fun q => (plV q, unitV)))) := by
  have e : (S.seenAnd κ p).obj E (.seen κ) = mapObj (((S.seen κ) ++ [p]).map fun q => (plV q, unitV)) := by
    unfold St.obj St.seenL St.seenAnd
    simp only [if_true]
  rw [← e]
  refine h.put (r := .seen κ) hk rfl (ex_same rfl) rfl rfl fun r' hr' => ?_
  cases r' with
  | seen k =>
    have : k ≠ κ := fun e => hr' (by rw [e])
    unfold St.obj St.seenL St.seenAnd
    simp only [if_neg this]
  | walk κ => rfl
  | _ => rfl
theorem put_ends (h : Rep E S w) {c : Nat × Nat} (hc : c ∈ S.calls) (i : Nat) :
    Rep E (S.endsAnd c i) (putObj w (S.loc (.ends c)) (mapObj (((S.ends c) ++ [i]).map fun (q : Nat) => (.int .i64 q, unitV)))) ∧ Frm S (S.endsAnd c i) w (putObj w (S.loc (.ends c)) (mapObj (((S.ends c) ++ [i]).map fun (q : Nat) => (.int .i64 q, unitV)))) := by
  have e : (S.endsAnd c i).obj E (.ends c) = mapObj (((S.ends c) ++ [i]).map fun (q : Nat) => (.int .i64 q, unitV)) := by
    unfold St.obj St.endsL St.endsAnd
    simp only [if_true]
  rw [← e]
  refine h.put (r := .ends c) hc rfl (ex_same rfl) rfl rfl fun r' hr' => ?_
  cases r' with
  | ends k =>
    have : k ≠ c := fun e => hr' (by rw [e])
    unfold St.obj St.endsL St.endsAnd
    simp only [if_neg this]
  | walk κ => rfl
  | _ => rfl
theorem put_ends_at (h : Rep E S w) {c : Nat × Nat} (hc : c ∈ S.calls) (i : Nat) {w1 : World} (he : putObj w (S.loc (.ends c)) (mapObj (((S.ends c) ++ [i]).map fun (q : Nat) => (.int .i64 q, unitV))) = w1) : Rep E (S.endsAnd c i) w1 ∧ Frm S (S.endsAnd c i) w w1 := by
  subst he
  exact put_ends h hc i
theorem put_all (h : Rep E S w) (b : Bool) : Rep E (S.withAll b) (w.setCell ⟨S.loc .srch, 8, none⟩ (.bool b)) ∧ Frm S (S.withAll b) w (w.setCell ⟨S.loc .srch, 8, none⟩ (.bool b)) := by
  rw [setCell_put h.srch]
  have e : (S.withAll b).obj E .srch = .cells ((S.srchL E).set 8 (.bool b)).toArray 93 (0, 0) := rfl
  rw [← e]
  refine h.put (r := .srch) trivial rfl (ex_same rfl) rfl rfl fun r' hr' => ?_
  cases r' with
  | srch => exact absurd rfl hr'
  | walk κ => rfl
  | _ => rfl
theorem put_todo (h : Rep E S w) (x : Key × Pl) {v : Value} {w1 : World} (hgrow : w.grownBy w1 S.tv.ownBlock) (hown : looseRow w1 E.lim 120 3 v (S.todo.length + 1) (S.todoCells ++ [ptrV (S.loc (.walk x.1)), .int .i64 x.2.1, .int .i64 x.2.2]))
    {g : Nat} (hg : v.ownBlock = some g) (hat : S.tv.ownBlock = some g ∨ w.heap.size ≤ g) :
    Rep E (S.todoAnd x v) (w1.setCell ⟨S.loc .srch, 7, none⟩ v) ∧ Frm S (S.todoAnd x v) w (w1.setCell ⟨S.loc .srch, 7, none⟩ v) := by
  have hb1 : But (fun b => S.tv.ownBlock = some b) w w1 := ⟨hgrow.os, hgrow.tape, hgrow.output, hgrow.size, fun k hk hn => hgrow.block k hk fun e => hn e.symm⟩
  have hobj : ∀ r, S.ex r → w1.heap[S.loc r]? = some (S.obj E r) := fun r hr => by rw [hb1.block _ (h.lt hr) (h.far hr)]; exact h.obj r hr
  have hsrch : Owns w1 (S.loc .srch) (S.srchL E) 93 := hobj .srch trivial
  have hgne : ∀ r, S.ex r → S.loc r ≠ g := by
    intro r hr e
    obtain ⟨_, cs, h2⟩ := row_own hown hg
    have h3 := hobj r hr
    rw [e, h2] at h3
    exact obj_step S E r cs (0, 0) (Option.some.inj h3).symm
  rw [setCell_put hsrch]
  have hsz : S.loc .srch < w1.heap.size := hsrch.lt
  refine ⟨⟨fun r hr => ?_, h.lo, h.inj, ?_⟩, ?_, fun b hb => ?_⟩
  · have hr' : S.ex r := (ex_same (S := S) (S' := S.todoAnd x v) rfl r).1 hr
    by_cases e : r = .srch
    · subst e
      exact putObj_same hsz _
    · show (putObj w1 _ _).heap[S.loc r]? = _
      rw [putObj_other (fun e2 => e (h.inj _ _ hr' trivial e2)), hobj r hr']
      cases r with
      | srch => exact absurd rfl e
      | walk κ => rfl
      | _ => rfl
  · have e1 : (S.todoAnd x v).todoCells = S.todoCells ++ [ptrV (S.loc (.walk x.1)), .int .i64 x.2.1, .int .i64 x.2.2] := by
      unfold St.todoCells St.todoAnd
      simp [List.flatMap_append]
    rw [e1, show (S.todoAnd x v).todo.length = S.todo.length + 1 by simp [St.todoAnd]]
    exact row_but (F := fun b => b = S.loc .srch) hown (But.put rfl) fun g' hg' e => by
      have h2 : v.ownBlock = some g' := hg'
      rw [hg] at h2
      cases h2
      exact hgne .srch trivial e.symm
  · exact (show But S.mine w w1 from ⟨hb1.os, hb1.tape, hb1.output, hb1.size, fun k hk hn => hb1.block k hk fun e => hn (.inr e)⟩).trans (But.put (F := fun b => b = S.loc .srch) rfl) fun i _ hi => .inl ⟨.srch, trivial, hi.symm⟩
  · rcases hb with ⟨r, hr, rfl⟩ | hb
    · exact .inl (.inl ⟨r, (ex_same (S := S) (S' := S.todoAnd x v) rfl r).1 hr, rfl⟩)
    · have : g = b := by
        have h2 : v.ownBlock = some b := hb
        rw [hg] at h2
        exact Option.some.inj h2
      subst this
      rcases hat with h1 | h1
      · exact .inl (.inr h1)
      · exact .inr h1
theorem put_all_at (h : Rep E S w) {b bv : Bool} {w1 : World} (he : w.setCell ⟨S.loc .srch, 8, none⟩ (.bool b) = w1) (hb : b = bv) : Rep E (S.withAll bv) w1 ∧ Frm S (S.withAll bv) w w1 := by
  subst he; subst hb
  exact put_all h b
theorem put_todo_at (h : Rep E S w) (x : Key × Pl) {v : Value} {w1 w2 : World} (hgrow : w.grownBy w1 S.tv.ownBlock) (hown : looseRow w1 E.lim 120 3 v (S.todo.length + 1) (S.todoCells ++ [ptrV (S.loc (.walk x.1)), .int .i64 x.2.1, .int .i64 x.2.2]))
    {g : Nat} (hg : v.ownBlock = some g) (hat : S.tv.ownBlock = some g ∨ g = w.heap.size) (he : w1.setCell ⟨S.loc .srch, 7, none⟩ v = w2) :
    Rep E (S.todoAnd x v) w2 ∧ Frm S (S.todoAnd x v) w w2 := by
  subst he
  exact put_todo h x hgrow hown hg (hat.imp id (fun e => Nat.le_of_eq e.symm))
theorem far_srch (h : Rep E S w) {w1 : World} (hgrow : w.grownBy w1 S.tv.ownBlock) : Owns w1 (S.loc .srch) (S.srchL E) 93 := by
  have h1 := h.srch
  unfold Owns at *
  rw [hgrow.block _ (h.lt (r := .srch) trivial) (fun e => h.far (r := .srch) trivial e.symm)]
  exact h1
theorem Inv.todo_le (h : Inv E S) : S.todo.length ≤ E.univ.length := by
  refine List.Nodup.length_le_of_subset h.todoN fun x hx => ?_
  have h1 := h.todoS x hx
  exact h.univ (h.seenH _ _ h1) (h.seenR _ _ h1)
end
theorem padd_off (b o j : Nat) : (⟨b, o, none⟩ : Addr).add j = ⟨b, o + j, none⟩ := by
  unfold Addr.add
  split
  · rename_i h; rw [h]; rfl
  · rfl
theorem pnews {w : World} {b T : Nat} {cs : List Value} (h : Owns w b cs T) : ∀ j u, cs[j]? = some u → w.cell? ((⟨b, 0, none⟩ : Addr).add j) = some u := by
  intro j u hj
  rw [padd_off, Nat.zero_add]
  exact h.cell_at hj
theorem step_one (b : Nat) (s i : Int) : ∀ u ∈ [ptrV b, Value.int .i64 s, .int .i64 i], u.oneCell' = true := by
  intro u hu
  simp only [List.mem_cons, List.not_mem_nil, or_false] at hu
  rcases hu with rfl | rfl | rfl <;> rfl
section
variable {E : Env} {S : St}
theorem see_eq {κ : Key} {p : Pl} {v : Value} {bv : Bool} (hb : (S.all || (p.2 == E.w.length)) = bv) (hno : ∀ c, ¬(κ = some c ∧ p.1 = E.N.stop c.1)) : ((S.seenAnd κ p).withAll bv).todoAnd (κ, p) v = S.see E κ p v := by
  subst hb
  unfold St.see St.todoAnd St.withAll St.seenAnd
  congr 1
  funext c
  rw [if_neg (hno c)]
theorem see_eq2 {c : Nat × Nat} {p : Pl} {v : Value} {bv : Bool} (hb : (S.all || (p.2 == E.w.length)) = bv) (hst : p.1 = E.N.stop c.1) : (((S.seenAnd (some c) p).withAll bv).todoAnd (some c, p) v).endsAnd c p.2 = S.see E (some c) p v := by
  subst hb
  unfold St.see St.endsAnd St.todoAnd St.withAll St.seenAnd
  congr 1
  funext d
  by_cases h : d = c
  · subst h; simp [hst]
  · have : ¬(some c = some d ∧ p.1 = E.N.stop d.1) := fun e => h (by have := e.1; simp at this; exact this.symm)
    simp only [if_neg h, if_neg this]
theorem see_done {κ : Key} {p : Pl} {v : Value} (hI : Inv E S) (hk : S.has κ) (hn : p ∉ S.seen κ) (hr : p.1 < E.N.states.length ∧ p.2 ≤ E.w.length) (hL : Lv E.N E.w E.p0 E.over κ p) (hno : ∀ c, ¬(κ = some c ∧ p.1 = E.N.stop c.1)) : Reached E S (S.see E κ p v) κ p := by
  obtain ⟨h1, h2⟩ := hI.see hk hn hr hL v
  exact ⟨h1, h2, (see_seen S E κ p v κ p).2 (.inr ⟨rfl, rfl⟩), rfl, fun _ => rfl, fun c i x ho => (see_opn ho).resolve_right fun ⟨e1, e2, _⟩ => hno c ⟨e1, e2⟩⟩
end
end Go.Proofs.Ytgdcnndmdgcjlaa

/- The library's functions on integers, and on edges, that atns.May asks. -/
namespace Go.Proofs.Ytgdcnndmdgcjlaa
open Go.RowKit
theorem pixOf_any {α : Type} (l : List α) (q : α → Bool) : decide (0 ≤ ixOf l q) = l.any q := by
  rcases ixOf_cases l q with ⟨h, hn⟩ | ⟨j, hj, h, hq, _⟩
  · rw [h]
    symm
    have : l.any q = false := by
      rw [List.any_eq_false]
      intro x hx
      obtain ⟨i, hi, rfl⟩ := List.mem_iff_getElem.1 hx
      simp [hn i hi]
    rw [this]; rfl
  · rw [h]
    have : l.any q = true := List.any_eq_true.2 ⟨l[j], List.getElem_mem hj, hq⟩
    rw [this]
    simp
def AskInts (F : Nat) (cp : Array Value) (W : World) (l : List Int) (q : Int → Bool) : Prop :=
  ∀ (i : Nat) (hi : i < l.length) (W' : World), Grew W W' → Calls Try.prog F (#[.int .i64 l[i]] ++ cp) W' fun e W2 => e = .returned (.bool (q l[i])) ∧ Grew W' W2
set_option maxHeartbeats 1000000 in
set_option maxRecDepth 20000 in
theorem indexInts_ok (l : List Int) (q : Int → Bool) (F : Nat) (cp : Array Value) (hF : Enters F) (W : World) (v : Value) (hl : l.length ≤ reachN) (hR : IntsV W W.heap.size v l) (HF : AskInts F cp W l q) :
    Calls Try.prog 48 #[v, .func (.func F) #[] cp] W fun e W' => e = .returned (.int .i64 (ixOf l q)) ∧ Grew W W' := by
  obtain ⟨a, cap, rfl, hR⟩ := hR
  unfold reachN at hl
  go_enter Try.func48, Try.ntmps48
  go_wp2
  go_loopw [8] (fun i wr => ∃ (j : Nat), i = .int .i64 j ∧ j ≤ l.length ∧ Hid (NoneTo l q j) ∧ Hid (Grew W wr)) (fun i _ => l.length - (intOf i).toNat)
  case atStart =>
    exact ⟨0, rfl, by omega, fun i hi h => absurd h (by omega), Grew.refl W⟩
  case round =>
    obtain ⟨j, rfl, hj, hf, hbw⟩ := hrel
    by_cases hlt : j < l.length
    · obtain ⟨b, off, rfl, hb, hc⟩ := hR j hlt
      have hc' : wr.cell? ⟨b, off + j, none⟩ = some (.int .i64 l[j]) := by rw [hbw.out.cells _ _ hb]; exact hc
      have HS := Lib.hid (HF j hlt wr hbw.out)
      clear hR HF hc hb
      have hFx := hF
      unfold Enters at hFx
      clear hF
      obtain ⟨t, ht⟩ : ∃ t, t = q l[j] := ⟨_, rfl⟩
      rw [← ht] at HS
      have HQ := Lib.hid ht
      clear ht
      cases t
      · go_wp2_with (refine HS.out.mono ?_; rintro e w2 ⟨rfl, hb2⟩)
        exact ⟨⟨j + 1, by go_num, by omega, noneTo_next hf.out hlt HQ.out.symm, hbw.out.trans hb2⟩, by simp [intOf]; omega⟩
      · go_wp2_with (refine HS.out.mono ?_; rintro e w2 ⟨rfl, hb2⟩)
        go_ret
        exact ⟨ret_int (ixOf_at hlt hf.out HQ.out.symm).symm, hbw.out.trans hb2⟩
    · go_wp2_with fail
      go_ret
      exact ⟨ret_int (ixOf_none fun i hi => hf.out i hi (by omega)).symm, hbw.out⟩
theorem contInts_ok (l : List Int) (q : Int → Bool) (F : Nat) (cp : Array Value) (hF : Enters F) (W : World) (v : Value) (hl : l.length ≤ reachN) (hR : IntsV W W.heap.size v l) (HF : AskInts F cp W l q) :
    Calls Try.prog 34 #[v, .func (.func F) #[] cp] W fun e W' => e = .returned (.bool (l.any q)) ∧ Grew W W' := by
  have hS := Lib.hid (indexInts_ok l q F cp hF W v hl hR HF)
  clear HF hR hF
  go_enter Try.func34, Try.ntmps34
  go_wp2_with (go_at_call 48; refine hS.out.mono ?_; rintro e w' ⟨rfl, hb2⟩)
  go_ret
  exact ⟨ret_bool (pixOf_any l q), hb2⟩
def AskEdges (F : Nat) (cp : Array Value) (W : World) (l : List Edg) (q : Edg → Bool) : Prop :=
  ∀ (i : Nat) (hi : i < l.length) (W' : World), Grew W W' → Calls Try.prog F (#[.agg #[.int .u8 l[i].kind, .int .i64 l[i].what, .int .i64 l[i].to]] ++ cp) W' fun e W2 => e = .returned (.bool (q l[i])) ∧ Grew W' W2
set_option maxHeartbeats 1000000 in
set_option maxRecDepth 20000 in
theorem indexEdges_ok (l : List Edg) (q : Edg → Bool) (F : Nat) (cp : Array Value) (hF : Enters F) (W : World) (a : Option Addr) (cap : Nat) (hl : l.length ≤ reachN) (hR : EdgesAt W W.heap.size a l) (HF : AskEdges F cp W l q) :
    Calls Try.prog 69 #[.slice a l.length cap, .func (.func F) #[] cp] W fun e W' => e = .returned (.int .i64 (ixOf l q)) ∧ Grew W W' := by
  unfold reachN at hl
  go_enter Try.func69, Try.ntmps69
  go_wp2
  go_loopw [8] (fun i wr => ∃ (j : Nat), i = .int .i64 j ∧ j ≤ l.length ∧ Hid (NoneTo l q j) ∧ Hid (Grew W wr)) (fun i _ => l.length - (intOf i).toNat)
  case atStart =>
    exact ⟨0, rfl, by omega, fun i hi h => absurd h (by omega), Grew.refl W⟩
  case round =>
    obtain ⟨j, rfl, hj, hf, hbw⟩ := hrel
    by_cases hlt : j < l.length
    · obtain ⟨b, off, rfl, hb, hc0, hc1, hc2⟩ := hR j hlt
      have d0 : wr.cell? ⟨b, off + j * 3, none⟩ = some (.int .u8 l[j].kind) := by rw [hbw.out.cells _ _ hb]; exact hc0
      have d1 : wr.cell? ⟨b, off + j * 3 + 1, none⟩ = some (.int .i64 l[j].what) := by rw [hbw.out.cells _ _ hb]; exact hc1
      have d2 : wr.cell? ⟨b, off + j * 3 + 2, none⟩ = some (.int .i64 l[j].to) := by rw [hbw.out.cells _ _ hb]; exact hc2
      have HS := Lib.hid (HF j hlt wr hbw.out)
      clear hR HF hc0 hc1 hc2 hb
      have hFx := hF
      unfold Enters at hFx
      clear hF
      obtain ⟨t, ht⟩ : ∃ t, t = q l[j] := ⟨_, rfl⟩
      rw [← ht] at HS
      have HQ := Lib.hid ht
      clear ht
      cases t
      · go_wp2_with (refine HS.out.mono ?_; rintro e w2 ⟨rfl, hb2⟩)
        exact ⟨⟨j + 1, by go_num, by omega, noneTo_next hf.out hlt HQ.out.symm, hbw.out.trans hb2⟩, by simp [intOf]; omega⟩
      · go_wp2_with (refine HS.out.mono ?_; rintro e w2 ⟨rfl, hb2⟩)
        go_ret
        exact ⟨ret_int (ixOf_at hlt hf.out HQ.out.symm).symm, hbw.out.trans hb2⟩
    · go_wp2_with fail
      go_ret
      exact ⟨ret_int (ixOf_none fun i hi => hf.out i hi (by omega)).symm, hbw.out⟩
theorem contEdges_ok (l : List Edg) (q : Edg → Bool) (F : Nat) (cp : Array Value) (hF : Enters F) (W : World) (a : Option Addr) (cap : Nat) (hl : l.length ≤ reachN) (hR : EdgesAt W W.heap.size a l) (HF : AskEdges F cp W l q) :
    Calls Try.prog 52 #[.slice a l.length cap, .func (.func F) #[] cp] W fun e W' => e = .returned (.bool (l.any q)) ∧ Grew W W' := by
  have hS := Lib.hid (indexEdges_ok l q F cp hF W a cap hl hR HF)
  clear HF hR hF
  go_enter Try.func52, Try.ntmps52
  go_wp2_with (go_at_call 69; refine hS.out.mono ?_; rintro e w' ⟨rfl, hb2⟩)
  go_ret
  exact ⟨ret_bool (pixOf_any l q), hb2⟩
set_option maxHeartbeats 1000000 in
set_option maxRecDepth 20000 in
theorem equalInts_ok (l m : List Int) (W : World) (v u : Value) (hl : l.length ≤ reachN) (hm : m.length ≤ reachN) (hv : IntsV W W.heap.size v l) (hu : IntsV W W.heap.size u m) :
    Calls Try.prog 38 #[v, u] W fun e W' => e = .returned (.bool (decide (l = m))) ∧ Grew W W' := by
  obtain ⟨a, cap, rfl, hA⟩ := hv
  obtain ⟨b, cap', rfl, hB⟩ := hu
  unfold reachN at hl hm
  go_enter Try.func38, Try.ntmps38
  by_cases hlen : l.length = m.length
  · have hne : ((l.length : Int) != (m.length : Int)) = false := by rw [hlen]; simp
    have HLN := Lib.hid hlen
    rw [hlen]
    rw [hlen] at hne
    clear hlen
    go_wp2
    go_loopw [13] (fun i wr => ∃ (j : Nat), i = .int .i64 j ∧ j ≤ m.length ∧ Hid (∀ i (h1 : i < l.length) (h2 : i < m.length), i < j → l[i] = m[i]) ∧ Hid (Grew W wr)) (fun i _ => m.length - (intOf i).toNat)
    case atStart => exact ⟨0, rfl, by omega, fun i _ _ h => absurd h (by omega), Grew.refl W⟩
    case round =>
      obtain ⟨j, rfl, hj, hf, hbw⟩ := hrel
      by_cases hlt : j < m.length
      · have hlt' : j < l.length := by rw [HLN.out]; exact hlt
        obtain ⟨b1, o1, rfl, hb1, hc1⟩ := hA j hlt'
        obtain ⟨b2, o2, rfl, hb2, hc2⟩ := hB j hlt
        have hz := hbw.out.size
        have d1 : wr.cell? ⟨b1, o1 + j, none⟩ = some (.int .i64 l[j]) := by rw [hbw.out.cells _ _ hb1]; exact hc1
        have d2 : wr.cell? ⟨b2, o2 + j, none⟩ = some (.int .i64 m[j]) := by rw [hbw.out.cells _ _ hb2]; exact hc2
        have l1 : b1 < wr.heap.size := by omega
        have l2 : b2 < wr.heap.size := by omega
        clear hA hB hc1 hc2 hb1 hb2 hz
        by_cases heq : l[j] = m[j]
        · have hne2 : (l[j] != m[j]) = false := by rw [heq]; simp
          have HEQ := Lib.hid heq
          rw [heq] at d1
          clear heq hne2
          go_wp2_with fail
          refine wp_region_hav_lit follows (by kernel_rfl) ?_
          repeat (first
            | (refine HavG.skip (fun _ => rfl) ?_; simp only [Act.put, List.setIfInBounds_toArray, List.set_cons_zero, List.set_cons_succ])
            | (refine HavG.val (fun _ => rfl) ?_ (fun x w hw _ => ?_) ?_; rotate_left; (focus (have hc := hw.cells; clear hw; go_simp; first | done | rfl)); simp only [Act.put, List.setIfInBounds_toArray, List.set_cons_zero, List.set_cons_succ]))
          refine HavG.tail (by kernel_rfl) (by kernel_rfl) (fun x w2 hw _ => ?_)
          have HW := Lib.hid hw
          clear hw
          go_wp2_with fail
          exact ⟨⟨j + 1, by go_num, by omega, fun i h1 h2 h3 => by
            by_cases e : i = j
            · subst e; exact HEQ.out
            · exact hf.out i h1 h2 (by omega), hbw.out.trans HW.out⟩, by simp [intOf]; omega⟩
        · have hne2 : (l[j] != m[j]) = true := by simpa using heq
          have HEQ := Lib.hid heq
          clear heq
          go_wp2_with fail
          refine wp_region_hav_lit follows (by kernel_rfl) ?_
          repeat (first
            | (refine HavG.skip (fun _ => rfl) ?_; simp only [Act.put, List.setIfInBounds_toArray, List.set_cons_zero, List.set_cons_succ])
            | (refine HavG.val (fun _ => rfl) ?_ (fun x w hw _ => ?_) ?_; rotate_left; (focus (have hc := hw.cells; clear hw; go_simp; first | done | rfl)); simp only [Act.put, List.setIfInBounds_toArray, List.set_cons_zero, List.set_cons_succ]))
          refine HavG.tail (by kernel_rfl) (by kernel_rfl) (fun x w2 hw _ => ?_)
          have HW := Lib.hid hw
          clear hw
          go_wp2_with fail
          go_ret
          refine ⟨ret_bool ?_, hbw.out.trans HW.out⟩
          symm
          rw [decide_eq_false_iff_not]
          intro e
          subst e
          exact HEQ.out rfl
      · go_wp2_with fail
        go_ret
        refine ⟨ret_bool ?_, hbw.out⟩
        symm
        rw [decide_eq_true_eq]
        exact List.ext_getElem HLN.out fun i h1 h2 => hf.out i h1 h2 (by omega)
  · have hne : ((l.length : Int) != (m.length : Int)) = true := by simp; omega
    have HLN := Lib.hid hlen
    clear hlen
    go_wp2
    go_ret
    refine ⟨ret_bool ?_, Grew.refl W⟩
    symm
    rw [decide_eq_false_iff_not]
    exact fun e => HLN.out (by rw [e])
end Go.Proofs.Ytgdcnndmdgcjlaa

/- slices.Grow of nil, slices.Concat of integers. -/
namespace Go.Proofs.Ytgdcnndmdgcjlaa
open Go.RowKit
section
variable {P : Program} (w : World)
theorem wpList_append_run {ops : Array Oper} {rest : List Oper} {o : Oper} {a : Act} {Q : Exit → Act → World → Prop} {w' : World} (hgd : o.guard = none) (s x : Operand) (t tn : TypeId)
    (ho : o.op = .call { callee := .builtin .append, args := #[s, x], argTypes := #[t, tn] }) (vs vx v : Value) (hs : a.eval s = vs) (hx : a.eval x = vx)
    (hr : (Builtin.append_ #[t, tn] o.type #[vs, vx]).run P w = .ok v w') (h : wpList P ops Q rest (a.put o.dst v) w') : wpList P ops Q (o :: rest) a w :=
  wpList_plain hgd fun _ hK => by
    unfold Oper.wp execOp
    simp only [ho, resolve, invoke, builtin, Sem.run_bind, Sem.run_pure, Result.andThen_ok, List.map_toArray, List.map_cons, List.map_nil, hs, hx, hr]
    exact hK _ _ h
theorem run_append_nothing (t ty : TypeId) (base : Nat) (e : TypeId) (i : TypeInfo) (size : Nat) (ht : P.underlying t = some (.slice e)) (hi : P.info? e = some i) (hsize : i.size = size)
    (v : Value) (n : Nat) (xs : List Value) (hown : looseRow w base e size v n xs) (ad : Option Addr) (c : Nat) :
    (Builtin.append_ #[t, t] ty #[v, .slice ad 0 c]).run P w = .ok v w := by
  subst hsize
  have hf : (Builtin.firstCells i.size 0 (.slice ad 0 c)).run P w = .ok #[] w := by
    cases ad with
    | none => simp [Builtin.firstCells]
    | some a => simp [Builtin.firstCells, loadCells, loadCellsFrom]
  rcases hown.2 with ⟨rfl, rfl⟩ | ⟨g, cap, cur, rfl, hbg, hg, hnc, hcm, hcs, htake⟩
  · simp [Builtin.append_, run_underlying ht, sizeOf, typeInfo, hi, Builtin.lenOf, hf]
  · simp [Builtin.append_, run_underlying ht, sizeOf, typeInfo, hi, Builtin.lenOf, hf, hnc, storeCells]
end
theorem info_int : (Try.prog.info? 3).map (fun i => (i.zero, i.size, i.bytes)) = some (some (.int .i64 0), 1, 8) := by kernel_rfl
def intVs (l : List Int) : List Value := l.map fun i => .int .i64 i
theorem intVs_len (l : List Int) : (intVs l).length = l.length * 1 := by simp [intVs]
set_option maxHeartbeats 1000000 in
set_option maxRecDepth 20000 in
theorem grow_ints (n : Nat) (hn : n ≤ 1000000) (W : World) : Calls Try.prog 49 #[.slice none 0 0, .int .i64 n] W fun e W' => ∃ v, e = .returned v ∧ looseRow W' 0 3 1 v 0 [] ∧ Grew W W' ∧ (∀ g, v.ownBlock = some g → W.heap.size ≤ g) := by
  obtain ⟨i0, hi, hz0, hz1, hz2⟩ := info_parts info_int
  by_cases h0 : n = 0
  · subst h0
    clear hi hz0 hz1 hz2
    have e0 : IntKind.i64.wrap 0 = 0 := by decide
    go_enter Try.func49, Try.ntmps49
    go_wp2_with fail
    go_ret
    exact ⟨_, rfl, ⟨rfl, .inl ⟨rfl, rfl⟩⟩, Grew.refl W, fun g hg => by cases hg⟩
  · have hw : IntKind.i64.wrap (n : Int) = n := by rw [IntKind.wrap_i64]; omega
    have e0 : IntKind.i64.wrap 0 = 0 := by decide
    have h1 : ¬ ((n : Int) < 0) := by omega
    have h2 : (n : Int) > 0 := by omega
    have hap : ∀ ty, (Builtin.append_ #[23, 3] ty #[.slice none 0 0, .int .i64 n]).run Try.prog W = .ok (.slice (some ⟨W.heap.size, 0, none⟩) n (grownCap W n 0 3)) (W.drew.alloc (.cells (Builtin.zeroCells (Value.int .i64 0).cells n ++ Builtin.zeroCells (Value.int .i64 0).cells (grownCap W n 0 3 - n)) 3)) := by
      intro ty
      have := Lib.run_append_grow_zeros W 23 3 ty 3 i0 (.int .i64 0) .i64 .i64 Try.underlying23 Try.underlying3 hi hz0 none 0 0 [] (by rw [hz1]; exact run_firstCells_none W.drew 1 0 0 0) n (by omega) (by omega) (by omega) (by omega) (by rw [hz2]; omega) (by rw [hz2]; exact growslice_fits (by omega) (by omega))
      simpa using this
    have hge := grownCap_ge W n 0 3
    have hle := grownCap_le_maxLen W n 0 3 (by unfold maxLen; omega)
    generalize grownCap W n 0 3 = c at *
    have hsz : (Builtin.zeroCells (Value.int .i64 0).cells n ++ Builtin.zeroCells (Value.int .i64 0).cells (c - n)).size = c := by
      rw [Array.size_append, size_zeroCells, size_zeroCells]
      simp [Value.cells]
      omega
    generalize Builtin.zeroCells (Value.int .i64 0).cells n ++ Builtin.zeroCells (Value.int .i64 0).cells (c - n) = cs at *
    have HSZ := Lib.hid hsz
    clear hi hz0 hz1 hz2 hsz
    go_enter Try.func49, Try.ntmps49
    go_wp2_with (at_builtin; refine wpList_append_run _ rfl _ _ 23 3 rfl _ _ _ rfl rfl (hap _) ?_)
    go_ret
    refine ⟨_, rfl, ⟨rfl, .inr ⟨W.heap.size, c, cs, rfl, Nat.zero_le _, ?_, by omega, hle, by have := HSZ.out; omega, by simp⟩⟩, ?_, fun g hg => ?_⟩
    · show (W.heap.push _)[W.heap.size]? = _
      simp
    · exact (grew_alloc W (.cells cs 3)).drew
    · simp [Value.ownBlock] at hg
      omega
theorem run_append_nothing0 (v : Value) (n : Nat) (xs : List Value) (w : World) (h : looseRow w 0 3 1 v n xs) (ad : Option Addr) (c : Nat) : ∀ ty, (Builtin.append_ #[23, 23] ty #[v, .slice ad 0 c]).run Try.prog w = .ok v w := by
  obtain ⟨i0, hi, hz0, hz1, hz2⟩ := info_parts info_int
  exact fun ty => run_append_nothing w 23 ty 0 3 i0 1 Try.underlying23 hi hz1 v n xs h ad c
def lens : List (List Int) → Nat
  | [] => 0
  | l :: r => l.length + lens r
theorem lens_take_succ (L : List (List Int)) (j : Nat) (h : j < L.length) : lens (L.take (j + 1)) = lens (L.take j) + L[j].length := by
  induction L generalizing j with
  | nil => exact absurd h (by simp)
  | cons l r ih =>
    cases j with
    | zero => simp [lens]
    | succ j =>
      simp only [List.take_succ_cons, lens, List.getElem_cons_succ]
      rw [ih j (by simpa using h)]
      omega
theorem lens_take_le (L : List (List Int)) : ∀ j, lens (L.take j) ≤ lens L := by
  induction L with
  | nil => intro j; simp [lens]
  | cons l r ih =>
    intro j
    cases j with
    | zero => simp [lens]
    | succ j => simp only [List.take_succ_cons, lens]; have := ih j; omega
theorem intVs_flat_succ (L : List (List Int)) (j : Nat) (h : j < L.length) : intVs (L.take (j + 1)).flatten = intVs (L.take j).flatten ++ intVs L[j] := by
  unfold intVs
  rw [List.take_succ_eq_append_getElem h, List.flatten_append, List.map_append]
  simp
theorem flat_len (L : List (List Int)) : L.flatten.length = lens L := by
  induction L with
  | nil => rfl
  | cons l r ih => simp [lens, ih]
structure Upto (W : World) (L : List (List Int)) (j : Nat) (v : Value) (w : World) : Prop where
  row : looseRow w 0 3 1 v (lens (L.take j)) (intVs (L.take j).flatten)
  low : Grew W w
  own : ∀ g, v.ownBlock = some g → W.heap.size ≤ g
set_option maxHeartbeats 1000000 in
set_option maxRecDepth 20000 in
theorem concatInts_ok (L : List (List Int)) (vs : List Value) (hlen : vs.length = L.length) (hsum : lens L ≤ 1000000) (hL : L.length ≤ 1000) (W : World) (rb rc : Nat) (hrb : rb < W.heap.size) (hcell : ∀ k (h : k < vs.length), W.cell? ⟨rb, k, none⟩ = some vs[k])
    (hv : ∀ k (h : k < vs.length) (h2 : k < L.length), IntsV W W.heap.size vs[k] L[k]) :
    Calls Try.prog 35 #[.slice (some ⟨rb, 0, none⟩) L.length rc] W fun e W' => ∃ v, e = .returned v ∧ IntsV W' W'.heap.size v L.flatten ∧ Grew W W' := by
  go_enter Try.func35, Try.ntmps35
  go_wp2_with fail
  go_loopw [3, 11] (fun s c wr => ∃ (j : Nat), c = .int .i64 j ∧ s = .int .i64 (lens (L.take j) : Nat) ∧ j ≤ L.length ∧ wr = W) (fun _ c _ => L.length - (intOf c).toNat)
  case atStart => exact ⟨0, rfl, by simp [lens], by omega, rfl⟩
  case round =>
    obtain ⟨j, rfl, rfl, hj, rfl⟩ := hrel
    by_cases hlt : j < L.length
    · have hlt2 : j < vs.length := by omega
      have hc := hcell j hlt2
      obtain ⟨a, cap, hvv, hA⟩ := hv j hlt2 hlt
      rw [hvv] at hc
      have hs := lens_take_succ L j hlt
      have hs2 := lens_take_le L (j + 1)
      have hwr : IntKind.i64.wrap (((lens (L.take j) : Nat) : Int) + ((L[j].length : Nat) : Int)) = ((lens (L.take (j + 1)) : Nat) : Int) := by rw [IntKind.wrap_i64]; omega
      have hnn : ¬ (((lens (L.take (j + 1)) : Nat) : Int) < 0) := by omega
      have HS := Lib.hid hs
      clear hs hs2 hA hvv hcell hv
      go_wp2_with fail
      exact ⟨⟨j + 1, by go_num, rfl, by omega, trivial⟩, by simp [intOf]; omega⟩
    · have hjl : j = L.length := by omega
      subst hjl
      rw [List.take_length]
      have HG := Lib.hid (grow_ints (lens L) hsum wr)
      go_wp2_with (refine HG.out.mono ?_; rintro e w2 ⟨v0, rfl, hr0, hg0, ho0⟩; have HR0 := Lib.hid hr0; have HG0 := Lib.hid hg0; have HO0 := Lib.hid ho0; clear hr0 hg0 ho0)
      clear hlt hj
      obtain ⟨i0, hi, hz0, hz1, hz2⟩ := info_parts info_int
      have HI := Lib.hid hi
      have HZ0 := Lib.hid hz0
      have HZ1 := Lib.hid hz1
      have HZ2 := Lib.hid hz2
      have HV := Lib.hid hv
      have HC := Lib.hid hcell
      have HLL := Lib.hid hlen
      have HSU := Lib.hid hsum
      obtain ⟨wo, rfl⟩ : ∃ wo : World, wo = wr := ⟨_, rfl⟩
      clear hi hz0 hz1 hz2 hv hcell hsum hlen
      go_loopw [6, 27] (fun v c w => ∃ (j : Nat), c = .int .i64 j ∧ j ≤ L.length ∧ Hid (Upto wo L j v w)) (fun _ c _ => L.length - (intOf c).toNat)
      case atStart => exact ⟨0, rfl, by omega, HR0.out, HG0.out, HO0.out⟩
      case round =>
        obtain ⟨j, rfl, hj, hup⟩ := hrel
        by_cases hlt : j < L.length
        · have hlt2 : j < vs.length := by have := HLL.out; omega
          have hc := (hup.out.low.cells _ _ hrb).trans (HC.out j hlt2)
          obtain ⟨a, cap, hvv, hA⟩ := HV.out j hlt2 hlt
          rw [hvv] at hc
          have hrl : rb < wr.heap.size := by have := hup.out.low.size; omega
          have hs := lens_take_succ L j hlt
          have hfs := intVs_flat_succ L j hlt
          have hle := lens_take_le L (j + 1)
          have hsu := HSU.out
          by_cases hz : L[j] = []
          · have hl0 : L[j].length = 0 := by rw [hz]; rfl
            rw [hl0] at hc hs
            have hnext : Upto wo L (j + 1) u6 wr := by
              refine ⟨?_, hup.out.low, hup.out.own⟩
              rw [hs, hfs, hz, Nat.add_zero]
              simpa [intVs] using hup.out.row
            have HN := Lib.hid hnext
            have hap := run_append_nothing0 u6 _ _ wr hup.out.row a cap
            have HAP := Lib.hid hap
            clear hap hs hfs hle hsu hz hl0 hA hvv hnext hup
            go_wp2_with (at_builtin; refine wpList_append_run _ rfl _ _ 23 23 rfl _ _ _ rfl rfl (HAP.out _) ?_)
            exact ⟨⟨j + 1, by go_num, by omega, HN.out⟩, by simp [intOf]; omega⟩
          · have hpos : 0 < L[j].length := by cases h : L[j] with | nil => exact absurd h hz | cons _ _ => simp
            obtain ⟨b, off, rfl, hb, hcz⟩ := hA 0 hpos
            clear hcz
            have hnews : ∀ k u, (intVs L[j])[k]? = some u → wr.cell? ((⟨b, off, none⟩ : Addr).add k) = some u := by
              intro k u hk
              unfold intVs at hk
              rw [List.getElem?_map] at hk
              obtain ⟨x, hx, rfl⟩ := Option.map_eq_some_iff.1 hk
              obtain ⟨hkl, hkx⟩ := List.getElem?_eq_some_iff.1 hx
              obtain ⟨b', o', he, hb', hcell⟩ := hA k hkl
              simp at he
              obtain ⟨rfl, rfl⟩ := he
              rw [padd_off, hup.out.low.cells _ _ hb', hcell, hkx]
            have hone : ∀ u ∈ intVs L[j], u.oneCell' = true := by
              intro u hu
              obtain ⟨x, _, rfl⟩ := List.mem_map.1 hu
              rfl
            have HNW := Lib.hid hnews
            have HON := Lib.hid hone
            have HLE := Lib.hid (intVs_len L[j])
            have h63 : lens (L.take j) + L[j].length ≤ maxLen := by unfold maxLen; omega
            have h64 : (lens (L.take j) + L[j].length) * 8 ≤ 140737488355328 := by omega
            have H63 := Lib.hid h63
            have H64 := Lib.hid h64
            have HP := Lib.hid hpos
            have HS := Lib.hid (And.intro hs hfs)
            clear hnews hone h63 h64 hpos hz hA hvv hb hs hfs hle hsu
            go_wp2_with (at_builtin; refine wpList_append_loose _ rfl _ _ 23 rfl 0 3 i0 _ 1 8 Try.underlying23 HI.out HZ0.out HZ1.out HZ2.out rfl (by decide) u6 (lens (L.take j)) (intVs (L.take j).flatten) rfl hup.out.row ⟨b, off, none⟩ L[j].length cap (intVs L[j]) rfl HLE.out HNW.out HON.out HP.out H63.out H64.out (Nat.zero_le _) _ rfl ?_; intro g cap' w7 hown hgrow hat hlt7; have HOWN := Lib.hid hown; have HGROW := Lib.hid hgrow; have HAT := Lib.hid hat; clear hown hgrow hat hlt7)
            have hnext : Upto wo L (j + 1) (.slice (some ⟨g, 0, none⟩) (lens (L.take j) + L[j].length) cap') w7 := by
              refine ⟨?_, ?_, ?_⟩
              · rw [HS.out.1, HS.out.2]; exact HOWN.out
              · exact ⟨HGROW.out.os.trans hup.out.low.os, HGROW.out.tape.trans hup.out.low.tape, HGROW.out.output.trans hup.out.low.output, Nat.le_trans hup.out.low.size HGROW.out.size, fun k hk => by
                  rw [HGROW.out.block k (Nat.lt_of_lt_of_le hk hup.out.low.size) (fun e => by have := hup.out.own k e.symm; omega), hup.out.low.block k hk]⟩
              · intro g' hg'
                simp [Value.ownBlock] at hg'
                subst hg'
                rcases HAT.out with h1 | h1
                · exact hup.out.own _ h1
                · have := hup.out.low.size; omega
            have HN := Lib.hid hnext
            clear hnext
            exact ⟨⟨j + 1, by go_num, by omega, HN.out⟩, by simp [intOf]; omega⟩
        · have hjl : j = L.length := by omega
          subst hjl
          go_wp2_with fail
          go_ret
          refine ⟨u6, rfl, ?_, hup.out.low⟩
          have hrow := hup.out.row
          rw [List.take_length] at hrow
          rcases hrow.2 with ⟨h1, h2⟩ | ⟨g, cap, cur, h1, h2, h3, h4, h5, h6, h7⟩
          · refine ⟨none, 0, by rw [h1, flat_len, h2], fun k hk => ?_⟩
            rw [flat_len, h2] at hk
            exact absurd hk (by omega)
          · refine ⟨some ⟨g, 0, none⟩, cap, by rw [h1, flat_len], fun k hk => ⟨g, 0, rfl, (Array.getElem?_eq_some_iff.1 h3).1, ?_⟩⟩
            rw [Nat.zero_add]
            exact looseRow_cells hrow (g := g) (by rw [h1]; rfl) k _ (by unfold intVs; rw [List.getElem?_map, List.getElem?_eq_getElem hk]; rfl)
end Go.Proofs.Ytgdcnndmdgcjlaa

/- (atns.State).may: may a state of a net be? -/
namespace Go.Proofs.Ytgdcnndmdgcjlaa
open Go.RowKit
def okN (n : Nat) (i : Int) : Bool := decide (0 ≤ i) && decide (i < n)
def Net.mostOf (N : Net) (k : Int) : Int := if k = 2 then N.starts.length else if k = 3 then N.preds.length else 1
def Edg.mayB (N : Net) (e : Edg) : Bool := !(decide (3 < e.kind) || decide (e.what < 0) || (e.kind != 1 && decide (N.mostOf e.kind ≤ e.what)) || !okN N.states.length e.to)
def Sta.decides (s : Sta) : Bool := decide (s.ends.length = s.edges.length) && decide (2 ≤ s.ends.length) && !(s.edges.any fun e => !(e.kind == 0))
def Sta.mayB (N : Net) (s : Sta) : Bool := s.edges.all (Edg.mayB N) && (decide (s.ends.length = 0) || (s.decides && !(s.ends.any fun i => !okN N.states.length i)))
theorem enters32 : Enters 32 := fun _ _ => by kernel_rfl
theorem enters33 : Enters 33 := fun _ _ => by kernel_rfl
theorem enters36 : Enters 36 := fun _ _ => by kernel_rfl
theorem enters50 : Enters 50 := fun _ _ => by kernel_rfl
theorem enters51 : Enters 51 := fun _ _ => by kernel_rfl
theorem enters53 : Enters 53 := fun _ _ => by kernel_rfl
theorem enters54 : Enters 54 := fun _ _ => by kernel_rfl
theorem AMay1_ok (i : Int) (nb n cap : Nat) (a : Option Addr) (W : World) (hc : W.cell? ⟨nb, 0, none⟩ = some (.slice a n cap)) :
    Calls Try.prog 32 (#[.int .i64 i] ++ #[.pointer (some ⟨nb, 0, none⟩)]) W fun e W' => e = .returned (.bool (okN n i)) ∧ Grew W W' := by
  simp only [List.append_toArray, List.cons_append, List.nil_append]
  by_cases h0 : 0 ≤ i
  · have hd : decide (0 ≤ i) = true := decide_eq_true h0
    go_enter Try.func32, Try.ntmps32
    go_wp2_with fail
    go_ret
    exact ⟨ret_bool (by unfold okN; simp [h0]), Grew.refl W⟩
  · have hd : decide (0 ≤ i) = false := decide_eq_false h0
    go_enter Try.func32, Try.ntmps32
    go_wp2_with fail
    go_ret
    exact ⟨ret_bool (by unfold okN; simp; omega), Grew.refl W⟩
theorem smay1_ok (i : Int) (nb n cap : Nat) (a : Option Addr) (W : World) (hc : W.cell? ⟨nb, 0, none⟩ = some (.slice a n cap)) :
    Calls Try.prog 50 (#[.int .i64 i] ++ #[.pointer (some ⟨nb, 0, none⟩)]) W fun e W' => e = .returned (.bool (okN n i)) ∧ Grew W W' := by
  simp only [List.append_toArray, List.cons_append, List.nil_append]
  by_cases h0 : 0 ≤ i
  · have hd : decide (0 ≤ i) = true := decide_eq_true h0
    go_enter Try.func50, Try.ntmps50
    go_wp2_with fail
    go_ret
    exact ⟨ret_bool (by unfold okN; simp [h0]), Grew.refl W⟩
  · have hd : decide (0 ≤ i) = false := decide_eq_false h0
    go_enter Try.func50, Try.ntmps50
    go_wp2_with fail
    go_ret
    exact ⟨ret_bool (by unfold okN; simp; omega), Grew.refl W⟩
theorem AMay2_ok (i : Int) (fb nb n cap : Nat) (a : Option Addr) (W : World) (hc : W.cell? ⟨nb, 0, none⟩ = some (.slice a n cap)) (hf : W.cell? ⟨fb, 0, none⟩ = some (.func (.func 32) #[] #[.pointer (some ⟨nb, 0, none⟩)])) :
    Calls Try.prog 33 (#[.int .i64 i] ++ #[.pointer (some ⟨fb, 0, none⟩)]) W fun e W' => e = .returned (.bool (!okN n i)) ∧ Grew W W' := by
  simp only [List.append_toArray, List.cons_append, List.nil_append]
  have hS := Lib.hid (AMay1_ok i nb n cap a W hc)
  have hF := enters32
  unfold Enters at hF
  clear hc
  go_enter Try.func33, Try.ntmps33
  go_wp2_with (refine hS.out.mono ?_; rintro e w' ⟨rfl, hb⟩)
  go_ret
  exact ⟨rfl, hb⟩
theorem smay4_ok (i : Int) (fb nb n cap : Nat) (a : Option Addr) (W : World) (hc : W.cell? ⟨nb, 0, none⟩ = some (.slice a n cap)) (hf : W.cell? ⟨fb, 0, none⟩ = some (.func (.func 50) #[] #[.pointer (some ⟨nb, 0, none⟩)])) :
    Calls Try.prog 54 (#[.int .i64 i] ++ #[.pointer (some ⟨fb, 0, none⟩)]) W fun e W' => e = .returned (.bool (!okN n i)) ∧ Grew W W' := by
  simp only [List.append_toArray, List.cons_append, List.nil_append]
  have hS := Lib.hid (smay1_ok i nb n cap a W hc)
  have hF := enters50
  unfold Enters at hF
  clear hc
  go_enter Try.func54, Try.ntmps54
  go_wp2_with (refine hS.out.mono ?_; rintro e w' ⟨rfl, hb⟩)
  go_ret
  exact ⟨rfl, hb⟩
theorem AMay3_ok (i : Int) (nb n cap : Nat) (hn : n ≤ 1000000000) (a : Option Addr) (W : World) (hc : W.cell? ⟨nb, 0, none⟩ = some (.slice a n cap)) :
    Calls Try.prog 36 (#[.int .i64 i] ++ #[.pointer (some ⟨nb, 0, none⟩)]) W fun e W' => e = .returned (.bool (decide (i < 0) || decide ((n : Int) - 1 ≤ i))) ∧ Grew W W' := by
  simp only [List.append_toArray, List.cons_append, List.nil_append]
  have hw : IntKind.i64.wrap ((n : Int) - 1) = (n : Int) - 1 := by rw [IntKind.wrap_i64]; omega
  by_cases h0 : i < 0
  · have hd : decide (i < 0) = true := decide_eq_true h0
    go_enter Try.func36, Try.ntmps36
    go_wp2_with fail
    go_ret
    exact ⟨ret_bool (by simp [h0]), Grew.refl W⟩
  · have hd : decide (i < 0) = false := decide_eq_false h0
    go_enter Try.func36, Try.ntmps36
    go_wp2_with fail
    go_ret
    exact ⟨rfl, Grew.refl W⟩
theorem smay2_ok (e : Edg) (W : World) : Calls Try.prog 51 #[.agg #[.int .u8 e.kind, .int .i64 e.what, .int .i64 e.to]] W fun r W' => r = .returned (.bool (e.kind == 0)) ∧ Grew W W' := by
  go_enter Try.func51, Try.ntmps51
  go_wp2_with fail
  go_ret
  exact ⟨rfl, grew_alloc _ _⟩
theorem smay3_ok (e : Edg) (fb : Nat) (W : World) (hf : W.cell? ⟨fb, 0, none⟩ = some (.func (.func 51) #[] #[])) : Calls Try.prog 53 (#[.agg #[.int .u8 e.kind, .int .i64 e.what, .int .i64 e.to]] ++ #[.pointer (some ⟨fb, 0, none⟩)]) W fun r W' => r = .returned (.bool (!(e.kind == 0))) ∧ Grew W W' := by
  simp only [List.append_toArray, List.cons_append, List.nil_append]
  have hg := grew_alloc W (.cells #[.int .u8 e.kind, .int .i64 e.what, .int .i64 e.to] 87)
  have hS := Lib.hid (smay2_ok e (W.alloc (.cells #[.int .u8 e.kind, .int .i64 e.what, .int .i64 e.to] 87)))
  have hlt : fb < W.heap.size := by
    rcases Nat.lt_or_ge fb W.heap.size with h' | h'
    · exact h'
    · simp [World.cell?, Array.getElem?_eq_none h'] at hf
  have hF := enters51
  unfold Enters at hF
  have HG := Lib.hid hg
  clear hg
  go_enter Try.func53, Try.ntmps53
  go_wp2_with (refine hS.out.mono ?_; rintro e w' ⟨rfl, hb⟩)
  go_ret
  exact ⟨rfl, HG.out.trans hb⟩
end Go.Proofs.Ytgdcnndmdgcjlaa

/- (atns.State).may: the function itself. -/
namespace Go.Proofs.Ytgdcnndmdgcjlaa
open Go.RowKit
theorem all_upto {α : Type} {l : List α} {q : α → Bool} (h : ∀ i (hi : i < l.length), q l[i] = true) : l.all q = true := by
  rw [List.all_eq_true]
  intro x hx
  obtain ⟨i, hi, rfl⟩ := List.mem_iff_getElem.1 hx
  exact h i hi
theorem all_not {α : Type} {l : List α} {q : α → Bool} {i : Nat} (hi : i < l.length) (h : q l[i] = false) : l.all q = false := by
  rw [List.all_eq_false]
  exact ⟨l[i], List.getElem_mem hi, by rw [h]; simp⟩
structure SmayAt (N : Net) (W w : World) (s : Sta) (ea : Option Addr) (ec : Nat) (na : Option Addr) (nc : Nat) (n0 n1 n2 n3 n4 v0 v2 : Value) : Prop where
  low : Grew W w
  bs : Owns w W.heap.size [v0, .slice ea s.edges.length ec, v2] 51
  bn : Owns w (W.heap.size + 1) [n0, n1, n2, n3, n4] 25
  bf : Owns w (W.heap.size + 1 + 1) [.func (.func 50) #[] #[.pointer (some ⟨W.heap.size + 1, 0, none⟩)]] 95
theorem SmayAt.grew {N : Net} {W w w' : World} {s : Sta} {ea na : Option Addr} {ec nc : Nat} {n0 n1 n2 n3 n4 v0 v2 : Value} (h : SmayAt N W w s ea ec na nc n0 n1 n2 n3 n4 v0 v2) (hg : Grew w w') : SmayAt N W w' s ea ec na nc n0 n1 n2 n3 n4 v0 v2 :=
  ⟨h.low.trans hg, h.bs.keep hg, h.bn.keep hg, h.bf.keep hg⟩
theorem asks3 {w : World} {fb : Nat} (h : Owns w fb [.func (.func 51) #[] #[]] 129) (l : List Edg) : AskEdges 53 #[.pointer (some ⟨fb, 0, none⟩)] w l (fun e => !(e.kind == 0)) :=
  fun i hi W' hg => smay3_ok l[i] fb W' ((h.keep hg).cell_at (i := 0) rfl)
theorem asks4 {N : Net} {W w : World} {s : Sta} {ea na : Option Addr} {ec nc : Nat} {n1 n2 n3 n4 v0 v2 : Value} (h : SmayAt N W w s ea ec na nc (.slice na N.states.length nc) n1 n2 n3 n4 v0 v2) (l : List Int) :
    AskInts 54 #[.pointer (some ⟨W.heap.size + 1 + 1, 0, none⟩)] w l (fun i => !okN N.states.length i) :=
  fun i hi W' hg => smay4_ok l[i] (W.heap.size + 1 + 1) (W.heap.size + 1) N.states.length nc na W' (((h.grew hg).bn).cell_at (i := 0) rfl) (((h.grew hg).bf).cell_at (i := 0) rfl)
set_option maxHeartbeats 2000000 in
set_option maxRecDepth 20000 in
theorem smay_ok (N : Net) (s : Sta) (W : World) (n0 n1 n2 n3 n4 v0 v1 v2 : Value) (hB : NetAt W W.heap.size n0 n1 n2 n3 n4 N) (hS : SttAt W W.heap.size (some v0) (some v1) (some v2) s)
    (_ : N.states.length ≤ 1000000) (_ : N.starts.length ≤ 1000000) (_ : N.preds.length ≤ 1000000) (h4 : s.edges.length ≤ 1000000) (h5 : s.ends.length ≤ 1000000) :
    Calls Try.prog 37 #[.agg #[v0, v1, v2], .agg #[n0, n1, n2, n3, n4]] W fun e W' => e = .returned (.bool (s.mayB N)) ∧ Grew W W' := by
  obtain ⟨hr, ⟨ea, ec, he, hE⟩, za, zc, hz, hZ⟩ := hS
  cases hr
  cases he
  cases hz
  obtain ⟨na, nc, rfl, hN0⟩ := hB.states
  obtain ⟨ta, tc, rfl, hT⟩ := hB.starts
  obtain ⟨ua, uc, rfl, hU⟩ := hB.stops
  obtain ⟨pa, pc, rfl, hP⟩ := hB.preds
  obtain ⟨da, dc, rfl, hD⟩ := hB.decisions
  have g1 := grew_alloc W (.cells #[.int .i64 s.rule, .slice ea s.edges.length ec, .slice za s.ends.length zc] 51)
  have o1 := Owns.alloc W [.int .i64 s.rule, .slice ea s.edges.length ec, .slice za s.ends.length zc] 51
  have g2 := grew_alloc (W.alloc (.cells #[.int .i64 s.rule, .slice ea s.edges.length ec, .slice za s.ends.length zc] 51)) (.cells #[.slice na N.states.length nc, .slice ta N.starts.length tc, .slice ua N.stops.length uc, .slice pa N.preds.length pc, .slice da N.decisions.length dc] 25)
  have o2 := Owns.alloc (W.alloc (.cells #[.int .i64 s.rule, .slice ea s.edges.length ec, .slice za s.ends.length zc] 51)) [.slice na N.states.length nc, .slice ta N.starts.length tc, .slice ua N.stops.length uc, .slice pa N.preds.length pc, .slice da N.decisions.length dc] 25
  have g3 := grew_alloc ((W.alloc (.cells #[.int .i64 s.rule, .slice ea s.edges.length ec, .slice za s.ends.length zc] 51)).alloc (.cells #[.slice na N.states.length nc, .slice ta N.starts.length tc, .slice ua N.stops.length uc, .slice pa N.preds.length pc, .slice da N.decisions.length dc] 25)) (.cells #[.func (.func 50) #[] #[.pointer (some ⟨W.heap.size + 1, 0, none⟩)]] 95)
  have o3 := Owns.alloc ((W.alloc (.cells #[.int .i64 s.rule, .slice ea s.edges.length ec, .slice za s.ends.length zc] 51)).alloc (.cells #[.slice na N.states.length nc, .slice ta N.starts.length tc, .slice ua N.stops.length uc, .slice pa N.preds.length pc, .slice da N.decisions.length dc] 25)) [.func (.func 50) #[] #[.pointer (some ⟨W.heap.size + 1, 0, none⟩)]] 95
  have hSA : SmayAt N W (((W.alloc (.cells #[.int .i64 s.rule, .slice ea s.edges.length ec, .slice za s.ends.length zc] 51)).alloc (.cells #[.slice na N.states.length nc, .slice ta N.starts.length tc, .slice ua N.stops.length uc, .slice pa N.preds.length pc, .slice da N.decisions.length dc] 25)).alloc (.cells #[.func (.func 50) #[] #[.pointer (some ⟨W.heap.size + 1, 0, none⟩)]] 95)) s ea ec na nc (.slice na N.states.length nc) (.slice ta N.starts.length tc) (.slice ua N.stops.length uc) (.slice pa N.preds.length pc) (.slice da N.decisions.length dc) (.int .i64 s.rule) (.slice za s.ends.length zc) := by
    have z1 : ∀ (w : World) (o : Obj), (w.alloc o).heap.size = w.heap.size + 1 := fun w o => World.size_alloc w o
    rw [z1] at o2 o3
    rw [z1] at o3
    exact ⟨(g1.trans g2).trans g3, (o1.keep g2).keep g3, o2.keep g3, o3⟩
  have HSA := Lib.hid hSA
  have HE := Lib.hid hE
  have HZ := Lib.hid hZ
  clear g1 g2 g3 o1 o2 o3 hSA hE hZ hN0 hT hU hP hD hB
  go_enter Try.func37, Try.ntmps37
  go_wp2_with fail
  generalize ((W.alloc (.cells #[.int .i64 s.rule, .slice ea s.edges.length ec, .slice za s.ends.length zc] 51)).alloc (.cells #[.slice na N.states.length nc, .slice ta N.starts.length tc, .slice ua N.stops.length uc, .slice pa N.preds.length pc, .slice da N.decisions.length dc] 25)).alloc (.cells #[.func (.func 50) #[] #[.pointer (some ⟨W.heap.size + 1, 0, none⟩)]] 95) = w0 at *
  go_loopw [15] (fun i wr => ∃ (j : Nat), i = .int .i64 j ∧ j ≤ s.edges.length ∧ Hid (∀ i (h : i < s.edges.length), i < j → (s.edges[i]).mayB N = true) ∧ Hid (SmayAt N W wr s ea ec na nc (.slice na N.states.length nc) (.slice ta N.starts.length tc) (.slice ua N.stops.length uc) (.slice pa N.preds.length pc) (.slice da N.decisions.length dc) (.int .i64 s.rule) (.slice za s.ends.length zc))) (fun i _ => s.edges.length - (intOf i).toNat)
  case atStart =>
    exact ⟨0, rfl, by omega, fun i hi h => absurd h (by omega), HSA.out⟩
  case round =>
    obtain ⟨j, rfl, hj, hf, hsa⟩ := hrel
    by_cases hlt : j < s.edges.length
    · obtain ⟨b, off, rfl, hb, hc0, hc1, hc2⟩ := HE.out j hlt
      have d0 : wr.cell? ⟨b, off + j * 3, none⟩ = some (.int .u8 s.edges[j].kind) := by rw [hsa.out.low.cells _ _ hb]; exact hc0
      have d1 : wr.cell? ⟨b, off + j * 3 + 1, none⟩ = some (.int .i64 s.edges[j].what) := by rw [hsa.out.low.cells _ _ hb]; exact hc1
      have d2 : wr.cell? ⟨b, off + j * 3 + 2, none⟩ = some (.int .i64 s.edges[j].to) := by rw [hsa.out.low.cells _ _ hb]; exact hc2
      clear hc0 hc1 hc2 hb
      have hg := grew_alloc wr (.cells #[.int .u8 s.edges[j].kind, .int .i64 s.edges[j].what, .int .i64 s.edges[j].to] 87)
      have o1 := Owns.alloc wr [.int .u8 s.edges[j].kind, .int .i64 s.edges[j].what, .int .i64 s.edges[j].to] 87
      obtain ⟨w1, hw1⟩ : ∃ w1, wr.alloc (.cells #[.int .u8 s.edges[j].kind, .int .i64 s.edges[j].what, .int .i64 s.edges[j].to] 87) = w1 := ⟨_, rfl⟩
      change Owns (wr.alloc (.cells #[.int .u8 s.edges[j].kind, .int .i64 s.edges[j].what, .int .i64 s.edges[j].to] 87)) _ _ _ at o1
      rw [hw1] at hg o1
      have HS1 := hsa.out.grew hg
      have HW1 := Lib.hid HS1
      have HN := Lib.hid hf.out
      have e0 := o1.cell_at (i := 0) rfl
      have e1 := o1.cell_at (i := 1) rfl
      have e2 := o1.cell_at (i := 2) rfl
      have n0 := HS1.bn.cell_at (i := 0) rfl
      have n1 := HS1.bn.cell_at (i := 1) rfl
      have n3 := HS1.bn.cell_at (i := 3) rfl
      have f0 := HS1.bf.cell_at (i := 0) rfl
      have HC := Lib.hid (smay1_ok s.edges[j].to (W.heap.size + 1) N.states.length nc na w1 n0)
      have hB : Hid (Edg.mayB N s.edges[j] = !(decide (3 < s.edges[j].kind) || decide (s.edges[j].what < 0) || (s.edges[j].kind != 1 && decide (N.mostOf s.edges[j].kind ≤ s.edges[j].what)) || !okN N.states.length s.edges[j].to)) := Lib.hid rfl
      have hM : Hid (N.mostOf s.edges[j].kind = if s.edges[j].kind = 2 then (N.starts.length : Int) else if s.edges[j].kind = 3 then (N.preds.length : Int) else 1) := Lib.hid rfl
      have hNext : Hid (Edg.mayB N s.edges[j] = true → ∀ i (h : i < s.edges.length), i < j + 1 → (s.edges[i]).mayB N = true) := Lib.hid (by
        intro h i hi hij
        by_cases hq : i = j
        · subst hq; exact h
        · exact hf.out i hi (by omega))
      have hBad : Hid (Edg.mayB N s.edges[j] = false → s.mayB N = false) := Lib.hid (by
        intro h
        unfold Sta.mayB
        rw [all_not hlt h]; rfl)
      clear o1 hg HS1 hf hsa HSA HE
      generalize s.edges[j].kind = k at *
      generalize s.edges[j].what = a at *
      generalize s.edges[j].to = t at *
      have hF := enters50
      unfold Enters at hF
      have hcl : (k = 2) ∨ (k = 3) ∨ (k = 1) ∨ (k ≠ 1 ∧ k ≠ 2 ∧ k ≠ 3) := by omega
      obtain ⟨m, hm⟩ : ∃ m : Int, N.mostOf k = m := ⟨_, rfl⟩
      have hmM := Lib.hid hm
      rcases hcl with rfl | rfl | rfl | ⟨k1, k2, k3⟩
-- ways
      · have q1 : ((2 : Int) != 1) = true := by decide
        have hm' : m = (N.starts.length : Int) := by have := hM.out.symm.trans hm; simp at this; omega
        subst hm'
        clear hm
        by_cases a0 : a < 0
        · have ad : decide (a < 0) = true := decide_eq_true a0
          go_wp2_with fail
          go_ret
          exact ⟨ret_bool (hBad.out (by rw [hB.out, hmM.out]; simp; first | omega | (have := K.out; omega))).symm, HW1.out.low⟩
        · have ad : decide (a < 0) = false := decide_eq_false a0
          by_cases am : (N.starts.length : Int) ≤ a
          · have am' : decide ((N.starts.length : Int) ≤ a) = true := decide_eq_true am
            go_wp2_with fail
            go_ret
            exact ⟨ret_bool (hBad.out (by rw [hB.out, hmM.out]; simp; first | omega | (have := K.out; omega))).symm, HW1.out.low⟩
          · have am' : decide ((N.starts.length : Int) ≤ a) = false := decide_eq_false am
            cases hy : okN N.states.length t
            · rw [hy] at HC
              have HY := Lib.hid hy
              clear hy
              go_wp2_with (refine HC.out.mono ?_; rintro e w2 ⟨rfl, hb2⟩)
              go_ret
              exact ⟨ret_bool (hBad.out (by rw [hB.out, HY.out]; simp)).symm, (HW1.out.grew hb2).low⟩
            · rw [hy] at HC
              have HY := Lib.hid hy
              clear hy
              go_wp2_with (refine HC.out.mono ?_; rintro e w2 ⟨rfl, hb2⟩)
              exact ⟨⟨j + 1, by go_num, by omega, hNext.out (by rw [hB.out, HY.out, hmM.out]; simp; omega), HW1.out.grew hb2⟩, by simp [intOf]; omega⟩
      · have q1 : ((3 : Int) != 1) = true := by decide
        have hm' : m = (N.preds.length : Int) := by have := hM.out.symm.trans hm; simp at this; omega
        subst hm'
        clear hm
        by_cases a0 : a < 0
        · have ad : decide (a < 0) = true := decide_eq_true a0
          go_wp2_with fail
          go_ret
          exact ⟨ret_bool (hBad.out (by rw [hB.out, hmM.out]; simp; first | omega | (have := K.out; omega))).symm, HW1.out.low⟩
        · have ad : decide (a < 0) = false := decide_eq_false a0
          by_cases am : (N.preds.length : Int) ≤ a
          · have am' : decide ((N.preds.length : Int) ≤ a) = true := decide_eq_true am
            go_wp2_with fail
            go_ret
            exact ⟨ret_bool (hBad.out (by rw [hB.out, hmM.out]; simp; first | omega | (have := K.out; omega))).symm, HW1.out.low⟩
          · have am' : decide ((N.preds.length : Int) ≤ a) = false := decide_eq_false am
            cases hy : okN N.states.length t
            · rw [hy] at HC
              have HY := Lib.hid hy
              clear hy
              go_wp2_with (refine HC.out.mono ?_; rintro e w2 ⟨rfl, hb2⟩)
              go_ret
              exact ⟨ret_bool (hBad.out (by rw [hB.out, HY.out]; simp)).symm, (HW1.out.grew hb2).low⟩
            · rw [hy] at HC
              have HY := Lib.hid hy
              clear hy
              go_wp2_with (refine HC.out.mono ?_; rintro e w2 ⟨rfl, hb2⟩)
              exact ⟨⟨j + 1, by go_num, by omega, hNext.out (by rw [hB.out, HY.out, hmM.out]; simp; omega), HW1.out.grew hb2⟩, by simp [intOf]; omega⟩
      · have q1 : ((1 : Int) != 1) = false := by decide
        clear hm
        by_cases a0 : a < 0
        · have ad : decide (a < 0) = true := decide_eq_true a0
          go_wp2_with fail
          go_ret
          exact ⟨ret_bool (hBad.out (by rw [hB.out, hmM.out]; simp; first | omega | (have := K.out; omega))).symm, HW1.out.low⟩
        · have ad : decide (a < 0) = false := decide_eq_false a0
          cases hy : okN N.states.length t
          · rw [hy] at HC
            have HY := Lib.hid hy
            clear hy
            go_wp2_with (refine HC.out.mono ?_; rintro e w2 ⟨rfl, hb2⟩)
            go_ret
            exact ⟨ret_bool (hBad.out (by rw [hB.out, HY.out]; simp)).symm, (HW1.out.grew hb2).low⟩
          · rw [hy] at HC
            have HY := Lib.hid hy
            clear hy
            go_wp2_with (refine HC.out.mono ?_; rintro e w2 ⟨rfl, hb2⟩)
            exact ⟨⟨j + 1, by go_num, by omega, hNext.out (by rw [hB.out, HY.out, hmM.out]; simp; omega), HW1.out.grew hb2⟩, by simp [intOf]; omega⟩
      · have q1 : (k != 1) = true := by simp [k1]
        have q2 : (k == 2) = false := by simp [k2]
        have q3 : (k == 3) = false := by simp [k3]
        have hm' : m = 1 := by have := hM.out.symm.trans hm; rw [if_neg k2, if_neg k3] at this; omega
        subst hm'
        clear hm
        have K := Lib.hid (And.intro k1 (And.intro k2 k3))
        clear k1 k2 k3
        by_cases k9 : 3 < k
        · have q9 : decide (3 < k) = true := decide_eq_true k9
          go_wp2_with fail
          go_ret
          exact ⟨ret_bool (hBad.out (by rw [hB.out, hmM.out]; simp; first | omega | (have := K.out; omega))).symm, HW1.out.low⟩
        · have q9 : decide (3 < k) = false := decide_eq_false k9
          by_cases a0 : a < 0
          · have ad : decide (a < 0) = true := decide_eq_true a0
            go_wp2_with fail
            go_ret
            exact ⟨ret_bool (hBad.out (by rw [hB.out, hmM.out]; simp; first | omega | (have := K.out; omega))).symm, HW1.out.low⟩
          · have ad : decide (a < 0) = false := decide_eq_false a0
            by_cases am : (1 : Int) ≤ a
            · have am' : decide ((1 : Int) ≤ a) = true := decide_eq_true am
              go_wp2_with fail
              go_ret
              exact ⟨ret_bool (hBad.out (by rw [hB.out, hmM.out]; simp; first | omega | (have := K.out; omega))).symm, HW1.out.low⟩
            · have am' : decide ((1 : Int) ≤ a) = false := decide_eq_false am
              cases hy : okN N.states.length t
              · rw [hy] at HC
                have HY := Lib.hid hy
                clear hy
                go_wp2_with (refine HC.out.mono ?_; rintro e w2 ⟨rfl, hb2⟩)
                go_ret
                exact ⟨ret_bool (hBad.out (by rw [hB.out, HY.out]; simp)).symm, (HW1.out.grew hb2).low⟩
              · rw [hy] at HC
                have HY := Lib.hid hy
                clear hy
                go_wp2_with (refine HC.out.mono ?_; rintro e w2 ⟨rfl, hb2⟩)
                exact ⟨⟨j + 1, by go_num, by omega, hNext.out (by rw [hB.out, HY.out, hmM.out]; simp; omega), HW1.out.grew hb2⟩, by simp [intOf]; omega⟩
-- end of ways
    · have hje : j = s.edges.length := by omega
      subst hje
      have hall : s.edges.all (Edg.mayB N) = true := all_upto fun i hi => hf.out i hi hi
      have HA := Lib.hid hall
      have HW := Lib.hid hsa.out
      have hg := grew_alloc wr (.cells #[.func (.func 51) #[] #[]] 129)
      have o1 := Owns.alloc wr [.func (.func 51) #[] #[]] 129
      change Owns (wr.alloc (.cells #[.func (.func 51) #[] #[]] 129)) _ _ _ at o1
      obtain ⟨w1, hw1⟩ : ∃ w1, wr.alloc (.cells #[.func (.func 51) #[] #[]] 129) = w1 := ⟨_, rfl⟩
      rw [hw1] at hg o1
      have hs1 := hsa.out.grew hg
      have b1 := hs1.bs.cell_at (i := 1) rfl
      have b2 := hs1.bs.cell_at (i := 2) rfl
      have HC1 := Lib.hid (contEdges_ok s.edges (fun e => !(e.kind == 0)) 53 _ enters53 w1 ea ec (by unfold reachN; omega) ((HE.out.keep hs1.low).mono hs1.low.size) (asks3 o1 s.edges))
      have hIV : IntsV w1 w1.heap.size (.slice za s.ends.length zc) s.ends := ⟨za, zc, rfl, (HZ.out.keep hs1.low).mono hs1.low.size⟩
      have HC2 := Lib.hid fun w2 (hg2 : Grew w1 w2) => contInts_ok s.ends (fun i => !okN N.states.length i) 54 _ enters54 w2 _ (by unfold reachN; omega) ((hIV.keep hg2).mono hg2.size) (asks4 (hs1.grew hg2) s.ends)
      have HS1 := Lib.hid hs1
      have hSM : Hid (s.mayB N = (decide (s.ends.length = 0) || ((decide (s.ends.length = s.edges.length) && decide (2 ≤ s.ends.length) && !(s.edges.any fun e => !(e.kind == 0))) && !(s.ends.any fun i => !okN N.states.length i)))) := Lib.hid (by unfold Sta.mayB Sta.decides; rw [hall]; rfl)
      have Hall := Lib.hid hall
      clear hall hf hsa HSA hlt hj HE HZ hIV o1 hg hs1 HA HW
      generalize (s.edges.any fun e => !(e.kind == 0)) = c1 at *
      generalize (s.ends.any fun i => !okN N.states.length i) = c2 at *
      by_cases t1 : s.ends.length = s.edges.length
      · have r1 : ((s.ends.length : Int) == (s.edges.length : Int)) = true := by simp [t1]
        by_cases t2 : (2 : Int) ≤ s.ends.length
        · have r2 : decide ((2 : Int) ≤ s.ends.length) = true := decide_eq_true t2
          have r3 : ((s.ends.length : Int) == 0) = false := by simp; intro h; rw [h] at t2; simp at t2
          have T1 := Lib.hid (And.intro t1 t2)
          clear t1 t2
          cases c1
          · go_wp2_with (first | (go_at_call 52; refine HC1.out.mono ?_; rintro e w2 ⟨rfl, hb2⟩; have b3 := (HS1.out.grew hb2).bs.cell_at (i := 2) rfl) | (go_at_call 34; refine (HC2.out _ hb2).mono ?_; rintro e w3 ⟨rfl, hb3⟩))
            go_ret
            exact ⟨ret_bool (by have := T1.out; rw [hSM.out, decide_eq_false (p := s.ends.length = 0) (by omega), decide_eq_true T1.out.1, decide_eq_true (p := 2 ≤ s.ends.length) (by omega)]; cases c2 <;> rfl), (HS1.out.low.trans hb2).trans hb3⟩
          · go_wp2_with (go_at_call 52; refine HC1.out.mono ?_; rintro e w2 ⟨rfl, hb2⟩; have b3 := (HS1.out.grew hb2).bs.cell_at (i := 2) rfl)
            go_ret
            exact ⟨ret_bool (by have := T1.out; rw [hSM.out, decide_eq_false (p := s.ends.length = 0) (by omega), decide_eq_true T1.out.1, decide_eq_true (p := 2 ≤ s.ends.length) (by omega)]; cases c2 <;> rfl), HS1.out.low.trans hb2⟩
        · have r2 : decide ((2 : Int) ≤ s.ends.length) = false := decide_eq_false t2
          have T1 := Lib.hid t2
          clear t1 t2
          by_cases t3 : s.ends.length = 0
          · have r3 : ((s.ends.length : Int) == 0) = true := by simp [t3]
            have T3 := Lib.hid t3
            clear t3
            go_wp2_with fail
            go_ret
            exact ⟨ret_bool (by rw [hSM.out]; simp [T3.out]), HS1.out.low⟩
          · have r3 : ((s.ends.length : Int) == 0) = false := by simp; exact fun h => t3 (by simp [h])
            have T3 := Lib.hid t3
            clear t3
            go_wp2_with fail
            go_ret
            exact ⟨ret_bool (by have := T1.out; rw [hSM.out, decide_eq_false T3.out, decide_eq_false (p := 2 ≤ s.ends.length) (by omega)]; cases c1 <;> cases c2 <;> cases (decide (s.ends.length = s.edges.length)) <;> rfl), HS1.out.low⟩
      · have r1 : ((s.ends.length : Int) == (s.edges.length : Int)) = false := by simp; omega
        have T1 := Lib.hid t1
        clear t1
        by_cases t3 : s.ends.length = 0
        · have r3 : ((s.ends.length : Int) == 0) = true := by simp [t3]
          have T3 := Lib.hid t3
          clear t3
          go_wp2_with fail
          go_ret
          exact ⟨ret_bool (by rw [hSM.out]; simp [T3.out]), HS1.out.low⟩
        · have r3 : ((s.ends.length : Int) == 0) = false := by simp; exact fun h => t3 (by simp [h])
          have T3 := Lib.hid t3
          clear t3
          go_wp2_with fail
          go_ret
          exact ⟨ret_bool (by rw [hSM.out, decide_eq_false T3.out, decide_eq_false T1.out]; cases c1 <;> cases c2 <;> cases (decide (2 ≤ s.ends.length)) <;> rfl), HS1.out.low⟩
end Go.Proofs.Ytgdcnndmdgcjlaa
