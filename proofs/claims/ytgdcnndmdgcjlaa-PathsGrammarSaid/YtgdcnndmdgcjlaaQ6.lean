/- paths.call: a call more in memory, somebody more who waits; what the rounds over a call's ends keep. -/
import Derived.Deep.LoopGhost
import Derived.Deep.DeepCutAuto
import Derived.Test.YtgdcnndmdgcjlaaQ5
namespace Go.Proofs.Ytgdcnndmdgcjlaa
open Go.RowKit
section
variable {E : Env} {S S' S3 T T' : St} {w w' : World} {c : Nat × Nat}
theorem alloc_at (w : World) (o : Obj) : (w.alloc o).heap[w.heap.size]? = some o := by
  show (w.heap.push o)[w.heap.size]? = _
  simp
theorem alloc_size (w : World) (o : Obj) : (w.alloc o).heap.size = w.heap.size + 1 := by simp
theorem three_new (w : World) : Grew w (((w.alloc (.map #[] 0)).alloc (.map #[] 0)).alloc (.cells #[.map (some w.heap.size), .map (some (w.heap.size + 1))] 147)) ∧
    (((w.alloc (.map #[] 0)).alloc (.map #[] 0)).alloc (.cells #[.map (some w.heap.size), .map (some (w.heap.size + 1))] 147)).heap[w.heap.size]? = some (mapObj []) ∧
    (((w.alloc (.map #[] 0)).alloc (.map #[] 0)).alloc (.cells #[.map (some w.heap.size), .map (some (w.heap.size + 1))] 147)).heap[w.heap.size + 1]? = some (mapObj []) ∧
    Owns (((w.alloc (.map #[] 0)).alloc (.map #[] 0)).alloc (.cells #[.map (some w.heap.size), .map (some (w.heap.size + 1))] 147)) (w.heap.size + 2) [.map (some w.heap.size), .map (some (w.heap.size + 1))] 147 := by
  have g1 := grew_alloc w (.map #[] 0)
  have g2 := grew_alloc (w.alloc (.map #[] 0)) (.map #[] 0)
  have g3 := grew_alloc ((w.alloc (.map #[] 0)).alloc (.map #[] 0)) (.cells #[.map (some w.heap.size), .map (some (w.heap.size + 1))] 147)
  have a1 := alloc_at w (.map #[] 0)
  have a2 := alloc_at (w.alloc (.map #[] 0)) (.map #[] 0)
  have a3 := alloc_at ((w.alloc (.map #[] 0)).alloc (.map #[] 0)) (.cells #[.map (some w.heap.size), .map (some (w.heap.size + 1))] 147)
  rw [alloc_size] at a2
  rw [alloc_size, alloc_size] at a3
  refine ⟨(g1.trans g2).trans g3, ?_, ?_, a3⟩
  · rw [(g2.trans g3).block _ (by rw [alloc_size]; omega)]; exact a1
  · rw [g3.block _ (by rw [alloc_size, alloc_size]; omega)]; exact a2
theorem parts_keep {w w' : World} {eb xb cb : Nat} (hg : Grew w w') (he : w.heap[eb]? = some (mapObj [])) (hx : w.heap[xb]? = some (mapObj [])) (hc : Owns w cb [.map (some eb), .map (some xb)] 147) :
    w'.heap[eb]? = some (mapObj []) ∧ w'.heap[xb]? = some (mapObj []) ∧ Owns w' cb [.map (some eb), .map (some xb)] 147 :=
  ⟨by rw [hg.block _ (Array.getElem?_eq_some_iff.1 he).1]; exact he, by rw [hg.block _ (Array.getElem?_eq_some_iff.1 hx).1]; exact hx, hc.keep hg⟩
theorem parts_but {w w' : World} {eb xb cb m : Nat} (hg : But (fun b => b = m) w w') (hm : m < eb ∧ m < xb ∧ m < cb) (he : w.heap[eb]? = some (mapObj [])) (hx : w.heap[xb]? = some (mapObj [])) (hc : Owns w cb [.map (some eb), .map (some xb)] 147) :
    w'.heap[eb]? = some (mapObj []) ∧ w'.heap[xb]? = some (mapObj []) ∧ Owns w' cb [.map (some eb), .map (some xb)] 147 :=
  ⟨by rw [hg.block _ (Array.getElem?_eq_some_iff.1 he).1 (by omega)]; exact he, by rw [hg.block _ (Array.getElem?_eq_some_iff.1 hx).1 (by omega)]; exact hx, hg.owns hc (by omega)⟩
def NewMap (lo : Nat) (v : Value) (w : World) : Prop := ∃ mb, v = .map (some mb) ∧ lo ≤ mb ∧ w.heap[mb]? = some (mapObj [])
def NewPart (lo cb : Nat) (st : Int) (v : Value) (w : World) : Prop := ∃ mb, v = .agg #[.map (some mb), .pointer (some ⟨cb, 0, none⟩), .int .i64 st] ∧ lo ≤ mb ∧ w.heap[mb]? = some (mapObj [])
def NewWalk (lo cb : Nat) (st : Int) (v : Value) (w : World) : Prop := ∃ kb mb, v = .pointer (some ⟨kb, 0, none⟩) ∧ lo ≤ mb ∧ lo ≤ kb ∧ kb ≠ mb ∧ w.heap[mb]? = some (mapObj []) ∧ Owns w kb [.map (some mb), .pointer (some ⟨cb, 0, none⟩), .int .i64 st] 75
theorem NewMap.keep {lo : Nat} {v : Value} {w w' : World} (hg : Grew w w') (h : NewMap lo v w) : NewMap lo v w' := by
  obtain ⟨mb, h1, h2, h3⟩ := h
  exact ⟨mb, h1, h2, by rw [hg.block _ (Array.getElem?_eq_some_iff.1 h3).1]; exact h3⟩
theorem NewPart.keep {lo cb : Nat} {st : Int} {v : Value} {w w' : World} (hg : Grew w w') (h : NewPart lo cb st v w) : NewPart lo cb st v w' := by
  obtain ⟨mb, h1, h2, h3⟩ := h
  exact ⟨mb, h1, h2, by rw [hg.block _ (Array.getElem?_eq_some_iff.1 h3).1]; exact h3⟩
theorem NewWalk.keep {lo cb : Nat} {st : Int} {v : Value} {w w' : World} (hg : Grew w w') (h : NewWalk lo cb st v w) : NewWalk lo cb st v w' := by
  obtain ⟨kb, mb, h1, h2, h3, h4, h5, h6⟩ := h
  exact ⟨kb, mb, h1, h2, h3, h4, by rw [hg.block _ (Array.getElem?_eq_some_iff.1 h5).1]; exact h5, h6.keep hg⟩
theorem NewMap.made {lo : Nat} {w : World} (h : lo ≤ w.heap.size) : NewMap lo (.map (some w.heap.size)) (w.alloc (.map #[] 0)) := ⟨_, rfl, h, alloc_at _ _⟩
theorem NewWalk.made {lo cb mb : Nat} {st : Int} {w : World} (h : lo ≤ w.heap.size) (h1 : lo ≤ mb) (h2 : w.heap[mb]? = some (mapObj [])) :
    NewWalk lo cb st (.pointer (some ⟨w.heap.size, 0, none⟩)) (w.alloc (.cells #[.map (some mb), .pointer (some ⟨cb, 0, none⟩), .int .i64 st] 75)) := by
  have hml := (Array.getElem?_eq_some_iff.1 h2).1
  exact ⟨_, mb, rfl, h1, h, by omega, by rw [(grew_alloc _ _).block _ hml]; exact h2, Owns.alloc _ _ _⟩
def newLoc (loc : Role → Nat) (c : Nat × Nat) (cb eb xb kb sb : Nat) : Role → Nat
  | .call d => if d = c then cb else loc (.call d)
  | .ends d => if d = c then eb else loc (.ends d)
  | .waits d => if d = c then xb else loc (.waits d)
  | .walk κ => if κ = some c then kb else loc (.walk κ)
  | .seen κ => if κ = some c then sb else loc (.seen κ)
  | r => loc r
theorem newLoc_old {loc : Role → Nat} {cb eb xb kb sb : Nat} (hn : c ∉ S.calls) {r : Role} (hr : S.ex r) : newLoc loc c cb eb xb kb sb r = loc r := by
  cases r with
  | srch => rfl
  | cmap => rfl
  | call d => exact if_neg (fun (e : d = c) => hn (by rw [← e]; exact hr))
  | ends d => exact if_neg (fun (e : d = c) => hn (by rw [← e]; exact hr))
  | waits d => exact if_neg (fun (e : d = c) => hn (by rw [← e]; exact hr))
  | walk κ =>
    refine if_neg (fun e => hn ?_)
    subst e
    exact hr
  | seen κ =>
    refine if_neg (fun e => hn ?_)
    subst e
    exact hr
theorem Inv.fresh (h : Inv E S) (hn : c ∉ S.calls) : S.seen (some c) = [] ∧ S.ends c = [] ∧ S.waits c = [] := by
  have h1 : S.seen (some c) = [] := List.eq_nil_iff_forall_not_mem.2 fun p hp => hn (h.seenH _ p hp)
  refine ⟨h1, List.eq_nil_iff_forall_not_mem.2 fun i hi => ?_, List.eq_nil_iff_forall_not_mem.2 fun x hx => hn (h.waitsH c x hx)⟩
  have := (h.endsIff c i).1 hi
  rw [h1] at this
  cases this
theorem Rep.more (h : Rep E S w) (hI : Inv E S) (hn : c ∉ S.calls) {cb eb xb kb sb : Nat} {w0 : World}
    (hbut : But (fun b => b = S.loc .cmap) w w0) (hcm : w0.heap[S.loc .cmap]? = some (mapObj (S.callsL ++ [(plV c, ptrV cb)])))
    (he : w0.heap[eb]? = some (mapObj [])) (hx : w0.heap[xb]? = some (mapObj [])) (hc : Owns w0 cb [.map (some eb), .map (some xb)] 147)
    (hs : w0.heap[sb]? = some (mapObj [])) (hk : Owns w0 kb [.map (some sb), ptrV cb, .int .i64 (E.N.stops.getD c.1 0)] 75)
    (hnew : w.heap.size ≤ eb ∧ eb < xb ∧ xb < cb ∧ w.heap.size ≤ sb ∧ w.heap.size ≤ kb ∧ sb ≠ eb ∧ sb ≠ xb ∧ sb ≠ cb ∧ kb ≠ eb ∧ kb ≠ xb ∧ kb ≠ cb ∧ kb ≠ sb) :
    Rep E (S.more c (newLoc S.loc c cb eb xb kb sb)) w0 ∧ Frm S (S.more c (newLoc S.loc c cb eb xb kb sb)) w w0 := by
  obtain ⟨n1, n2, n3, n4, n5, n6, n7, n8, n9, n10, n11, n12⟩ := hnew
  obtain ⟨f1, f2, f3⟩ := hI.fresh hn
  have old : ∀ {r : Role}, S.ex r → newLoc S.loc c cb eb xb kb sb r = S.loc r := fun hr => newLoc_old hn hr
  have hl := h.lim_le
  -- which roles there are
  have cases_ : ∀ r, (S.more c (newLoc S.loc c cb eb xb kb sb)).ex r → S.ex r ∨ r = .call c ∨ r = .ends c ∨ r = .waits c ∨ r = .walk (some c) ∨ r = .seen (some c) := by
    have key : ∀ d, d ∈ S.calls ++ [c] → d ∈ S.calls ∨ d = c := fun d hd => by simpa using hd
    have key2 : ∀ κ, (S.more c (newLoc S.loc c cb eb xb kb sb)).has κ → S.has κ ∨ κ = some c := fun κ hκ => by
      cases κ with
      | none => exact .inl trivial
      | some d =>
        rcases key d hκ with h | h
        · exact .inl h
        · exact .inr (by rw [h])
    intro r hr
    cases r with
    | srch => exact .inl trivial
    | cmap => exact .inl trivial
    | call d => rcases key d hr with h | rfl; exact .inl h; exact .inr (.inl rfl)
    | ends d => rcases key d hr with h | rfl; exact .inl h; exact .inr (.inr (.inl rfl))
    | waits d => rcases key d hr with h | rfl; exact .inl h; exact .inr (.inr (.inr (.inl rfl)))
    | walk κ => rcases key2 κ hr with h | rfl; exact .inl h; exact .inr (.inr (.inr (.inr (.inl rfl))))
    | seen κ => rcases key2 κ hr with h | rfl; exact .inl h; exact .inr (.inr (.inr (.inr (.inr rfl))))
  have lc : newLoc S.loc c cb eb xb kb sb (.call c) = cb := if_pos rfl
  have le : newLoc S.loc c cb eb xb kb sb (.ends c) = eb := if_pos rfl
  have lx : newLoc S.loc c cb eb xb kb sb (.waits c) = xb := if_pos rfl
  have lk : newLoc S.loc c cb eb xb kb sb (.walk (some c)) = kb := if_pos rfl
  have ls : newLoc S.loc c cb eb xb kb sb (.seen (some c)) = sb := if_pos rfl
  have hwalks : ∀ d, (S.waits d).map (fun x => ((S.more c (newLoc S.loc c cb eb xb kb sb)).waitV x, unitV)) = (S.waits d).map (fun x => (S.waitV x, unitV)) := fun d =>
    List.map_congr_left fun x hx => by
      unfold St.waitV St.more
      simp only
      rw [old (r := .walk x.1) (hI.waitsR d x hx).1]
  -- the old ones
  have oldObj : ∀ r, S.ex r → r ≠ .cmap → (S.more c (newLoc S.loc c cb eb xb kb sb)).obj E r = S.obj E r := by
    intro r hr hne
    cases r with
    | cmap => exact absurd rfl hne
    | srch => rfl
    | seen κ => rfl
    | ends d => rfl
    | waits d =>
      unfold St.obj St.waitsL
      simp only
      rw [show (S.more c (newLoc S.loc c cb eb xb kb sb)).waits d = S.waits d from rfl, hwalks d]
    | call d =>
      unfold St.obj St.callL St.more
      simp only
      rw [old (r := .ends d) hr, old (r := .waits d) hr]
    | walk κ =>
      unfold St.obj St.walkL St.more
      simp only
      rw [old (r := .seen κ) hr]
      cases κ with
      | none => rfl
      | some d =>
        unfold St.ownV
        simp only
        rw [old (r := .call d) hr]
  have hcalls : (S.more c (newLoc S.loc c cb eb xb kb sb)).callsL = S.callsL ++ [(plV c, ptrV cb)] := by
    unfold St.callsL St.more
    simp only [List.map_append, List.map_cons, List.map_nil, lc]
    congr 1
    exact List.map_congr_left fun d hd => by rw [old (r := .call d) hd]
  have hobj : ∀ r, (S.more c (newLoc S.loc c cb eb xb kb sb)).ex r → w0.heap[(S.more c (newLoc S.loc c cb eb xb kb sb)).loc r]? = some ((S.more c (newLoc S.loc c cb eb xb kb sb)).obj E r) := by
    intro r hr
    show w0.heap[newLoc S.loc c cb eb xb kb sb r]? = _
    rcases cases_ r hr with h1 | rfl | rfl | rfl | rfl | rfl
    · rw [old h1]
      by_cases e : r = .cmap
      · subst e
        rw [hcm]
        unfold St.obj
        rw [hcalls]
      · rw [oldObj r h1 e, hbut.block _ (h.lt h1) (fun e2 => e (h.inj _ _ h1 trivial e2))]
        exact h.obj r h1
    · rw [lc]
      unfold St.obj St.callL St.more
      simp only [le, lx]
      exact hc
    · rw [le, he]
      unfold St.obj St.endsL St.more
      simp only [f2]
      rfl
    · rw [lx, hx]
      unfold St.obj St.waitsL St.more
      simp only [f3]
      rfl
    · rw [lk]
      unfold St.obj St.walkL St.ownV St.more
      simp only [ls, lc]
      exact hk
    · rw [ls, hs]
      unfold St.obj St.seenL St.more
      simp only [f1]
      rfl
  have hlt : ∀ {r}, S.ex r → S.loc r < w.heap.size := fun hr => h.lt hr
  refine ⟨⟨hobj, fun r hr => ?_, fun a b ha hb e => ?_, ?_⟩, ?_, fun b hb => ?_⟩
  · show E.lim ≤ newLoc S.loc c cb eb xb kb sb r
    rcases cases_ r hr with h1 | rfl | rfl | rfl | rfl | rfl
    · rw [old h1]; exact h.lo r h1
    · rw [lc]; omega
    · rw [le]; omega
    · rw [lx]; omega
    · rw [lk]; omega
    · rw [ls]; omega
  · have e' : newLoc S.loc c cb eb xb kb sb a = newLoc S.loc c cb eb xb kb sb b := e
    rcases cases_ a ha with h1 | rfl | rfl | rfl | rfl | rfl <;> rcases cases_ b hb with h2 | rfl | rfl | rfl | rfl | rfl <;>
      first
      | rfl
      | (rw [old h1, old h2] at e'; exact h.inj a b h1 h2 e')
      | (exfalso
         first
         | (have h3 := hlt h1; rw [old h1] at e'; simp only [lc, le, lx, lk, ls] at e'; omega)
         | (have h3 := hlt h2; rw [old h2] at e'; simp only [lc, le, lx, lk, ls] at e'; omega)
         | (simp only [lc, le, lx, lk, ls] at e'; omega))
  · have e1 : (S.more c (newLoc S.loc c cb eb xb kb sb)).todoCells = S.todoCells := by
      unfold St.todoCells St.more
      simp only
      have hh : ∀ x ∈ S.todo, newLoc S.loc c cb eb xb kb sb (.walk x.1) = S.loc (.walk x.1) := fun x hx => old (r := .walk x.1) (hI.seenH _ _ (hI.todoS x hx))
      rw [List.flatMap_def, List.flatMap_def]
      exact congrArg List.flatten (List.map_congr_left fun x hx => by rw [hh x hx])
    rw [e1]
    exact row_but h.row hbut fun g hg e => h.far (r := .cmap) trivial (by have h2 : S.tv.ownBlock = some g := hg; rw [h2, e])
  · exact ⟨hbut.os, hbut.tape, hbut.output, hbut.size, fun k hk' hm => hbut.block k hk' fun e => hm (.inl ⟨.cmap, trivial, e.symm⟩)⟩
  · rcases hb with ⟨r, hr, rfl⟩ | hb
    · show S.mine (newLoc S.loc c cb eb xb kb sb r) ∨ w.heap.size ≤ newLoc S.loc c cb eb xb kb sb r
      rcases cases_ r hr with h1 | rfl | rfl | rfl | rfl | rfl
      · rw [old h1]; exact .inl (.inl ⟨r, h1, rfl⟩)
      · rw [lc]; exact .inr (by omega)
      · rw [le]; exact .inr (by omega)
      · rw [lx]; exact .inr (by omega)
      · rw [lk]; exact .inr (by omega)
      · rw [ls]; exact .inr (by omega)
    · exact .inl (.inr hb)
theorem look_none (h : Rep E S w) (hn : c ∉ S.calls) : (Instr.lookup 90 (.map (some (S.loc .cmap))) (plV c) false).run Try.prog w = .ok (.pointer none) w := by
  rcases run_look (P := Try.prog) (t := 90) (kt := 71) (e := 73) (by kernel_rfl) h.callsM (key_at2 w c S.calls _) (show (zeroValue 73).run Try.prog w = .ok (.pointer none) w by kernel_rfl) with ⟨_, h2⟩ | ⟨x, hx, hf, _⟩
  · exact h2
  · obtain ⟨d, hd, rfl⟩ := List.mem_map.1 hx
    exact absurd (plV_inj (isV_true.1 hf) ▸ hd) hn
theorem look_some (h : Rep E S w) (hc : c ∈ S.calls) : (Instr.lookup 90 (.map (some (S.loc .cmap))) (plV c) false).run Try.prog w = .ok (ptrV (S.loc (.call c))) w := by
  rcases run_look (P := Try.prog) (t := 90) (kt := 71) (e := 73) (by kernel_rfl) h.callsM (key_at2 w c S.calls _) (show (zeroValue 73).run Try.prog w = .ok (.pointer none) w by kernel_rfl) with ⟨h2, _⟩ | ⟨x, hx, hf, h2⟩
  · have := h2 (plV c, ptrV (S.loc (.call c))) (List.mem_map.2 ⟨c, hc, rfl⟩)
    rw [isV_true.2 rfl] at this
    cases this
  · obtain ⟨d, hd, rfl⟩ := List.mem_map.1 hx
    have : d = c := plV_inj (isV_true.1 hf)
    subst this
    exact h2
theorem upd_calls (h : Rep E S w) (hn : c ∉ S.calls) (cb : Nat) : (Instr.mapUpdate 90 (.map (some (S.loc .cmap))) (plV c) (ptrV cb)).run Try.prog w = .ok () (putObj w (S.loc .cmap) (mapObj (S.callsL ++ [(plV c, ptrV cb)]))) :=
  run_update_new (x := ptrV cb) (P := Try.prog) (t := 90) (kt := 71) (e := 73) (by kernel_rfl) h.callsM (key_at2 w c S.calls _) fun x hx => by
    obtain ⟨d, hd, rfl⟩ := List.mem_map.1 hx
    exact isV_false.2 fun e => hn (plV_inj e ▸ hd)
def St.waitsN (S : St) (c : Nat × Nat) : List (Nat × Nat) := (S.waits c).map fun x => (S.loc (.walk x.1), x.2)
theorem waitsL_eq (S : St) (c : Nat × Nat) : S.waitsL c = (S.waitsN c).map fun q => (waitN q, unitV) := by
  unfold St.waitsL St.waitsN
  rw [List.map_map]
  rfl
theorem mem_waitsN (h : Rep E S w) (hI : Inv E S) {x : Key × Nat} (hx : S.has x.1) : (S.loc (.walk x.1), x.2) ∈ S.waitsN c ↔ x ∈ S.waits c := by
  unfold St.waitsN
  rw [List.mem_map]
  constructor
  · rintro ⟨y, hy, e⟩
    rw [Prod.mk.injEq] at e
    have h1 := h.inj (.walk y.1) (.walk x.1) (hI.waitsR c y hy).1 hx e.1
    simp only [Role.walk.injEq] at h1
    have : y = x := Prod.ext h1 e.2
    exact this ▸ hy
  · exact fun hx => ⟨x, hx, rfl⟩
theorem waits_own (h : Rep E S w) (hI : Inv E S) : ∀ q ∈ S.waitsN c, ∃ cs T, Owns w q.1 cs T := by
  intro q hq
  obtain ⟨x, hx, rfl⟩ := List.mem_map.1 hq
  exact ⟨_, _, h.walk (hI.waitsR c x hx).1⟩
theorem haswait_at (h : Rep E S w) (hI : Inv E S) (hc : c ∈ S.calls) (x : Key × Nat) (hx : S.has x.1) :
    Calls Try.prog 81 #[.map (some (S.loc (.waits c))), S.waitV x] w fun e W' => e = .returned (.bool (decide (x ∈ S.waits c))) ∧ Grew w W' := by
  have hm := h.waitsM hc
  rw [waitsL_eq] at hm
  have := haswait_ok w _ _ (S.loc (.walk x.1), x.2) hm ⟨_, _, h.walk hx⟩ (waits_own h hI)
  rw [show decide ((S.loc (.walk x.1), x.2) ∈ S.waitsN c) = decide (x ∈ S.waits c) from decide_eq_decide.2 (mem_waitsN h hI hx)] at this
  exact this
theorem upd_waits (h : Rep E S w) (hI : Inv E S) (hc : c ∈ S.calls) {x : Key × Nat} (hx : S.has x.1) (hn : x ∉ S.waits c) :
    (Instr.mapUpdate 145 (.map (some (S.loc (.waits c)))) (S.waitV x) unitV).run Try.prog w = .ok () (putObj w (S.loc (.waits c)) (mapObj (S.waitsL c ++ [(S.waitV x, unitV)]))) := by
  have hm := h.waitsM hc
  have hm' := hm
  rw [waitsL_eq] at hm'
  have := run_update_new (x := unitV) (P := Try.prog) (t := 145) (kt := 149) (e := 122) (by kernel_rfl) hm' (key_wait w (S.waitsN c) (S.loc (.walk x.1), x.2) ⟨_, _, h.walk hx⟩ (waits_own h hI)) fun y hy => by
    obtain ⟨q, hq, rfl⟩ := List.mem_map.1 hy
    exact isV_false.2 fun e => hn ((mem_waitsN h hI hx).1 (waitN_inj _ _ e ▸ hq))
  rw [waitsL_eq]
  exact this
theorem put_wait_at (h : Rep E S w) (hc : c ∈ S.calls) (x : Key × Nat) {w1 : World} (he : putObj w (S.loc (.waits c)) (mapObj (S.waitsL c ++ [(S.waitV x, unitV)])) = w1) : Rep E (S.wait c x) w1 ∧ Frm S (S.wait c x) w w1 := by
  subst he
  have e : (S.wait c x).obj E (.waits c) = mapObj (S.waitsL c ++ [(S.waitV x, unitV)]) := by
    unfold St.obj St.waitsL St.wait
    simp only [if_true, List.map_append, List.map_cons, List.map_nil]
    rfl
  rw [← e]
  refine h.put (r := .waits c) hc rfl (ex_same rfl) rfl rfl fun r' hr' => ?_
  cases r' with
  | waits k =>
    have : k ≠ c := fun e => hr' (by rw [e])
    unfold St.obj St.waitsL St.wait
    simp only [if_neg this]
    rfl
  | walk κ => rfl
  | _ => rfl
structure Called (E : Env) (S S' : St) (c : Nat × Nat) (x : Key × Nat) : Prop where
  inv : Inv E S'
  le : Le S S'
  there : c ∈ S'.calls
  waits : x ∈ S'.waits c
  begun : Begun E S → Begun E S'
  opn : ∀ d i y, Opn S' d i y → Opn S d i y
theorem Begun.mono (h : Begun E S) (hle : Le S S') (hc : S'.calls = S.calls) : Begun E S' := fun d hd => hle.seen _ _ (h d (hc ▸ hd))
structure CLoop (E : Env) (S3 : St) (c : Nat × Nat) (x : Key × Nat) (T : St) (seen : List Nat) : Prop where
  inv : Inv E T
  le : Le (S3.wait c x) T
  calls : T.calls = S3.calls
  waits : x ∈ T.waits c
  opn : ∀ d k y, Opn T d k y → Opn S3 d k y ∨ (d = c ∧ y = x ∧ k ∈ S3.ends c)
  got : ∀ j (h : j < (S3.ends c).length), j ∈ seen → (x.2, (S3.ends c)[j]) ∈ T.seen x.1
theorem CLoop.start {x : Key × Nat} (hI : Inv E (S3.wait c x)) : CLoop E S3 c x (S3.wait c x) [] :=
  ⟨hI, Le.refl _, rfl, (wait_mem S3 c x c x).2 (.inr ⟨rfl, rfl⟩), fun _ _ _ ho => wait_opn ho, fun j h hj => by cases hj⟩
theorem CLoop.pre {x : Key × Nat} {seen : List Nat} (h : CLoop E S3 c x T seen) : S3.ends c <+: T.ends c := h.le.ends c
theorem CLoop.next {x : Key × Nat} {seen : List Nat} (h : CLoop E S3 c x T seen) {j : Nat} (hj : j < (T.ends c).length) (hR : Reached E T T' x.1 (x.2, (T.ends c)[j])) : CLoop E S3 c x T' (seen ++ [j]) := by
  refine ⟨hR.inv, h.le.trans hR.le, hR.calls.trans h.calls, by rw [hR.waits]; exact h.waits, fun d k y ho => h.opn d k y (hR.opn d k y ho), fun m hm hmem => ?_⟩
  rcases List.mem_append.1 hmem with h1 | h1
  · exact hR.le.seen _ _ (h.got m hm h1)
  · simp at h1
    subst h1
    obtain ⟨l, hl⟩ := h.pre
    have e : (T.ends c)[m] = (S3.ends c)[m] := by
      have : (S3.ends c ++ l)[m]'(by simp; omega) = (S3.ends c)[m] := List.getElem_append_left hm
      rw [← this]
      congr 1
      exact hl.symm
    rw [← e]
    exact hR.got
theorem CLoop.done {x : Key × Nat} {seen : List Nat} (h : CLoop E S3 c x T seen) (hI : Inv E (S3.wait c x)) (hle : Le S S3) (hc : c ∈ S3.calls) (hb : Begun E S → Begun E S3) (ho : ∀ d i y, Opn S3 d i y → Opn S d i y)
    (hle4 : Le S3 (S3.wait c x)) (hall : ∀ j, j < (S3.ends c).length → j ∈ seen) : Called E S T c x := by
  have hle2 := hle4.trans h.le
  refine ⟨h.inv, hle.trans hle2, hle2.calls c hc, h.waits, fun hB => (hb hB).mono hle2 h.calls, fun d k y hop => ?_⟩
  rcases h.opn d k y hop with h1 | ⟨rfl, rfl, h3⟩
  · exact ho d k y h1
  · obtain ⟨j, hj, hx⟩ := List.mem_iff_getElem.1 h3
    have h4 := h.got j hj (hall j hj)
    rw [hx] at h4
    exact absurd h4 hop.2.2
theorem CLoop.live {x : Key × Nat} {seen : List Nat} (h : CLoop E S3 c x T seen) {j : Nat} (hj : j < (T.ends c).length) :
    T.has x.1 ∧ x.2 < E.N.states.length ∧ (T.ends c)[j] ≤ E.w.length ∧ Lv E.N E.w E.p0 E.over x.1 (x.2, (T.ends c)[j]) := by
  obtain ⟨h1, h2⟩ := h.inv.waitsR c x h.waits
  obtain ⟨s, e, h3, h4, h5, h6, h7, h8⟩ := h.inv.waitS c x h.waits
  have hm : (T.ends c)[j] ∈ T.ends c := List.getElem_mem hj
  have h9 := (h.inv.endsIff c _).1 hm
  refine ⟨h1, h2, (h.inv.seenR _ _ h9).2, ?_⟩
  rw [← h8]
  refine Lv.back h3 h4 h5 h6 ?_
  rw [h7]
  exact h.inv.sound _ _ h9
theorem Inv.ends_le (h : Inv E S) : (S.ends c).length ≤ E.w.length + 1 := by
  refine nodup_below (h.endsN c) fun i hi => ?_
  have := (h.seenR _ _ ((h.endsIff c i).1 hi)).2
  simp only at this
  omega
end
end Go.Proofs.Ytgdcnndmdgcjlaa

/- paths.reach: a place more of a walk, and all that comes of it. -/
namespace Go.Proofs.Ytgdcnndmdgcjlaa
open Go.RowKit
set_option maxHeartbeats 2000000 in
set_option maxRecDepth 20000 in
theorem reach_ok (E : Env) (hN : E.N.Ok) (wa : Option Addr) (wc : Nat) (hU : E.univ.length ≤ 1000000000000) (hwv : E.wv = .slice wa E.w.length wc) : ∀ (n : Nat) (S : St) (κ : Key) (p : Pl) (W : World), unseen E S = n → Rep E S W → Inv E S → S.has κ →
    p.1 < E.N.states.length ∧ p.2 ≤ E.w.length → Lv E.N E.w E.p0 E.over κ p →
    Calls Try.prog 45 #[ptrV (S.loc .srch), ptrV (S.loc (.walk κ)), plV p] W fun e W' => (∃ v, e = .returned v) ∧ ∃ S', Rep E S' W' ∧ Frm S S' W W' ∧ Reached E S S' κ p := by
  intro n
  induction n using Nat.strongRecOn with
  | _ n ih =>
  intro S κ p W hn hR hI hk hr hL
  have HIH := Lib.hid ih
  have HNn := Lib.hid hn
  clear ih hn
  have hg1 := grew_alloc W (.cells #[.int .i64 p.1, .int .i64 p.2] 71)
  have hR1 := hR.grew hg1
  have ob := Owns.alloc W [.int .i64 p.1, .int .i64 p.2] 71
  have hbl : W.heap.size < (W.alloc (.cells #[.int .i64 p.1, .int .i64 p.2] 71)).heap.size := by simp
  have hbm : ¬S.mine W.heap.size := hR.notmine (Nat.le_refl _)
  have b0 := ob.cell_at (i := 0) rfl
  have b1 := ob.cell_at (i := 1) rfl
  have k0 := (hR1.walk hk).cell_at (i := 0) rfl
  have kl := hR1.lt (r := .walk κ) hk
  have HR1 := Lib.hid hR1
  have HG1 := Lib.hid hg1
  have HI := Lib.hid hI
  have HL := Lib.hid hL
  have HR0 := Lib.hid hR
  have HO := Lib.hid ob
  have HHas := Lib.hid (fun w (hw : Grew (W.alloc (.cells #[.int .i64 p.1, .int .i64 p.2] 71)) w) => hasat_ok w _ (S.seen κ) p ((hR1.grew hw).seenM hk))
  have hTL := hI.todo_le
  have HB := Lib.hid hr
  clear hR1 hg1 hI hL hR ob hr
  unfold ptrV plV
  go_enter Try.func45, Try.ntmps45
  go_wp2_with fail
  generalize W.alloc (.cells #[.int .i64 p.1, .int .i64 p.2] 71) = w1 at *
  by_cases hs : p ∈ S.seen κ
  · rw [decide_eq_true hs] at HHas
    refine wp_region_hav_lit follows (by kernel_rfl) ?_
    repeat (first
      | (refine HavG.skip (fun _ => rfl) ?_; simp only [Act.put, List.setIfInBounds_toArray, List.set_cons_zero, List.set_cons_succ])
      | (refine HavG.val (fun _ => rfl) ?_ (fun x w hw _ => ?_) ?_; rotate_left; (focus (have hc := hw.cells; clear hw; go_simp; first | done | rfl)); simp only [Act.put, List.setIfInBounds_toArray, List.set_cons_zero, List.set_cons_succ]))
    refine HavG.tail (by kernel_rfl) (by kernel_rfl) (fun x w hw _ => ?_)
    have HX := Lib.hid (HHas.out w hw)
    have HW := Lib.hid hw
    clear hw
    go_wp2_with (refine HX.out.mono ?_; rintro e w2 ⟨rfl, hb2⟩; have HB2 := Lib.hid hb2; clear hb2)
    refine bodyPost_ret (results_none rfl _ _ _) rfl ?_
    exact ⟨⟨_, rfl⟩, S, HR1.out.grew (HW.out.trans HB2.out), Frm.grew (HG1.out.trans (HW.out.trans HB2.out)), HI.out, Le.refl S, hs, rfl, fun _ => rfl, fun _ _ _ h => h⟩
  · rw [decide_eq_false hs] at HHas
    have HS := Lib.hid hs
    refine wp_region_hav_lit follows (by kernel_rfl) ?_
    repeat (first
      | (refine HavG.skip (fun _ => rfl) ?_; simp only [Act.put, List.setIfInBounds_toArray, List.set_cons_zero, List.set_cons_succ])
      | (refine HavG.val (fun _ => rfl) ?_ (fun x w hw _ => ?_) ?_; rotate_left; (focus (have hc := hw.cells; clear hw; go_simp; first | done | rfl)); simp only [Act.put, List.setIfInBounds_toArray, List.set_cons_zero, List.set_cons_succ]))
    refine HavG.tail (by kernel_rfl) (by kernel_rfl) (fun x w hw _ => ?_)
    have HX := Lib.hid (HHas.out w hw)
    have HW := Lib.hid hw
    clear hw hs k0
    go_wp2_with (refine HX.out.mono ?_; rintro e w2 ⟨rfl, hb2⟩; have HB2 := Lib.hid hb2; clear hb2)
    -- the world behind the look
    have HG2 := Lib.hid (HW.out.trans HB2.out)
    have HR2 := Lib.hid (HR1.out.grew HG2.out)
    have HO2 := Lib.hid (HO.out.keep HG2.out)
    have k0 := (HR2.out.walk hk).cell_at (i := 0) rfl
    have kl2 := HR2.out.lt (r := .walk κ) hk
    have hbl2 := HO2.out.lt
    have b02 := HO2.out.cell_at (i := 0) rfl
    have b12 := HO2.out.cell_at (i := 1) rfl
    have HUp := Lib.hid (fun w (hw : Grew w2 w) => upd_seen (HR2.out.grew hw) hk HS.out)
    clear b0 b1 hbl kl HX HW HB2 HHas
    refine wp_region_hav_lit follows (by kernel_rfl) ?_
    repeat (first
      | (refine HavG.skip (fun _ => rfl) ?_; simp only [Act.put, List.setIfInBounds_toArray, List.set_cons_zero, List.set_cons_succ])
      | (refine HavG.val (fun _ => rfl) ?_ (fun x w hw _ => ?_) ?_; rotate_left; (focus (have hc := hw.cells; clear hw; go_simp; first | done | rfl)); simp only [Act.put, List.setIfInBounds_toArray, List.set_cons_zero, List.set_cons_succ]))
    refine HavG.tail (by kernel_rfl) (by kernel_rfl) (fun x w hw _ => ?_)
    have hupd := HUp.out w hw
    have HP := Lib.hid (put_seen (HR2.out.grew hw) hk p)
    generalize putObj w (S.loc (.seen κ)) (mapObj (((S.seen κ) ++ [p]).map fun q => (plV q, unitV))) = w3 at hupd HP
    unfold plV unitV at hupd
    have HF := Lib.hid (Frm.grew (S := S) hw)
    have HO3 := Lib.hid ((HO2.out.keep hw))
    clear hw k0 kl2 hbl2 b02 b12
    go_wp2_with fail
    clear hupd HUp
    have HR3 := Lib.hid HP.out.1
    have HF3 := Lib.hid (HF.out.trans HP.out.2)
    have hO3 := HP.out.2.owns HO3.out hbm
    have hlen : (((p.2 : Int) == (E.w.length : Int))) = (p.2 == E.w.length) := by
      rw [Bool.eq_iff_iff]; simp; omega
    -- all: were all taken?
    obtain ⟨i0, hi0, hz0, hz1, hz2⟩ := info_parts info_step
    have HI0 := Lib.hid hi0
    have HZ0 := Lib.hid hz0
    have HZ1 := Lib.hid hz1
    have HZ2 := Lib.hid hz2
    clear hi0 hz0 hz1 hz2
    obtain ⟨bv, hbv⟩ : ∃ bv, (S.all || (p.2 == E.w.length)) = bv := ⟨_, rfl⟩
    cases hal : S.all
    all_goals
      have s5 : w3.cell? ⟨S.loc .srch, 5, none⟩ = some (.slice wa E.w.length wc) := by rw [← hwv]; exact HR3.out.srch.cell_at (i := 5) rfl
      have s8 := HR3.out.srch.cell_at (i := 8) rfl
      have f8 := HR3.out.srch.free 8
      have sl := HR3.out.lt (r := .srch) trivial
      have b13 := hO3.1.cell_at (i := 1) rfl
      have hbl3 := hO3.1.lt
      have hl3 : (S.seenAnd κ p).loc = S.loc := rfl
      have ha3 : (S.seenAnd κ p).all = S.all := rfl
      rw [hl3] at s8 f8 sl
      rw [ha3, hal] at s8
      have HOO := Lib.hid hO3
      clear hO3 hl3 ha3
      refine wp_region_hav_lit follows (by kernel_rfl) ?_
      repeat (first
        | (refine HavG.skip (fun _ => rfl) ?_; simp only [Act.put, List.setIfInBounds_toArray, List.set_cons_zero, List.set_cons_succ])
        | (refine HavG.val (fun _ => rfl) ?_ (fun x w hw _ => ?_) ?_; rotate_left; (focus (have hc := hw.cells; clear hw; go_simp; first | done | rfl)); simp only [Act.put, List.setIfInBounds_toArray, List.set_cons_zero, List.set_cons_succ]))
      refine HavG.tail (by kernel_rfl) (by kernel_rfl) (fun x w hw _ => ?_)
      have c8 := (hw.cells _ 8 sl).trans s8
      have g8 := (hw.frees _ 8 sl).trans f8
      have HR4 := Lib.hid (HR3.out.grew hw)
      have HF4 := Lib.hid (HF3.out.trans (Frm.grew hw))
      have HO4 := Lib.hid (HOO.out.1.keep hw)
      clear hw s5 s8 f8 sl b13 hbl3
      rw [hal] at hbv
      simp only [Bool.true_or, Bool.false_or] at hbv
      have HBV := Lib.hid hbv
      have HBV0 : Hid ((S.all || (p.2 == E.w.length)) = bv) := by unfold Hid; rw [hal]; simpa using hbv
      clear hbv
      go_wp2_with fail
      generalize hw4 : w.setCell ⟨S.loc .srch, 8, none⟩ (.bool _) = w4
      have HP4 := Lib.hid (put_all_at HR4.out hw4 HBV.out)
      clear hw4 c8 g8
      have HF5 := Lib.hid (HF4.out.trans HP4.out.2)
      have HR5 := Lib.hid HP4.out.1
      have hO5 := HP4.out.2.owns HO4.out HOO.out.2
      clear HP4 HO4
      have l5 : ((S.seenAnd κ p).withAll bv).loc = S.loc := rfl
      have t5 : ((S.seenAnd κ p).withAll bv).tv = S.tv := rfl
      have s7 := HR5.out.srch.cell_at (i := 7) rfl
      have f7 := HR5.out.srch.free 7
      have sl := HR5.out.lt (r := .srch) trivial
      rw [l5] at s7 f7 sl
      rw [t5] at s7
      have b05 := hO5.1.cell_at (i := 0) rfl
      have b15 := hO5.1.cell_at (i := 1) rfl
      have hbl5 := hO5.1.lt
      have HO5 := Lib.hid hO5
      clear hO5 l5 t5
      refine wp_region_hav_lit follows (by kernel_rfl) ?_
      repeat (first
        | (refine HavG.skip (fun _ => rfl) ?_; simp only [Act.put, List.setIfInBounds_toArray, List.set_cons_zero, List.set_cons_succ])
        | (refine HavG.val (fun _ => rfl) ?_ (fun x w hw _ => ?_) ?_; rotate_left; (focus (have hc := hw.cells; clear hw; go_simp; first | done | rfl)); simp only [Act.put, List.setIfInBounds_toArray, List.set_cons_zero, List.set_cons_succ]))
      refine HavG.any (fun _ => rfl) (fun v w => ∃ sb, v = .slice (some ⟨sb, 0, none⟩) 1 1 ∧ Owns w sb [ptrV (S.loc (.walk κ)), .int .i64 p.1, .int .i64 p.2] 120) ?_ (fun x w hw _ => ?_) ?_
      · rintro v w w' hg ⟨sb, h1, h2⟩
        exact ⟨sb, h1, h2.keep hg⟩
      · have HW := Lib.hid hw
        clear hw
        go_simp
        exact ⟨grew_alloc _ _, Owns.alloc _ _ _⟩
      simp only [Act.put, List.setIfInBounds_toArray, List.set_cons_zero, List.set_cons_succ]
      refine HavG.tail0 (by kernel_rfl) (by kernel_rfl) (by kernel_rfl) (fun _ _ d _ _ h => by cases d <;> exact h) (by decide) (fun x w6 hw hx => ?_)
      have hx8 := hx _ (List.mem_append_right _ (List.mem_singleton.2 rfl))
      clear hx
      dsimp only at hx8
      generalize x (0 + 1 + 1 + 1 + 1 + 1 + 1 + 1 + 1) = y8 at *
      obtain ⟨sb, rfl, hosb⟩ := hx8
      have HR6 := Lib.hid (HR5.out.grew hw)
      have HF6 := Lib.hid (HF5.out.trans (Frm.grew hw))
      have HO6 := Lib.hid (HO5.out.1.keep hw)
      have HROW := Lib.hid (show looseRow w6 E.lim 120 3 S.tv S.todo.length S.todoCells from HR6.out.row)
      have HNS := Lib.hid (pnews hosb)
      have hlim : E.lim ≤ w6.heap.size := HR6.out.lim_le
      have h63 : S.todo.length + 1 ≤ maxLen := by unfold maxLen; omega
      have H63 := Lib.hid h63
      have h64 : (S.todo.length + 1) * 24 ≤ 140737488355328 := by omega
      have H64 := Lib.hid h64
      clear hw hosb h63 h64 s7 f7 sl b05 b15 hbl5
      go_wp2_with (at_builtin; refine wpList_append_loose w6 rfl _ _ 91 rfl E.lim 120 i0 _ 3 24 Try.underlying91 HI0.out HZ0.out HZ1.out HZ2.out rfl (by decide) S.tv S.todo.length S.todoCells rfl HROW.out ⟨sb, 0, none⟩ 1 1 [ptrV (S.loc (.walk κ)), .int .i64 p.1, .int .i64 p.2] rfl rfl HNS.out (step_one _ _ _) (by decide) H63.out H64.out hlim _ rfl ?_; intro g cap w7 hown hgrow hat hlt; have hs7 := far_srch HR6.out hgrow; have c7 : w7.cell? ⟨S.loc .srch, 7, none⟩ = some S.tv := hs7.cell_at (i := 7) rfl; have g7 : w7.frozen? ⟨S.loc .srch, 7, none⟩ = false := hs7.free 7; have HOWN := Lib.hid hown; have HGROW := Lib.hid hgrow; have HAT := Lib.hid hat; clear hown hgrow hat hs7)
      generalize hw8 : w7.setCell ⟨S.loc .srch, 7, none⟩ (.slice (some ⟨g, 0, none⟩) (S.todo.length + 1) cap) = w8
      have hP8 := put_todo_at HR6.out (κ, p) (HGROW.out) HOWN.out rfl HAT.out hw8
      have hO8 := hP8.2.owns HO6.out HO5.out.2
      have HF8 := Lib.hid (HF6.out.trans hP8.2)
      have HR8 := Lib.hid hP8.1
      clear hP8 hw8 c7 g7 HGROW HOWN HAT HROW HNS H63 H64 hlim HO6 HF6 HR6 HO5 HR5 HF5 hlt
      have b0 := hO8.1.cell_at (i := 0) rfl
      have b1 := hO8.1.cell_at (i := 1) rfl
      have hbl := hO8.1.lt
      have HO8 := Lib.hid hO8
      clear hO8
      rcases κ with _ | c
      · have k1 : w8.cell? ⟨S.loc (.walk none), 1, none⟩ = some (.pointer none) := (HR8.out.walk (κ := none) trivial).cell_at (i := 1) rfl
        have kl : S.loc (.walk none) < w8.heap.size := HR8.out.lt (r := .walk none) trivial
        refine wp_region_hav_lit follows (by kernel_rfl) ?_
        repeat (first
          | (refine HavG.skip (fun _ => rfl) ?_; simp only [Act.put, List.setIfInBounds_toArray, List.set_cons_zero, List.set_cons_succ])
          | (refine HavG.val (fun _ => rfl) ?_ (fun x w hw _ => ?_) ?_; rotate_left; (focus (have hc := hw.cells; clear hw; go_simp; first | done | rfl)); simp only [Act.put, List.setIfInBounds_toArray, List.set_cons_zero, List.set_cons_succ]))
        refine HavG.tail (by kernel_rfl) (by kernel_rfl) (fun x w hw _ => ?_)
        have HFw := Lib.hid (HF8.out.trans (Frm.grew hw))
        have HRw := Lib.hid (HR8.out.grew hw)
        clear hw b0 b1 hbl k1 kl
        go_wp2_with fail
        refine bodyPost_ret (results_none rfl _ _ _) rfl ?_
        have hno : ∀ c, ¬((none : Key) = some c ∧ p.1 = E.N.stop c.1) := fun c h => by cases h.1
        refine ⟨⟨_, rfl⟩, _, HRw.out, (Frm.grew (HG1.out.trans HG2.out)).trans HFw.out, ?_⟩
        rw [see_eq HBV0.out hno]
        exact see_done HI.out hk HS.out HB.out HL.out hno
      · have hc : c ∈ S.calls := hk
        have hst := (hN.stop c.1 (HI.out.callR c hc).1).1
        have hst2 : E.N.stops.getD c.1 0 = (E.N.stop c.1 : Int) := by unfold Net.stop; omega
        clear hst
        have k1 : w8.cell? ⟨S.loc (.walk (some c)), 1, none⟩ = some (.pointer (some ⟨S.loc (.call c), 0, none⟩)) := (HR8.out.walk (κ := some c) hc).cell_at (i := 1) rfl
        have k2 : w8.cell? ⟨S.loc (.walk (some c)), 2, none⟩ = some (.int .i64 (E.N.stop c.1)) := by rw [← hst2]; exact (HR8.out.walk (κ := some c) hc).cell_at (i := 2) rfl
        have kl : S.loc (.walk (some c)) < w8.heap.size := HR8.out.lt (r := .walk (some c)) hc
        clear hst2
        by_cases hq : p.1 = E.N.stop c.1
        · have hne : ((p.1 : Int) != (E.N.stop c.1 : Int)) = false := by simp; omega
          have hnoe : p.2 ∉ S.ends c := fun h => HS.out (by have := (HI.out.endsIff c p.2).1 h; rw [← hq] at this; exact this)
          have q0 : w8.cell? ⟨S.loc (.call c), 0, none⟩ = some (.map (some (S.loc (.ends c)))) := (HR8.out.call hc).cell_at (i := 0) rfl
          have ql : S.loc (.call c) < w8.heap.size := HR8.out.lt (r := .call c) hc
          have HH2 := Lib.hid (fun w (hw : Grew w8 w) => hasint_ok w _ (S.ends c) p.2 ((HR8.out.grew hw).endsM hc))
          rw [decide_eq_false hnoe] at HH2
          have HQ := Lib.hid hq
          have HNE := Lib.hid hnoe
          clear hq hnoe
          refine wp_region_hav_lit follows (by kernel_rfl) ?_
          repeat (first
            | (refine HavG.skip (fun _ => rfl) ?_; simp only [Act.put, List.setIfInBounds_toArray, List.set_cons_zero, List.set_cons_succ])
            | (refine HavG.val (fun _ => rfl) ?_ (fun x w hw _ => ?_) ?_; rotate_left; (focus (have hc := hw.cells; clear hw; go_simp; first | done | rfl)); simp only [Act.put, List.setIfInBounds_toArray, List.set_cons_zero, List.set_cons_succ]))
          refine HavG.tail (by kernel_rfl) (by kernel_rfl) (fun x w hw _ => ?_)
          have HX := Lib.hid (HH2.out w hw)
          have HW := Lib.hid hw
          clear hw b0 b1 hbl k1 k2 kl hne q0 ql
          go_wp2_with (refine HX.out.mono ?_; rintro e w9 ⟨rfl, hb9⟩; have HG9 := Lib.hid (HW.out.trans hb9); clear hb9)
          clear HX HW HH2
          have HR9 := Lib.hid (HR8.out.grew HG9.out)
          have HF9 := Lib.hid (HF8.out.trans (Frm.grew HG9.out))
          have HO9 := Lib.hid (HO8.out.1.keep HG9.out)
          have b1 := HO9.out.cell_at (i := 1) rfl
          have hbl := HO9.out.lt
          have k1 : w9.cell? ⟨S.loc (.walk (some c)), 1, none⟩ = some (.pointer (some ⟨S.loc (.call c), 0, none⟩)) := (HR9.out.walk (κ := some c) hc).cell_at (i := 1) rfl
          have kl : S.loc (.walk (some c)) < w9.heap.size := HR9.out.lt (r := .walk (some c)) hc
          have q0 : w9.cell? ⟨S.loc (.call c), 0, none⟩ = some (.map (some (S.loc (.ends c)))) := (HR9.out.call hc).cell_at (i := 0) rfl
          have ql : S.loc (.call c) < w9.heap.size := HR9.out.lt (r := .call c) hc
          have HUp2 := Lib.hid (fun w (hw : Grew w9 w) => upd_ends (HR9.out.grew hw) (c := c) hc (i := p.2) HNE.out)
          clear HR8 HF8
          refine wp_region_hav_lit follows (by kernel_rfl) ?_
          repeat (first
            | (refine HavG.skip (fun _ => rfl) ?_; simp only [Act.put, List.setIfInBounds_toArray, List.set_cons_zero, List.set_cons_succ])
            | (refine HavG.val (fun _ => rfl) ?_ (fun x w hw _ => ?_) ?_; rotate_left; (focus (have hc := hw.cells; clear hw; go_simp; first | done | rfl)); simp only [Act.put, List.setIfInBounds_toArray, List.set_cons_zero, List.set_cons_succ]))
          refine HavG.tail (by kernel_rfl) (by kernel_rfl) (fun x w hw _ => ?_)
          have hF10 := HF9.out.trans (Frm.grew hw)
          have hO10 := HO9.out.keep hw
          obtain ⟨w10, hw10⟩ : ∃ w10, putObj w (S.loc (.ends c)) (mapObj (((S.ends c) ++ [p.2]).map fun (q : Nat) => (.int .i64 q, unitV))) = w10 := ⟨_, rfl⟩
          have hupd2 : (Instr.mapUpdate 144 (.map (some (S.loc (.ends c)))) (.int .i64 p.2) (.agg #[])).run Try.prog w = .ok () w10 := by rw [← hw10]; exact HUp2.out w hw
          have hP10 := put_ends_at (HR9.out.grew hw) (c := c) hc p.2 hw10
          rw [see_eq2 HBV0.out HQ.out] at hP10
          generalize Value.slice (some ⟨g, 0, none⟩) (S.todo.length + 1) cap = v8 at *
          have hO11 := hP10.2.owns hO10 (fun hm => HO8.out.2 hm)
          have HF11 := Lib.hid (hF10.trans hP10.2)
          have HR11 := Lib.hid hP10.1
          clear hP10 hF10 hO10 hw10 HR9 HF9 HO9 HUp2 hw b1 hbl k1 kl q0 ql
          obtain ⟨S1, hS1⟩ : ∃ S1, S.see E (some c) p v8 = S1 := ⟨_, rfl⟩
          have hST := RLoop.start HI.out hc HS.out HB.out HL.out v8
          have hle1 := (HI.out.see (κ := some c) hc HS.out HB.out HL.out v8).2
          have hl1 : S1.loc = S.loc := by rw [← hS1]; rfl
          have hc1 : c ∈ S1.calls := by rw [← hS1]; exact hc
          have hm1 : (S1.waitsL c).length = (S.waits c).length := by rw [← hS1]; simp [St.waitsL, St.see]
          have hgot1 : p ∈ S1.seen (some c) := by rw [← hS1]; exact (see_seen S E (some c) p v8 _ _).2 (.inr ⟨rfl, rfl⟩)
          have HDone := Lib.hid (fun (T : St) (seen : List Nat) (h : RLoop E S S1 c p.2 T seen) => RLoop.done (v := v8) (by rw [hS1]; exact h) hle1)
          rw [hS1] at hST hle1 hO11
          simp only [hS1] at HF11 HR11
          have hrange := run_range_mapObj (P := Try.prog) (t := 145) (kt := 149) (e := 122) (by kernel_rfl) (HR11.out.waitsM hc1)
          rw [hm1, hl1] at hrange
          have k1 : w10.cell? ⟨S.loc (.walk (some c)), 1, none⟩ = some (.pointer (some ⟨S.loc (.call c), 0, none⟩)) := by rw [← hl1]; exact (HR11.out.walk (κ := some c) hc1).cell_at (i := 1) rfl
          have kl : S.loc (.walk (some c)) < w10.heap.size := by rw [← hl1]; exact HR11.out.lt (r := .walk (some c)) hc1
          have q1 : w10.cell? ⟨S.loc (.call c), 1, none⟩ = some (.map (some (S.loc (.waits c)))) := by rw [← hl1]; exact (HR11.out.call hc1).cell_at (i := 1) rfl
          have ql : S.loc (.call c) < w10.heap.size := by rw [← hl1]; exact HR11.out.lt (r := .call c) hc1
          have HS1 := Lib.hid hS1
          have HST := Lib.hid hST
          have HLE1 := Lib.hid hle1
          have HO11 := Lib.hid hO11
          have HL1 := Lib.hid hl1
          have HGOT1 := Lib.hid hgot1
          have HM1 := Lib.hid hm1
          clear hS1 hST hle1 hO11 hl1 hgot1 hm1
          go_wp2_with fail
          have hgA := grew_alloc w10 (.mapIter (some (S.loc (.waits c))) (S.waits c).length #[] (S.waits c).length)
          have hsd : Side S1 (w10.alloc (.mapIter (some (S.loc (.waits c))) (S.waits c).length #[] (S.waits c).length)) W.heap.size [.int .i64 p.1, .int .i64 p.2] 71 w10.heap.size (S.loc (.waits c)) (S.waits c).length [] (S.waits c).length :=
            ⟨HO11.out.1.keep hgA, HO11.out.2, by unfold IterAt; show (w10.heap.push _)[w10.heap.size]? = _; simp, HR11.out.notmine (Nat.le_refl _)⟩
          have HSD := Lib.hid hsd
          have HRA := Lib.hid (HR11.out.grew hgA)
          have HFA := Lib.hid (Frm.grew (S := S1) hgA)
          clear hsd hgA hrange k1 kl q1 ql hupd2
          obtain ⟨r, hr10⟩ : ∃ r, w10.heap.size = r := ⟨_, rfl⟩
          have HR10 := Lib.hid hr10
          rw [hr10] at HSD
          generalize w10.alloc (.mapIter (some (S.loc (.waits c))) (S.waits c).length #[] (S.waits c).length) = wA at *
          rw [hr10]
          clear hr10
          go_loopg [92] ((S.waits c).length) (fun k _ wr => ∃ (T : St) (seen : List Nat) (last : Nat), Hid (RLoop E S S1 c p.2 T seen) ∧ Hid (Rep E T wr) ∧ Hid (Frm S1 T w10 wr) ∧ Hid (Side T wr W.heap.size [.int .i64 p.1, .int .i64 p.2] 71 r (S.loc (.waits c)) (S.waits c).length seen last) ∧
            Hid (seen.Nodup ∧ (∀ j ∈ seen, j < (S.waits c).length) ∧ (seen ≠ [] → 1 ≤ last) ∧ k + seen.length = (S.waits c).length))
          case atStart =>
            exact ⟨S1, [], _, HST.out, HRA.out, HFA.out, HSD.out, ⟨List.nodup_nil, fun j hj => absurd hj (by simp), fun h => absurd rfl h, by simp⟩⟩
          case round =>
            obtain ⟨T, seen, last, hL, hRT, hFT, hSd, hk⟩ := hrel
            have hTl : T.loc (.waits c) = S.loc (.waits c) := (hL.out.le.loc (.waits c) hc1).trans (by rw [HL1.out])
            have hTs : T.loc .srch = S.loc .srch := (hL.out.le.loc .srch trivial).trans (by rw [HL1.out])
            have hcT : c ∈ T.calls := hL.out.le.calls c hc1
            have hwm : wr.heap[S.loc (.waits c)]? = some (mapObj (T.waitsL c)) := by rw [← hTl]; exact hRT.out.waitsM hcT
            have hlen : (T.waitsL c).length = (S.waits c).length := by simp [St.waitsL, hL.out.waits]
            have hnx := run_next_mapObj (P := Try.prog) hSd.out.it hwm hk.out.2.2.1 (by rw [hlen]; exact Nat.le_refl _) 0
            rcases hnx with ⟨hall, w1', hw1', hrun⟩ | ⟨j, hj, hns, w1', hw1', hrun⟩
            · have HALL := Lib.hid hall
              have HW1 := Lib.hid hw1'
              clear hall hw1' hTl hTs hcT hwm hlen
              go_wp2_with fail
              go_end0
              exact ⟨⟨_, rfl⟩, T, hRT.out.drew0 HW1.out, ((Frm.grew (HG1.out.trans HG2.out)).trans (HF11.out.trans hFT.out)).drew0 HW1.out, HDone.out T seen hL.out fun j hj => HALL.out j hj⟩
            · have hjm : j < (S.waits c).length := by rw [← hlen]; exact hj
              have hget : (T.waitsL c)[j] = (T.waitV (S.waits c)[j], unitV) := by simp [St.waitsL, hL.out.waits]
              have hlive := hL.out.live HI.out HL.out HQ.out hjm
              obtain ⟨w11, hw11⟩ : ∃ w11, putObj w1' r (.mapIter (some (S.loc (.waits c))) (S.waits c).length (seen ++ [j]).toArray (T.waitsL c).length) = w11 := ⟨_, rfl⟩
              rw [hw11, hget] at hrun
              have hsd1 := hSd.out.step hw1' j (T.waitsL c).length
              rw [hw11] at hsd1
              have hR11 := hRT.out.step hw1' hSd.out.itn (.mapIter (some (S.loc (.waits c))) (S.waits c).length (seen ++ [j]).toArray (T.waitsL c).length)
              rw [hw11] at hR11
              have hF11 := hFT.out.newer (But.step hw1' r (.mapIter (some (S.loc (.waits c))) (S.waits c).length (seen ++ [j]).toArray (T.waitsL c).length)) (Nat.le_of_eq HR10.out)
              rw [hw11] at hF11
              have hwm1 : w11.heap[S.loc (.waits c)]? = some (mapObj (T.waitsL c)) := by rw [← hTl]; exact hR11.waitsM hcT
              have hentry := run_entry_mapObj (P := Try.prog) hj hsd1.it hwm1
              rw [hget] at hentry
              have hlastn := hk.out
              rw [hlen] at hsd1
              obtain ⟨κx, sx, hx⟩ : ∃ κx sx, (S.waits c)[j] = (κx, sx) := ⟨_, _, rfl⟩
              have HNX := Lib.hid (fun (T' : St) (h : Reached E T T' (S.waits c)[j].1 ((S.waits c)[j].2, p.2)) => hL.out.next hjm h)
              rw [hx] at hrun hentry hlive HNX
              have hle2 : Le S T := HLE1.out.trans hL.out.le
              have hlt : unseen E T < n := by rw [← HNn.out]; exact unseen_lt hle2 (HI.out.univ (κ := some c) hc HB.out) HS.out (hL.out.le.seen _ _ HGOT1.out)
              have hg12 := grew_alloc w11 (.cells #[ptrV (T.loc (.walk κx)), .int .i64 sx] 149)
              have HCall := Lib.hid (HIH.out (unseen E T) hlt T κx (sx, p.2) _ rfl (hR11.grew hg12) hL.out.inv hlive.1 ⟨hlive.2.1, HB.out.2⟩ hlive.2.2)
              rw [hTs] at HCall
              have b1 := hsd1.box.cell_at (i := 1) rfl
              have hbl := hsd1.box.lt
              have HSD1 := Lib.hid (hsd1.grew hg12)
              have HF12 := Lib.hid (hF11.trans (Frm.grew hg12))
              have HNS := Lib.hid hns
              have HJ := Lib.hid hjm
              have HK := Lib.hid hlastn
              clear hTl hTs hcT hwm hlen hns hw1' hj hjm hget hlive hw11 hsd1 hR11 hF11 hwm1 hlastn hx hle2 hlt hg12 hk hL hRT hFT hSd
              unfold St.waitV unitV ptrV at hrun hentry
              unfold ptrV at HCall HSD1 HF12
              simp only [plV] at HCall
              go_wp2_with (refine HCall.out.mono ?_; rintro e w13 ⟨⟨_, rfl⟩, T', hR', hF', hRe⟩)
              have H1 := Lib.hid (HNX.out T' hRe)
              have H2 := Lib.hid (HSD1.out.frm hF')
              have H3 := Lib.hid (HF12.out.trans hF')
              have H4 := Lib.hid hR'
              have hmore := seen_more HK.out HNS.out HJ.out
              clear hF' hR' hRe HCall hrun hentry b1 hbl
              go_roundg (gk - 1)
              case measure => exact hmore.1
              case rel => exact ⟨T', seen ++ [j], (S.waits c).length, H1.out, H4.out, H3.out, H2.out, hmore.2⟩
        · have hne : ((p.1 : Int) != (E.N.stop c.1 : Int)) = true := by simp; omega
          have hno : ∀ d, ¬(some c = some d ∧ p.1 = E.N.stop d.1) := fun d h => hq (by have h1 := h.1; simp at h1; rw [h1]; exact h.2)
          have HNO := Lib.hid hno
          clear hno hq
          refine wp_region_hav_lit follows (by kernel_rfl) ?_
          repeat (first
            | (refine HavG.skip (fun _ => rfl) ?_; simp only [Act.put, List.setIfInBounds_toArray, List.set_cons_zero, List.set_cons_succ])
            | (refine HavG.val (fun _ => rfl) ?_ (fun x w hw _ => ?_) ?_; rotate_left; (focus (have hc := hw.cells; clear hw; go_simp; first | done | rfl)); simp only [Act.put, List.setIfInBounds_toArray, List.set_cons_zero, List.set_cons_succ]))
          refine HavG.tail (by kernel_rfl) (by kernel_rfl) (fun x w hw _ => ?_)
          have HFw := Lib.hid (HF8.out.trans (Frm.grew hw))
          have HRw := Lib.hid (HR8.out.grew hw)
          clear hw b0 b1 hbl k1 k2 kl hne
          go_wp2_with fail
          refine bodyPost_ret (results_none rfl _ _ _) rfl ?_
          refine ⟨⟨_, rfl⟩, _, HRw.out, (Frm.grew (HG1.out.trans HG2.out)).trans HFw.out, ?_⟩
          rw [see_eq HBV0.out HNO.out]
          exact see_done HI.out hk HS.out HB.out HL.out HNO.out
end Go.Proofs.Ytgdcnndmdgcjlaa

/- paths.call: a rule is called, behind so many tokens, for somebody who waits. -/
namespace Go.Proofs.Ytgdcnndmdgcjlaa
open Go.RowKit
structure CallAt (E : Env) (S : St) (W : World) (c : Nat × Nat) (v0 : Value) (s : Nat) (S3 : St) (wx : World) : Prop where
  rep : Rep E S3 wx
  inv : Inv E S3
  le : Le S S3
  frm : Frm S S3 W wx
  there : c ∈ S3.calls
  begun : Begun E S → Begun E S3
  opn : ∀ d i y, Opn S3 d i y → Opn S d i y
  box : Owns wx W.heap.size [v0, .int .i64 s] 149
  boxn : ¬S3.mine W.heap.size
set_option maxHeartbeats 2000000 in
set_option maxRecDepth 20000 in
theorem pcall_ok (E : Env) (hN : E.N.Ok) (wa : Option Addr) (wc : Nat) (hU : E.univ.length ≤ 1000000000000) (hwv : E.wv = .slice wa E.w.length wc) (S : St) (c : Nat × Nat) (κ : Key) (s : Nat) (W : World) (hR : Rep E S W) (hI : Inv E S) (hk : S.has κ)
    (hr : c.1 < E.N.starts.length ∧ c.2 ≤ E.w.length) (hsn : s < E.N.states.length) (hLc : Lv E.N E.w E.p0 E.over (some c) (E.N.start c.1, c.2))
    (hs : ∃ s' e, Lv E.N E.w E.p0 E.over κ (s', c.2) ∧ (κ = none → (s' : Int) ≠ E.over) ∧ e ∈ E.N.edges s' ∧ e.kind = 2 ∧ e.what.toNat = c.1 ∧ e.to.toNat = s) (hB : Laid E W) :
    Calls Try.prog 68 #[ptrV (S.loc .srch), .int .i64 c.1, .int .i64 c.2, .agg #[ptrV (S.loc (.walk κ)), .int .i64 s]] W fun e W' => (∃ v, e = .returned v) ∧ ∃ S', Rep E S' W' ∧ Frm S S' W W' ∧ Called E S S' c (κ, s) := by
  have hg1 := grew_alloc W (.cells #[ptrV (S.loc (.walk κ)), .int .i64 s] 149)
  have hg2 := grew_alloc (W.alloc (.cells #[ptrV (S.loc (.walk κ)), .int .i64 s] 149)) (.cells #[.int .i64 c.1, .int .i64 c.2] 71)
  have ox := (Owns.alloc W [ptrV (S.loc (.walk κ)), .int .i64 s] 149).keep hg2
  have on := Owns.alloc (W.alloc (.cells #[ptrV (S.loc (.walk κ)), .int .i64 s] 149)) [.int .i64 c.1, .int .i64 c.2] 71
  have hz : (W.alloc (.cells #[ptrV (S.loc (.walk κ)), .int .i64 s] 149)).heap.size = W.heap.size + 1 := by simp
  rw [hz] at on
  have hR1 := hR.grew (hg1.trans hg2)
  have HR1 := Lib.hid hR1
  have HG1 := Lib.hid (hg1.trans hg2)
  have HOX := Lib.hid ox
  have HON := Lib.hid on
  have HI := Lib.hid hI
  have HR := Lib.hid hr
  have HS := Lib.hid hs
  have HLC := Lib.hid hLc
  have HLIM := Lib.hid hR.lim_le
  have HBx := Lib.hid (show ¬S.mine W.heap.size from hR.notmine (Nat.le_refl _))
  have HBn := Lib.hid (show ¬S.mine (W.heap.size + 1) from hR.notmine (by omega))
  have c6 := hR1.srch.cell_at (i := 6) rfl
  have cl := hR1.lt (r := .srch) trivial
  have n0 := on.cell_at (i := 0) rfl
  have n1 := on.cell_at (i := 1) rfl
  have nl := on.lt
  clear hR1 hg1 hg2 ox on hz hI hr hs hLc hR
  unfold ptrV at *
  generalize hw1 : (W.alloc (.cells #[.pointer (some ⟨S.loc (.walk κ), 0, none⟩), .int .i64 s] 149)).alloc (.cells #[.int .i64 c.1, .int .i64 c.2] 71) = w1 at *
  go_enter Try.func68, Try.ntmps68
  go_wp2_with fail
  clear hw1
  by_cases hc : c ∈ S.calls
  case' pos =>
    have HLook : Hid (∀ w, Grew w1 w → (Instr.lookup 90 (.map (some (S.loc .cmap))) (.agg #[.int .i64 c.1, .int .i64 c.2]) false).run Try.prog w = .ok (.pointer (some ⟨S.loc (.call c), 0, none⟩)) w) := Lib.hid (fun w hw => look_some (HR1.out.grew hw) hc)
    refine wp_region_hav_lit follows (by kernel_rfl) ?_
    repeat (first
      | (refine HavG.skip (fun _ => rfl) ?_; simp only [Act.put, List.setIfInBounds_toArray, List.set_cons_zero, List.set_cons_succ])
      | (refine HavG.val (fun _ => rfl) ?_ (fun x w hw _ => ?_) ?_; rotate_left; (focus (have hc := hw.cells; clear hw; go_simp; first | done | rfl)); simp only [Act.put, List.setIfInBounds_toArray, List.set_cons_zero, List.set_cons_succ]))
    refine HavG.val (fun _ => rfl) ?_ (fun x w hw _ => ?_) ?_
    rotate_left
    focus
      have hc' := hw.cells
      have hl' := HLook.out w hw
      clear hw
      go_simp
      first | done | rfl
    simp only [Act.put, List.setIfInBounds_toArray, List.set_cons_zero, List.set_cons_succ]
    repeat (first
      | (refine HavG.skip (fun _ => rfl) ?_; simp only [Act.put, List.setIfInBounds_toArray, List.set_cons_zero, List.set_cons_succ])
      | (refine HavG.val (fun _ => rfl) ?_ (fun x w hw _ => ?_) ?_; rotate_left; (focus (have hc := hw.cells; clear hw; go_simp; first | done | rfl)); simp only [Act.put, List.setIfInBounds_toArray, List.set_cons_zero, List.set_cons_succ]))
    refine HavG.tail (by kernel_rfl) (by kernel_rfl) (fun x w6 hw _ => ?_)
    have hat : CallAt E S W c (.pointer (some ⟨S.loc (.walk κ), 0, none⟩)) s S w6 :=
      ⟨HR1.out.grew hw, HI.out, Le.refl S, Frm.grew (HG1.out.trans hw), hc, id, fun _ _ _ h => h, HOX.out.keep hw, HBx.out⟩
    have HKX := Lib.hid hk
    obtain ⟨q, hq⟩ : ∃ q, S.loc (.call c) = q := ⟨_, rfl⟩
    obtain ⟨S3, HAT, HQ, HWX⟩ : ∃ S3, Hid (CallAt E S W c (.pointer (some ⟨S.loc (.walk κ), 0, none⟩)) s S3 w6) ∧ Hid (S3.loc (.call c) = q) ∧ Hid (S3.loc (.walk κ) = S.loc (.walk κ)) := ⟨S, hat, hq, rfl⟩
    rw [hq]
    clear hw hat hc hk hq HLook HR1 HG1 HOX HON HI c6 cl n0 n1 nl HBx HBn
    go_wp2_with fail
  case' neg =>
    have HNC := Lib.hid hc
    have HLook : Hid (∀ w, Grew w1 w → (Instr.lookup 90 (.map (some (S.loc .cmap))) (.agg #[.int .i64 c.1, .int .i64 c.2]) false).run Try.prog w = .ok (.pointer none) w) := Lib.hid (fun w hw => look_none (HR1.out.grew hw) hc)
    clear hc
    refine wp_region_hav_lit follows (by kernel_rfl) ?_
    repeat (first
      | (refine HavG.skip (fun _ => rfl) ?_; simp only [Act.put, List.setIfInBounds_toArray, List.set_cons_zero, List.set_cons_succ])
      | (refine HavG.val (fun _ => rfl) ?_ (fun x w hw _ => ?_) ?_; rotate_left; (focus (have hc := hw.cells; clear hw; go_simp; first | done | rfl)); simp only [Act.put, List.setIfInBounds_toArray, List.set_cons_zero, List.set_cons_succ]))
    refine HavG.val (fun _ => rfl) ?_ (fun x w hw _ => ?_) ?_
    rotate_left
    focus
      have hc' := hw.cells
      have hl' := HLook.out w hw
      clear hw
      go_simp
      first | done | rfl
    simp only [Act.put, List.setIfInBounds_toArray, List.set_cons_zero, List.set_cons_succ]
    repeat (first
      | (refine HavG.skip (fun _ => rfl) ?_; simp only [Act.put, List.setIfInBounds_toArray, List.set_cons_zero, List.set_cons_succ])
      | (refine HavG.val (fun _ => rfl) ?_ (fun x w hw _ => ?_) ?_; rotate_left; (focus (have hc := hw.cells; clear hw; go_simp; first | done | rfl)); simp only [Act.put, List.setIfInBounds_toArray, List.set_cons_zero, List.set_cons_succ]))
    refine HavG.tail (by kernel_rfl) (by kernel_rfl) (fun x w2 hw _ => ?_)
    obtain ⟨hG3, he3, hx3, hc3⟩ := three_new w2
    have hmk : ∀ (t : TypeId) (w : World), (Instr.makeMap t none).run Try.prog w = .ok (.map (some w.heap.size)) (w.alloc (.map #[] 0)) := fun _ _ => rfl
    generalize hw3 : ((w2.alloc (.map #[] 0)).alloc (.map #[] 0)).alloc (.cells #[.map (some w2.heap.size), .map (some (w2.heap.size + 1))] 147) = w3 at *
    have HG3 := Lib.hid (hw.trans hG3)
    have HE3 := Lib.hid he3
    have HX3 := Lib.hid hx3
    have HC3 := Lib.hid hc3
    have HZ2 := Lib.hid hw.size
    clear hw hG3 he3 hx3 hc3 c6 cl n0 n1 nl HLook
    go_wp2_with fail
    clear hw3 hmk
    -- the map of calls knows it
    have HR3 := Lib.hid (HR1.out.grew HG3.out)
    have c6 := HR3.out.srch.cell_at (i := 6) rfl
    have cl := HR3.out.lt (r := .srch) trivial
    have on3 := HON.out.keep HG3.out
    have n0 := on3.cell_at (i := 0) rfl
    have n1 := on3.cell_at (i := 1) rfl
    have nl := on3.lt
    have HUp : Hid (∀ w, Grew w3 w → (Instr.mapUpdate 90 (.map (some (S.loc .cmap))) (.agg #[.int .i64 c.1, .int .i64 c.2]) (.pointer (some ⟨w2.heap.size + 2, 0, none⟩))).run Try.prog w = .ok () (putObj w (S.loc .cmap) (mapObj (S.callsL ++ [(plV c, ptrV (w2.heap.size + 2))])))) :=
      Lib.hid (fun w hw => upd_calls (HR3.out.grew hw) HNC.out (w2.heap.size + 2))
    clear on3
    refine wp_region_hav_lit follows (by kernel_rfl) ?_
    repeat (first
      | (refine HavG.skip (fun _ => rfl) ?_; simp only [Act.put, List.setIfInBounds_toArray, List.set_cons_zero, List.set_cons_succ])
      | (refine HavG.val (fun _ => rfl) ?_ (fun x w hw _ => ?_) ?_; rotate_left; (focus (have hc := hw.cells; clear hw; go_simp; first | done | rfl)); simp only [Act.put, List.setIfInBounds_toArray, List.set_cons_zero, List.set_cons_succ]))
    refine HavG.tail (by kernel_rfl) (by kernel_rfl) (fun x w hw _ => ?_)
    obtain ⟨w4, hw4⟩ : ∃ w4, putObj w (S.loc .cmap) (mapObj (S.callsL ++ [(plV c, ptrV (w2.heap.size + 2))])) = w4 := ⟨_, rfl⟩
    have hupd := HUp.out w hw
    rw [hw4] at hupd
    have hml : S.loc .cmap < w1.heap.size := HR1.out.lt (r := .cmap) trivial
    have hz2 := HZ2.out
    have hb4 : But (fun b => b = S.loc .cmap) w w4 := by rw [← hw4]; exact But.put rfl
    have hcm4 : w4.heap[S.loc .cmap]? = some (mapObj (S.callsL ++ [(plV c, ptrV (w2.heap.size + 2))])) := by
      rw [← hw4]
      exact putObj_same ((HR3.out.grew hw).lt (r := .cmap) trivial) _
    obtain ⟨p1, p2, p3⟩ := parts_keep hw HE3.out HX3.out HC3.out
    obtain ⟨q1, q2, q3⟩ := parts_but hb4 ⟨by omega, by omega, by omega⟩ p1 p2 p3
    have HP4 := Lib.hid (And.intro q1 (And.intro q2 q3))
    have HCM4 := Lib.hid hcm4
    have hB4 : But (fun b => b = S.loc .cmap) w1 w4 := (But.of_grew (HG3.out.trans hw)).trans hb4 fun _ _ h => h
    have HB4 := Lib.hid hB4
    have hcmne : W.heap.size + 1 ≠ S.loc .cmap := fun e => HBn.out (by rw [e]; exact .inl ⟨.cmap, trivial, rfl⟩)
    have on4 := hB4.owns HON.out hcmne
    have os4 := hB4.owns HR1.out.srch (fun e => by have h1 := HR1.out.inj .srch .cmap trivial trivial e; cases h1)
    have hlay4 : Laid E w4 := hB.keep (((But.of_grew (F := fun b => b = S.loc .cmap) HG1.out).trans hB4 fun _ _ h => h).below HLIM.out fun k hk => by rw [hk]; exact HR1.out.lo .cmap trivial)
    clear hw HUp hw4 hcm4 p1 p2 p3 q1 q2 q3 hb4 c6 cl n0 n1 nl hcmne
    go_wp2_with fail
    clear hupd
    obtain ⟨sa, sc, e2, hst⟩ := hlay4.net.stops
    have hr2 : c.1 < E.N.stops.length := by rw [← hN.len]; exact HR.out.1
    obtain ⟨sb, so, rfl, hsb, hsv⟩ := hst c.1 hr2
    obtain ⟨ta, tc, e1, hta⟩ := hlay4.net.starts
    have hr1 : c.1 < E.N.starts.length := HR.out.1
    obtain ⟨tb, tf, rfl, htb, htv⟩ := hta c.1 hr1
    have htn : E.N.starts[c.1] = (E.N.start c.1 : Int) := by
      have h1 := (hN.start c.1 hr1).1
      have h2 : E.N.starts.getD c.1 0 = E.N.starts[c.1] := by rw [List.getD_eq_getElem?_getD, List.getElem?_eq_getElem hr1]; rfl
      unfold Net.start
      omega
    have hsn2 : E.N.stops[c.1] = E.N.stops.getD c.1 0 := by rw [List.getD_eq_getElem?_getD, List.getElem?_eq_getElem hr2]; rfl
    rw [htn] at htv
    rw [hsn2] at hsv
    have s2 : w4.cell? ⟨S.loc .srch, 2, none⟩ = some (.slice (some ⟨sb, so, none⟩) E.N.stops.length sc) := by rw [← e2]; exact os4.cell_at (i := 2) rfl
    have s1 : w4.cell? ⟨S.loc .srch, 1, none⟩ = some (.slice (some ⟨tb, tf, none⟩) E.N.starts.length tc) := by rw [← e1]; exact os4.cell_at (i := 1) rfl
    have sl := os4.lt
    have hsbl : sb < w4.heap.size := by have := HLIM.out; have := hB4.size; have := HG1.out.size; omega
    have htbl : tb < w4.heap.size := by have := HLIM.out; have := hB4.size; have := HG1.out.size; omega
    have HN4 := Lib.hid on4
    have hz4 : w2.heap.size + 2 < w4.heap.size := HP4.out.2.2.lt
    clear hst hta e1 e2 htn hsn2 hlay4 hB4 os4 on4 hsb htb
    refine wp_region_hav_lit follows (by kernel_rfl) ?_
    repeat (first
      | (refine HavG.skip (fun _ => rfl) ?_; simp only [Act.put, List.setIfInBounds_toArray, List.set_cons_zero, List.set_cons_succ])
      | (refine HavG.val (fun _ => rfl) ?_ (fun x w hw _ => ?_) ?_; rotate_left; (focus (have hc := hw.cells; clear hw; go_simp; first | done | rfl)); simp only [Act.put, List.setIfInBounds_toArray, List.set_cons_zero, List.set_cons_succ]))
    refine HavG.any (fun _ => rfl) (NewMap w4.heap.size) (fun _ _ _ hg h => NewMap.keep hg h) (fun x w hw _ => ?_) ?_
    · have HW := Lib.hid hw
      have hmk : ∀ (t : TypeId) (w : World), (Instr.makeMap t none).run Try.prog w = .ok (.map (some w.heap.size)) (w.alloc (.map #[] 0)) := fun _ _ => rfl
      clear hw
      go_simp
      exact ⟨grew_alloc _ _, NewMap.made HW.out.size⟩
    simp only [Act.put, List.setIfInBounds_toArray, List.set_cons_zero, List.set_cons_succ]
    repeat (first
      | (refine HavG.skip (fun _ => rfl) ?_; simp only [Act.put, List.setIfInBounds_toArray, List.set_cons_zero, List.set_cons_succ])
      | (refine HavG.val (fun _ => rfl) ?_ (fun x w hw _ => ?_) ?_; rotate_left; (focus (have hc := hw.cells; clear hw; go_simp; first | done | rfl)); simp only [Act.put, List.setIfInBounds_toArray, List.set_cons_zero, List.set_cons_succ]))
    refine HavG.any (fun _ => rfl) (NewPart w4.heap.size (w2.heap.size + 2) (E.N.stops.getD c.1 0)) (fun _ _ _ hg h => NewPart.keep hg h) (fun x w hw hd => ?_) ?_
    · obtain ⟨mb, hxe, h1, h2⟩ := hd _ (List.mem_append_right _ (List.mem_singleton.2 rfl)) (by kernel_rfl)
      dsimp only at hxe
      clear hd
      generalize x (0 + 1) = yv at *
      subst hxe
      have H2 := Lib.hid h2
      have H1 := Lib.hid h1
      clear hw h2 h1
      go_simp
      exact ⟨Grew.refl _, mb, rfl, H1.out, H2.out⟩
    simp only [Act.put, List.setIfInBounds_toArray, List.set_cons_zero, List.set_cons_succ]
    refine HavG.any (fun _ => rfl) (NewWalk w4.heap.size (w2.heap.size + 2) (E.N.stops.getD c.1 0)) (fun _ _ _ hg h => NewWalk.keep hg h) (fun x w hw hd => ?_) ?_
    · obtain ⟨mb, hxe, h1, h2⟩ := hd _ (List.mem_append_right _ (List.mem_singleton.2 rfl)) (by kernel_rfl)
      dsimp only at hxe
      clear hd
      generalize x (0 + 1 + 1 + 1 + 1 + 1 + 1 + 1 + 1 + 1 + 1 + 1) = yv at *
      subst hxe
      have H2 := Lib.hid h2
      have H1 := Lib.hid h1
      have HW := Lib.hid hw
      clear hw h2 h1
      go_simp
      exact ⟨grew_alloc _ _, NewWalk.made HW.out.size H1.out H2.out⟩
    simp only [Act.put, List.setIfInBounds_toArray, List.set_cons_zero, List.set_cons_succ]
    repeat (first
      | (refine HavG.skip (fun _ => rfl) ?_; simp only [Act.put, List.setIfInBounds_toArray, List.set_cons_zero, List.set_cons_succ])
      | (refine HavG.val (fun _ => rfl) ?_ (fun x w hw _ => ?_) ?_; rotate_left; (focus (have hc := hw.cells; clear hw; go_simp; first | done | rfl)); simp only [Act.put, List.setIfInBounds_toArray, List.set_cons_zero, List.set_cons_succ]))
    refine HavG.tail (by kernel_rfl) (by kernel_rfl) (fun x w5 hw hx => ?_)
    have hx8 := hx _ (List.mem_append_right _ (List.mem_singleton.2 rfl))
    clear hx
    dsimp only at hx8
    generalize x (0 + 1 + 1 + 1 + 1 + 1 + 1 + 1 + 1 + 1 + 1 + 1 + 1) = y8 at *
    obtain ⟨kb, mb, rfl, hm1, hk1, hkm, hm2, hk2⟩ := hx8
    have hb5 : But (fun b => b = S.loc .cmap) w1 w5 := HB4.out.trans (But.of_grew (F := fun _ => False) hw) fun _ _ h => False.elim h
    obtain ⟨p1, p2, p3⟩ := parts_keep hw HP4.out.1 HP4.out.2.1 HP4.out.2.2
    have hmore := HR1.out.more HI.out HNC.out hb5 (by rw [hw.block _ (Array.getElem?_eq_some_iff.1 HCM4.out).1]; exact HCM4.out) p1 p2 p3 hm2 hk2 ⟨by omega, by omega, by omega, by omega, by omega, by omega, by omega, by omega, by omega, by omega, by omega, hkm⟩
    obtain ⟨hi2, hle2⟩ := HI.out.more HNC.out HR.out (fun r hr => newLoc_old (cb := w2.heap.size + 2) (eb := w2.heap.size) (xb := w2.heap.size + 1) (kb := kb) (sb := mb) HNC.out hr)
    have hcal := reach_ok E hN wa wc hU hwv _ _ (some c) (E.N.start c.1, c.2) w5 rfl hmore.1 hi2 (show c ∈ S.calls ++ [c] by simp) ⟨(hN.start c.1 HR.out.1).2, HR.out.2⟩ HLC.out
    rw [show ((S.more c (newLoc S.loc c (w2.heap.size + 2) w2.heap.size (w2.heap.size + 1) kb mb)).loc (.walk (some c))) = kb from if_pos rfl, show ((S.more c (newLoc S.loc c (w2.heap.size + 2) w2.heap.size (w2.heap.size + 1) kb mb)).loc .srch) = S.loc .srch from rfl] at hcal
    unfold ptrV at hcal
    simp only [plV] at hcal
    have HCal := Lib.hid hcal
    have HMore := Lib.hid hmore.2
    have HLe2 := Lib.hid hle2
    have hox5 := hb5.owns HOX.out (fun e => HBx.out (by rw [e]; exact .inl ⟨.cmap, trivial, rfl⟩))
    have HOX5 := Lib.hid hox5
    have hbx5 : ¬(S.more c (newLoc S.loc c (w2.heap.size + 2) w2.heap.size (w2.heap.size + 1) kb mb)).mine W.heap.size := fun hm => by
      have := HOX.out.lt
      rcases hmore.2.new _ hm with h1 | h1
      · exact HBx.out h1
      · omega
    have HBX5 := Lib.hid hbx5
    clear hw hm1 hk1 hkm hm2 hk2 hb5 p1 p2 p3 hmore hi2 hle2 hcal hox5 hbx5 s1 s2 sl hsv htv hsbl htbl
    go_wp2_with (refine HCal.out.mono ?_; rintro e w6 ⟨⟨_, rfl⟩, S3, hR6, hF6, hRe⟩; have HR6 := Lib.hid hR6; have HF6 := Lib.hid hF6; have HRe := Lib.hid hRe; clear hR6 hF6 hRe)
    have hle3 := HLe2.out.trans HRe.out.le
    have hcx : c ∈ S3.calls := HRe.out.le.calls c (show c ∈ S.calls ++ [c] by simp)
    have hox6 := HF6.out.owns HOX5.out HBX5.out
    have hq : S3.loc (.call c) = w2.heap.size + 2 := (HRe.out.le.loc (.call c) (show c ∈ S.calls ++ [c] by simp)).trans (if_pos rfl)
    have hat : CallAt E S W c (.pointer (some ⟨S.loc (.walk κ), 0, none⟩)) s S3 w6 :=
      ⟨HR6.out, HRe.out.inv, hle3, ((Frm.grew HG1.out).trans HMore.out).trans HF6.out, hcx, fun hB d hd => by
        have hd' : d ∈ S.calls ++ [c] := by rw [HRe.out.calls] at hd; exact hd
        rcases List.mem_append.1 hd' with h1 | h1
        · exact hle3.seen _ _ (hB d h1)
        · simp at h1
          subst h1
          exact HRe.out.got, fun d i y ho => HRe.out.opn d i y ho, hox6.1, hox6.2⟩
    have HAT := Lib.hid hat
    have HKX := Lib.hid hk
    have HQ := Lib.hid hq
    have HWX := Lib.hid (hle3.loc (.walk κ) hk)
    clear hle3 hcx hox6 hq hat hk HR6 HF6 HRe HCal HMore HLe2 HOX5 HBX5 HNC HR1 HG1 HOX HON HI HBx HBn HG3 HE3 HX3 HC3 HZ2 HR3 HP4 HCM4 HB4 HN4 hml hz2 hz4
    generalize w2.heap.size + 2 = q at *
    go_wp2_with fail
  all_goals
    have x0 := HAT.out.box.cell_at (i := 0) rfl
    have x1 := HAT.out.box.cell_at (i := 1) rfl
    have xl := HAT.out.box.lt
    have hoc := HAT.out.rep.call HAT.out.there
    rw [HQ.out] at hoc
    have p1 : w6.cell? ⟨q, 1, none⟩ = some (.map (some (S3.loc (.waits c)))) := hoc.cell_at (i := 1) rfl
    have pl := hoc.lt
    have hkx : S3.has κ := HAT.out.le.has HKX.out
    have HKX3 := Lib.hid hkx
    have hhas : ∀ w, Grew w6 w → Calls Try.prog 81 #[.map (some (S3.loc (.waits c))), .agg #[.pointer (some ⟨S.loc (.walk κ), 0, none⟩), .int .i64 s]] w fun e W' => e = .returned (.bool (decide ((κ, s) ∈ S3.waits c))) ∧ Grew w W' := fun w hw => by
      have := haswait_at (HAT.out.rep.grew hw) HAT.out.inv HAT.out.there (κ, s) hkx
      unfold St.waitV ptrV at this
      rw [HWX.out] at this
      exact this
    by_cases hwt : (κ, s) ∈ S3.waits c
    · rw [decide_eq_true hwt] at hhas
      have HH := Lib.hid hhas
      have HWT := Lib.hid hwt
      clear hhas hwt hoc hkx
      refine wp_region_hav_lit follows (by kernel_rfl) ?_
      repeat (first
        | (refine HavG.skip (fun _ => rfl) ?_; simp only [Act.put, List.setIfInBounds_toArray, List.set_cons_zero, List.set_cons_succ])
        | (refine HavG.val (fun _ => rfl) ?_ (fun x w hw _ => ?_) ?_; rotate_left; (focus (have hc := hw.cells; clear hw; go_simp; first | done | rfl)); simp only [Act.put, List.setIfInBounds_toArray, List.set_cons_zero, List.set_cons_succ]))
      refine HavG.tail (by kernel_rfl) (by kernel_rfl) (fun x w hw _ => ?_)
      have HX := Lib.hid (HH.out w hw)
      have HW := Lib.hid hw
      clear hw x0 x1 xl p1 pl
      go_wp2_with (refine HX.out.mono ?_; rintro e w7 ⟨rfl, hb7⟩; have HG7 := Lib.hid (HW.out.trans hb7); clear hb7)
      refine bodyPost_ret (results_none rfl _ _ _) rfl ?_
      exact ⟨⟨_, rfl⟩, S3, HAT.out.rep.grew HG7.out, HAT.out.frm.trans (Frm.grew HG7.out), HAT.out.inv, HAT.out.le, HAT.out.there, HWT.out, HAT.out.begun, HAT.out.opn⟩
    · rw [decide_eq_false hwt] at hhas
      have HH := Lib.hid hhas
      have HWT := Lib.hid hwt
      clear hhas hwt hoc hkx
      refine wp_region_hav_lit follows (by kernel_rfl) ?_
      repeat (first
        | (refine HavG.skip (fun _ => rfl) ?_; simp only [Act.put, List.setIfInBounds_toArray, List.set_cons_zero, List.set_cons_succ])
        | (refine HavG.val (fun _ => rfl) ?_ (fun x w hw _ => ?_) ?_; rotate_left; (focus (have hc := hw.cells; clear hw; go_simp; first | done | rfl)); simp only [Act.put, List.setIfInBounds_toArray, List.set_cons_zero, List.set_cons_succ]))
      refine HavG.tail (by kernel_rfl) (by kernel_rfl) (fun x w hw _ => ?_)
      have HX := Lib.hid (HH.out w hw)
      have HW := Lib.hid hw
      clear hw x0 x1 xl p1 pl
      go_wp2_with (refine HX.out.mono ?_; rintro e w7 ⟨rfl, hb7⟩; have HG7 := Lib.hid (HW.out.trans hb7); clear hb7)
      have HR7 := Lib.hid (HAT.out.rep.grew HG7.out)
      have HF7 := Lib.hid (HAT.out.frm.trans (Frm.grew HG7.out))
      have ob7 := HAT.out.box.keep HG7.out
      have x0 := ob7.cell_at (i := 0) rfl
      have x1 := ob7.cell_at (i := 1) rfl
      have xl := ob7.lt
      have hoc := HR7.out.call HAT.out.there
      rw [HQ.out] at hoc
      have p1 : w7.cell? ⟨q, 1, none⟩ = some (.map (some (S3.loc (.waits c)))) := hoc.cell_at (i := 1) rfl
      have pl := hoc.lt
      have HO7 := Lib.hid ob7
      clear ob7 hoc HH HX HW
      refine wp_region_hav_lit follows (by kernel_rfl) ?_
      repeat (first
        | (refine HavG.skip (fun _ => rfl) ?_; simp only [Act.put, List.setIfInBounds_toArray, List.set_cons_zero, List.set_cons_succ])
        | (refine HavG.val (fun _ => rfl) ?_ (fun x w hw _ => ?_) ?_; rotate_left; (focus (have hc := hw.cells; clear hw; go_simp; first | done | rfl)); simp only [Act.put, List.setIfInBounds_toArray, List.set_cons_zero, List.set_cons_succ]))
      refine HavG.tail (by kernel_rfl) (by kernel_rfl) (fun x w hw _ => ?_)
      have hI4 := HAT.out.inv.wait HAT.out.there HWT.out (x := (κ, s)) ⟨HKX3.out, hsn⟩ HS.out
      obtain ⟨w8, hw8⟩ : ∃ w8, putObj w (S3.loc (.waits c)) (mapObj (S3.waitsL c ++ [(S3.waitV (κ, s), unitV)])) = w8 := ⟨_, rfl⟩
      have hupd := upd_waits (HR7.out.grew hw) HAT.out.inv HAT.out.there (x := (κ, s)) HKX3.out HWT.out
      rw [hw8] at hupd
      unfold St.waitV ptrV unitV at hupd
      simp only [HWX.out] at hupd
      have hput := put_wait_at (HR7.out.grew hw) HAT.out.there (κ, s) hw8
      have HF8 := Lib.hid ((HF7.out.trans (Frm.grew hw)).trans hput.2)
      have HR8 := Lib.hid hput.1
      have ho8 := hput.2.owns (HO7.out.keep hw) HAT.out.boxn
      have HI4 := Lib.hid hI4.1
      have HLE4 := Lib.hid hI4.2
      have hoc : Owns w8 (S3.loc (.call c)) ((S3.wait c (κ, s)).callL c) 147 := HR8.out.call (c := c) HAT.out.there
      rw [HQ.out] at hoc
      have p0 : w8.cell? ⟨q, 0, none⟩ = some (.map (some (S3.loc (.ends c)))) := hoc.cell_at (i := 0) rfl
      have pl8 := hoc.lt
      have hlen4 : ((S3.wait c (κ, s)).endsL c).length = (S3.ends c).length := by simp [St.endsL, St.wait]
      have hrange := run_range_mapObj (P := Try.prog) (t := 144) (kt := 3) (e := 122) (by kernel_rfl) (HR8.out.endsM (c := c) HAT.out.there)
      rw [hlen4] at hrange
      have hrange2 : (Instr.range 144 (.map (some (S3.loc (.ends c))))).run Try.prog w8 = .ok (.pointer (some ⟨w8.heap.size, 0, none⟩)) (w8.alloc (.mapIter (some (S3.loc (.ends c))) (S3.ends c).length #[] (S3.ends c).length)) := hrange
      have HO8 := Lib.hid ho8
      clear hw hput hw8 hI4 x0 x1 xl p1 pl hoc hlen4 hrange ho8
      go_wp2_with fail
      clear hupd
      have hgA := grew_alloc w8 (.mapIter (some (S3.loc (.ends c))) (S3.ends c).length #[] (S3.ends c).length)
      have hsd : Side (S3.wait c (κ, s)) (w8.alloc (.mapIter (some (S3.loc (.ends c))) (S3.ends c).length #[] (S3.ends c).length)) W.heap.size [.pointer (some ⟨S.loc (.walk κ), 0, none⟩), .int .i64 s] 149 w8.heap.size (S3.loc (.ends c)) (S3.ends c).length [] (S3.ends c).length :=
        ⟨HO8.out.1.keep hgA, HO8.out.2, by unfold IterAt; exact alloc_at _ _, HR8.out.notmine (Nat.le_refl _)⟩
      have HSD := Lib.hid hsd
      have HRA := Lib.hid (HR8.out.grew hgA)
      have HFA := Lib.hid (Frm.grew (S := S3.wait c (κ, s)) hgA)
      clear hsd hgA hrange2 p0 pl8
      obtain ⟨r, hr10⟩ : ∃ r, w8.heap.size = r := ⟨_, rfl⟩
      have HR10 := Lib.hid hr10
      rw [hr10] at HSD
      generalize w8.alloc (.mapIter (some (S3.loc (.ends c))) (S3.ends c).length #[] (S3.ends c).length) = wA at *
      rw [hr10]
      clear hr10
      go_loopg [73] (E.w.length + 1) (fun k _ wr => ∃ (T : St) (seen : List Nat) (last : Nat), Hid (CLoop E S3 c (κ, s) T seen) ∧ Hid (Rep E T wr) ∧ Hid (Frm (S3.wait c (κ, s)) T w8 wr) ∧ Hid (Side T wr W.heap.size [.pointer (some ⟨S.loc (.walk κ), 0, none⟩), .int .i64 s] 149 r (S3.loc (.ends c)) (S3.ends c).length seen last) ∧
        Hid (seen.Nodup ∧ (∀ j ∈ seen, j < (T.ends c).length) ∧ (seen ≠ [] → 1 ≤ last) ∧ k + seen.length = E.w.length + 1))
      case atStart =>
        exact ⟨S3.wait c (κ, s), [], _, CLoop.start HI4.out, HRA.out, HFA.out, HSD.out, ⟨List.nodup_nil, fun j hj => absurd hj (by simp), fun h => absurd rfl h, by simp⟩⟩
      case round =>
        obtain ⟨T, seen, last, hL, hRT, hFT, hSd, hk2⟩ := hrel
        have hTl : T.loc (.ends c) = S3.loc (.ends c) := hL.out.le.loc (.ends c) (show c ∈ S3.calls from HAT.out.there)
        have hTs : T.loc .srch = S.loc .srch := (hL.out.le.loc .srch trivial).trans (HAT.out.le.loc .srch trivial)
        have hTk : T.loc (.walk κ) = S.loc (.walk κ) := (hL.out.le.loc (.walk κ) (show (S3.wait c (κ, s)).has κ from (has_same rfl κ).2 HKX3.out)).trans HWX.out
        have hcT : c ∈ T.calls := by rw [hL.out.calls]; exact HAT.out.there
        have hwm : wr.heap[S3.loc (.ends c)]? = some (mapObj (T.endsL c)) := by rw [← hTl]; exact hRT.out.endsM hcT
        have hlen : (T.endsL c).length = (T.ends c).length := by simp [St.endsL]
        have hpl := hL.out.pre.length_le
        have hnx := run_next_mapObj (P := Try.prog) hSd.out.it hwm hk2.out.2.2.1 (by rw [hlen]; exact hpl) 0
        rcases hnx with ⟨hall, w1', hw1', hrun⟩ | ⟨j, hj, hns, w1', hw1', hrun⟩
        · have HALL := Lib.hid hall
          have HW1 := Lib.hid hw1'
          clear hall hw1' hTl hTs hTk hcT hwm hlen hpl
          go_wp2_with fail
          go_end0
          exact ⟨⟨_, rfl⟩, T, hRT.out.drew0 HW1.out, (HF8.out.trans hFT.out).drew0 HW1.out, hL.out.done HI4.out HAT.out.le HAT.out.there HAT.out.begun HAT.out.opn HLE4.out HALL.out⟩
        · have hjm : j < (T.ends c).length := by rw [← hlen]; exact hj
          have hget : (T.endsL c)[j] = (.int .i64 ((T.ends c)[j] : Int), unitV) := by simp [St.endsL]
          have hlive := hL.out.live hjm
          obtain ⟨w11, hw11⟩ : ∃ w11, putObj w1' r (.mapIter (some (S3.loc (.ends c))) (S3.ends c).length (seen ++ [j]).toArray (T.endsL c).length) = w11 := ⟨_, rfl⟩
          rw [hw11, hget] at hrun
          have hsd1 := hSd.out.step hw1' j (T.endsL c).length
          rw [hw11] at hsd1
          have hR11 := hRT.out.step hw1' hSd.out.itn (.mapIter (some (S3.loc (.ends c))) (S3.ends c).length (seen ++ [j]).toArray (T.endsL c).length)
          rw [hw11] at hR11
          have hF11 := hFT.out.newer (But.step hw1' r (.mapIter (some (S3.loc (.ends c))) (S3.ends c).length (seen ++ [j]).toArray (T.endsL c).length)) (Nat.le_of_eq HR10.out)
          rw [hw11] at hF11
          have hwm1 : w11.heap[S3.loc (.ends c)]? = some (mapObj (T.endsL c)) := by rw [← hTl]; exact hR11.endsM hcT
          have hentry := run_entry_mapObj (P := Try.prog) hj hsd1.it hwm1
          rw [hget] at hentry
          rw [hlen] at hsd1
          have HNX := Lib.hid (fun (T' : St) (h : Reached E T T' κ (s, (T.ends c)[j])) => hL.out.next hjm h)
          generalize (T.ends c)[j] = ej at hrun hentry hlive HNX
          have hcal := reach_ok E hN wa wc hU hwv _ T κ (s, ej) w11 rfl hR11 hL.out.inv hlive.1 ⟨hlive.2.1, hlive.2.2.1⟩ hlive.2.2.2
          rw [hTs, hTk] at hcal
          have x0 := hsd1.box.cell_at (i := 0) rfl
          have x1 := hsd1.box.cell_at (i := 1) rfl
          have xl := hsd1.box.lt
          unfold ptrV at hcal
          simp only [plV] at hcal
          have HCall := Lib.hid hcal
          have HSD1 := Lib.hid hsd1
          have HF12 := Lib.hid hF11
          have HNS := Lib.hid hns
          have HJ := Lib.hid hjm
          have HK := Lib.hid hk2.out
          have HM := Lib.hid (hL.out.inv.ends_le (c := c))
          have HPRE := Lib.hid (fun (T' : St) (h : Le T T') => (h.ends c).length_le)
          clear hTl hTs hTk hcT hwm hlen hpl hns hw1' hj hjm hget hlive hw11 hsd1 hR11 hF11 hwm1 hk2 hL hRT hFT hSd hcal
          unfold unitV at hrun hentry
          go_wp2_with (refine HCall.out.mono ?_; rintro e w13 ⟨⟨_, rfl⟩, T', hR', hF', hRe⟩)
          have H1 := Lib.hid (HNX.out T' hRe)
          have H2 := Lib.hid (HSD1.out.frm hF')
          have H3 := Lib.hid (HF12.out.trans hF')
          have H4 := Lib.hid hR'
          have hmore := seen_more2 HK.out (HPRE.out T' hRe.le) HM.out HNS.out HJ.out
          clear hF' hR' hRe HCall hrun hentry x0 x1 xl
          go_roundg (gk - 1)
          case measure => exact hmore.1
          case rel => exact ⟨T', seen ++ [j], _, H1.out, H4.out, H3.out, H2.out, hmore.2⟩
end Go.Proofs.Ytgdcnndmdgcjlaa
