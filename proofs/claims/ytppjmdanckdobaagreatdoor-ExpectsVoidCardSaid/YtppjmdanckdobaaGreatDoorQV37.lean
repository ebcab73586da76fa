/- Next: with what a list may go on. -/
import Derived.Deep.DeepCutAuto
import Derived.Deep.LoopGhost
import Derived.Test.YtppjmdanckdobaaGreatDoorQV36
import Derived.Test.YtppjmdanckdobaaGreatDoorQV28
namespace Go.Proofs.YtppjmdanckdobaaGreatDoor
open Go.RowKit Go.Sort
def NextS (B : Bk) (r : Nat) (wl : List Int) (x : Int) : Prop := (x = -1 ∧ B.D r wl) ∨ XNextS B r wl x
structure NextL (B : Bk) (r : Nat) (wl : List Int) (L : List Int) : Prop where
  rise : L.Pairwise (· < ·)
  mem : ∀ x, x ∈ L ↔ NextS B r wl x
def askB (B : Bk) (r : Int) (wl : List Int) : Bool := hasX B r wl.length && (decide (0 ≤ B.longN r.toNat) && !(wl.any fun y => (-2 : Int) == y))
def NextIs (B : Bk) (r : Int) (wl : List Int) (W : World) (e : Ending) (W' : World) : Prop := Grew W W' ∧
  if askB B r wl then ∃ (L : List Int) (v : Value), e = .returned (.tuple #[v, .bool (decide (0 < L.length))]) ∧ looseRow W' W.heap.size 3 1 v L.length (intVs L) ∧ NextL B r.toNat wl L
  else e = .returned (.tuple #[.slice none 0 0, .bool false])
mutual
theorem nx_tok {B : Bk} {w : List Int} {M : Nat} (h : ∀ nm, B.tok nm ≤ M) : ∀ {n : Nd} {i t : Nat}, Nx B w n i t → t ≤ M
  | .mk _ nm _ _ _, _, _, .tok _ => h nm
  | _, _, _, .ref _ _ hd => nx_tok h hd
  | _, _, _, .seq _ hd => nxL_tok h hd
  | _, _, _, .alt _ hd => nx_tok h hd
  | _, _, _, .loop _ _ hd => nx_tok h hd
  | _, _, _, .again _ _ hd => nx_tok h hd
theorem nxL_tok {B : Bk} {w : List Int} {M : Nat} (h : ∀ nm, B.tok nm ≤ M) : ∀ {l : List Nd} {i t : Nat}, NxL B w l i t → t ≤ M
  | _, _, _, .here hd => nx_tok h hd
  | _, _, _, .next _ hd => nxL_tok h hd
end
set_option maxHeartbeats 8000000 in
set_option maxRecDepth 40000 in
theorem xnext_ok (T : XT) (hG : T.B.Good) (hB : T.B.Lng) (r : Int) (wa : Option Addr) (sc : Nat) (wl : List Int) (W : World) (hT : T.At W.heap.size W) (hI : IntsAt W W.heap.size wa wl) (hwl : wl.length ≤ reachN) (htk : ∀ nm, T.B.tok nm ≤ 1000000) :
    Calls Tryz.prog 5 #[T.ptr, .int .i64 r, .slice wa wl.length sc] W (NextIs T.B r wl W) := by
  have HH := Lib.hid (xhas_ok T r wa wl.length sc W hT)
  have HCO := Lib.hid (containsInt_ok wl (-2) W (.slice wa wl.length sc) hwl ⟨wa, sc, rfl, hI⟩)
  have HT := Lib.hid hT
  have HI := Lib.hid hI
  have HG := Lib.hid hG
  have HB := Lib.hid hB
  have HTK : Hid (∀ (k : Nat) (L : List Int), L.Nodup → (∀ t, t ∈ L ↔ NextS T.B k wl t) → L.length ≤ 1000002) := Lib.hid fun k L hd hm => nodup_ints hd fun x hx => by
    rcases (hm x).1 hx with ⟨rfl, _⟩ | ⟨n, t, h1, h2, rfl⟩
    · omega
    · have := nx_tok htk h2
      omega
  obtain ⟨Q, hQ⟩ : ∃ Q, NextIs T.B r wl W = Q := ⟨_, rfl⟩
  rw [hQ]
  have HQ := Lib.hid hQ
  have t0 := hT.box.cell_at (i := 0) rfl
  have tl := hT.box.lt
  unfold XT.e at t0 tl
  dsimp only at t0 tl
  unfold XT.ptr at HH ⊢
  have HNO : Hid (askB T.B r wl = false → ∀ w', Grew W w' → Q (.returned (.tuple #[.slice none 0 0, .bool false])) w') := Lib.hid fun h w' hw => by
    rw [← HQ.out]
    unfold NextIs
    rw [if_neg (by rw [h]; simp)]
    exact ⟨hw, rfl⟩
  have HFEW := Lib.hid hT.book.few.2
  unfold XT.e at HFEW
  dsimp only at HFEW
  have HLG : Hid (∀ k : Nat, r = (k : Int) → Calls Tryz.prog 17 #[.pointer (some ⟨T.bk, 0, none⟩), .int .i64 r] W fun e W' => e = .returned (.int .i64 (T.B.longN k)) ∧ W' = W) := Lib.hid fun k hk => by
    subst hk
    rw [← longN_eq HFEW.out]
    exact slong_ok T.B _ T.V T.bk W.heap.size W hT.book
  clear hT hI hQ hG hB
  cases hh : hasX T.B r wl.length with
  | false =>
    rw [hh] at HH
    have hno := HNO.out (by unfold askB; rw [hh]; rfl)
    have HX := Lib.hid hno
    clear hno
    go_enter Tryz.func5, Tryz.ntmps5
    go_wp2_with fail
    refine HH.out.mono ?_
    rintro e w1 ⟨rfl, rfl⟩
    go_wp2_with fail
    exact HX.out _ (Grew.refl _)
  | true =>
    have hh' := hh
    unfold hasX at hh'
    simp only [Bool.and_eq_true, decide_eq_true_eq] at hh'
    obtain ⟨k, rfl⟩ := Int.eq_ofNat_of_zero_le hh'.1
    have HL := Lib.hid (HLG.out k rfl)
    have HKB := Lib.hid (show k < T.B.bodies.length by omega)
    have HW48 := Lib.hid hh'.2.2
    rw [hh] at HH
    obtain ⟨lg, hlg⟩ : ∃ lg, T.B.longN k = lg := ⟨_, rfl⟩
    rw [hlg] at HL
    have HLE := Lib.hid hlg
    have HHH := Lib.hid hh
    obtain ⟨n, hn⟩ : ∃ n, wl.length = n := ⟨_, rfl⟩
    have HN := Lib.hid hn
    rw [hn] at HH HCO ⊢
    clear hlg hh hh' HLG hn
    by_cases hl0 : lg < 0
    · have hl1 : decide (lg < 0) = true := decide_eq_true hl0
      have HX := Lib.hid (HNO.out (by
        unfold askB
        rw [HHH.out, Int.toNat_natCast, HLE.out, decide_eq_false (by omega)]
        rfl))
      go_enter Tryz.func5, Tryz.ntmps5
      go_wp2_with fail
      refine HH.out.mono ?_
      rintro e w1 ⟨rfl, rfl⟩
      go_wp2_with fail
      refine HL.out.mono ?_
      rintro e w2 ⟨rfl, rfl⟩
      go_wp2_with fail
      exact HX.out _ (Grew.refl _)
    · have hl1 : decide (lg < 0) = false := decide_eq_false hl0
      obtain ⟨cb, hcb⟩ : ∃ cb, (wl.any fun y => (-2 : Int) == y) = cb := ⟨_, rfl⟩
      rw [hcb] at HCO
      have HCB := Lib.hid hcb
      clear hcb
      cases cb
      · have hnoc := HCB.out
        have HASK : Hid (askB T.B (k : Int) wl = true) := Lib.hid (by
          unfold askB
          rw [HHH.out, Int.toNat_natCast, HLE.out, decide_eq_true (by omega), hnoc]
          rfl)
        clear HNO hnoc
        have hmk : ∀ (t : TypeId) (w : World), (Instr.makeMap t none).run Tryz.prog w = .ok (.map (some w.heap.size)) (w.alloc (.map #[] 0)) := fun _ _ => rfl
        go_enter Tryz.func5, Tryz.ntmps5
        go_wp2_with fail
        refine HH.out.mono ?_
        rintro e w1 ⟨rfl, rfl⟩
        go_wp2_with fail
        refine HL.out.mono ?_
        rintro e w2 ⟨rfl, rfl⟩
        go_wp2_with fail
        refine HCO.out.mono ?_
        rintro e w3 ⟨rfl, hg⟩
        have HG3 := Lib.hid hg
        have HT3 := Lib.hid (HT.out.grew hg)
        have HI3 := Lib.hid (IntsAt.mono hg.size (IntsAt.keep hg HI.out))
        clear hg t0 tl HH HL HCO
        obtain ⟨kb, hkb⟩ : ∃ kb, w3.heap.size = kb := ⟨_, rfl⟩
        obtain ⟨w4, hw4⟩ : ∃ w4, w3.alloc (.map #[] 0) = w4 := ⟨_, rfl⟩
        have z4 : w4.heap.size = kb + 1 := by rw [← hw4, ← hkb]; exact World.size_alloc _ _
        have hm4 : (Instr.makeMap 61 none).run Tryz.prog w3 = .ok (.map (some kb)) w4 := by rw [hmk, hw4, hkb]
        obtain ⟨w5, hw5⟩ : ∃ w5, w4.alloc (.map #[] 0) = w5 := ⟨_, rfl⟩
        have z5 : w5.heap.size = kb + 1 + 1 := by rw [← hw5, ← z4]; exact World.size_alloc _ _
        have hm5 : (Instr.makeMap 62 none).run Tryz.prog w4 = .ok (.map (some (kb + 1))) w5 := by rw [hmk, hw5, z4]
        obtain ⟨w6, hw6⟩ : ∃ w6, w5.alloc (.cells #[.pointer (some ⟨T.tb, 0, none⟩), .slice wa n sc, .map (some kb), .map (some (kb + 1))] 64) = w6 := ⟨_, rfl⟩
        have g4 : Grew w3 w4 := hw4 ▸ grew_alloc w3 _
        have g5 : Grew w4 w5 := hw5 ▸ grew_alloc w4 _
        have g6 : Grew w5 w6 := hw6 ▸ grew_alloc w5 _
        have hmap4 : w6.heap[kb]? = some (mapObj []) := by
          rw [g6.block kb (by omega), g5.block kb (by omega), ← hw4, ← hkb]
          exact heap_alloc_new w3 _
        have hmap5 : w6.heap[kb + 1]? = some (mapObj []) := by
          rw [g6.block (kb + 1) (by omega), ← hw5, ← z4]
          exact heap_alloc_new w4 _
        have o6 : Owns w6 (kb + 1 + 1) [.pointer (some ⟨T.tb, 0, none⟩), .slice wa n sc, .map (some kb), .map (some (kb + 1))] 64 := by rw [← hw6, ← z5]; exact Owns.alloc w5 _ _
        have HG36 := Lib.hid ((g4.trans g5).trans g6)
        have O6 := Lib.hid o6
        have hE : (T.e kb (kb + 1 + 1) kb (kb + 1) wa sc wl).At (fun _ => False) w6 := XE.At.begin (hkb ▸ HT3.out.keep HG36.out) (by rw [HN.out]; exact o6) (hkb ▸ IntsAt.keep HG36.out HI3.out) (by omega) (Nat.le_refl _) (by omega) (by omega) HW48.out hmap4 hmap5
        have HS := Lib.hid (xstart_ok T HG.out HB.out hE k HKB.out)
        have HKB3 := Lib.hid hkb
        clear g4 g5 g6 hmap4 hmap5 o6 hE hmk
        go_wp2_with fail
        refine HS.out.mono ?_
        rintro e w7 ⟨q, rfl, q1, q2, q3, q4⟩
        clear hw4 hw5 hw6 z4 z5 hm4 hm5 hkb HS
        obtain ⟨d, hd⟩ : ∃ d, q.testBit n = d := ⟨_, rfl⟩
        have hidx : (Instr.index 66 (setV q) (.int .i64 (n : Int))).run Tryz.prog w7 = .ok (.bool d) w7 := index_set (by have := HW48.out; have := HN.out; omega) (by rw [← hd]; simpa using setL_get q (by have := HW48.out; have := HN.out; omega)) w7
        have O7 := Lib.hid (q4.owns O6.out (by omega))
        have HNT := Lib.hid q3
        have HBT := Lib.hid q4
        have HDD : Hid (d = true ↔ T.B.D k wl) := Lib.hid (by rw [← hd, ← HN.out]; exact q2)
        have k3 := O7.out.cell_at (i := 3) rfl
        have kl := O7.out.lt
        clear q2 q3 q4 hd
        go_upto_if 41 with fail
        go_cut [] (fun wx => Hid (NoteX (NextS T.B k wl) (kb + 1) wx) ∧ Hid (But (fun x => x = kb + 1) w7 wx))
        case first =>
          cases d
          · go_wp2_with fail
            go_meet
            have hnd : ¬ T.B.D k wl := fun h => by have := HDD.out.2 h; cases this
            obtain ⟨L, h1, h2, h3⟩ := HNT.out
            exact ⟨Lib.hid ⟨L, h1, h2, fun t => by rw [h3]; exact ⟨.inr, fun h => h.elim (fun h => absurd h.2 hnd) id⟩⟩, Lib.hid (But.refl _ _)⟩
          · obtain ⟨w8, hrun, hnote, hb8⟩ := run_noteX HNT.out (-1)
            have HN8 := Lib.hid hnote
            have HB8 := Lib.hid hb8
            clear hnote hb8
            go_wp2_with fail
            go_meet
            obtain ⟨L, h1, h2, h3⟩ := HN8.out
            exact ⟨Lib.hid ⟨L, h1, h2, fun t => by rw [h3]; exact ⟨fun h => h.elim .inr fun h => .inl ⟨h, HDD.out.1 trivial⟩, fun h => h.elim (fun h => .inr h.1) .inl⟩⟩, HB8⟩
        case rest =>
        obtain ⟨hnt, hbt⟩ := hcut
        obtain ⟨w8, hw8⟩ : ∃ w8, wc = w8 := ⟨_, rfl⟩
        subst hw8
        obtain ⟨L, hmL, hdL, hsL⟩ := hnt.out
        have HSL := Lib.hid hsL
        have HDL := Lib.hid hdL
        have h2lo : w2.heap.size ≤ kb := by rw [← HKB3.out]; exact HG3.out.size
        have h4lo : kb ≤ w3.heap.size := Nat.le_of_eq HKB3.out.symm
        have hWw8 : Grew w2 wc := by
          have h1 : Below w2.heap.size _ w7 := HBT.out.below (Nat.le_trans HG3.out.size HG36.out.size) fun q hq => by rcases hq with e | e <;> omega
          have h2 : Below w2.heap.size w7 wc := hbt.out.below (Nat.le_trans (Nat.le_trans HG3.out.size HG36.out.size) HBT.out.size) fun q hq => by omega
          exact Below.trans (Below.trans (HG3.out.trans HG36.out) h1) h2
        have HL0 := Lib.hid (LoopX.begin hWw8 hmL (Nat.le_succ_of_le h2lo))
        have hrg : (Instr.range 62 (.map (some (kb + 1)))).run Tryz.prog wc = .ok (.pointer (some ⟨wc.heap.size, 0, none⟩)) (wc.alloc (.mapIter (some (kb + 1)) L.length #[] L.length)) := by
          have h1 := run_range_mapObj (P := Tryz.prog) (t := 62) Tryz.underlying62 hmL
          rw [show (noteL L).length = L.length by simp [noteL]] at h1
          exact h1
        have O8 := Lib.hid (hbt.out.owns O7.out (by omega))
        have p3 := O8.out.cell_at (i := 3) rfl
        have pl := O8.out.lt
        have HKL := Lib.hid (HTK.out k L hdL hsL)
        clear hmL hdL hsL hWw8 hnt hbt k3 kl hidx h2lo h4lo
        go_wp2_with fail
        clear p3 pl hrg
        obtain ⟨r, hr10⟩ : ∃ r, wc.heap.size = r := ⟨_, rfl⟩
        have HR10 := Lib.hid hr10
        rw [hr10] at HL0
        generalize wc.alloc (.mapIter (some (kb + 1)) L.length #[] L.length) = wA at *
        rw [hr10]
        clear hr10
        go_loopg [6] (L.length + 1) (fun k v wr => ∃ (seen : List Nat) (last : Nat), Hid (LoopX w2 L (kb + 1) r seen last k v wr))
        case atStart => exact ⟨[], _, HL0.out⟩
        case round =>
          obtain ⟨seen, last, hL⟩ := hrel
          rcases hL.out.step HDL.out 0 with ⟨w9, hrun, hrow, hgw, hnd, hmm⟩ | ⟨j, t, w9, hrun, hent, hrow, hgw, hlt, hkk, hnext⟩
          · obtain ⟨M, hM⟩ : ∃ M, metL L seen = M := ⟨_, rfl⟩
            have hml := metL_len L seen
            rw [hM] at hrow hnd hmm hml
            rw [← hml] at hrow
            obtain ⟨va, vc, hv⟩ := loose_form hrow
            obtain ⟨m, hm⟩ : ∃ m, M.length = m := ⟨_, rfl⟩
            rw [hm] at hv
            have hmle : m ≤ 1000002 := by
              rw [← hm, hml]
              have h1 := hL.out.sees.1
              have h2 := nodup_nats h1 hL.out.sees.2.1
              exact Nat.le_trans h2 HKL.out
            have hso := sortInt_ok w9 w2.heap.size u6 M (by unfold reachN; omega) hrow
            rw [hm, hv] at hso
            have HSO := Lib.hid hso
            have hsl : (M.mergeSort fun x y => decide (x ≤ y)).length = m := by rw [List.length_mergeSort, hm]
            have HCL : Hid (∀ w10, looseRow w10 w2.heap.size 3 1 (.slice va m vc) m (intVs (M.mergeSort fun x y => decide (x ≤ y))) → Calls Tryz.prog 21 #[.slice va m vc] w10 fun e W' => (∃ u, e = .returned u ∧ looseRow w10 w2.heap.size 3 1 u m (intVs (M.mergeSort fun x y => decide (x ≤ y)))) ∧ w10 = W') := Lib.hid fun w10 h => by
              have h1 := clipInt_ok w10 w2.heap.size (.slice va m vc) (M.mergeSort fun x y => decide (x ≤ y)) (by rw [hsl]; exact h)
              rw [hsl] at h1
              exact h1
            have HFIN : Hid (∀ w10 u, w9.grownBy w10 u6.ownBlock → looseRow w10 w2.heap.size 3 1 u m (intVs (M.mergeSort fun x y => decide (x ≤ y))) → Q (.returned (.tuple #[u, .bool (decide (0 < m))])) w10) := Lib.hid fun w10 u h1 h2 => by
              rw [← HQ.out]
              refine ⟨grew_loose hrow hgw h1, ?_⟩
              rw [if_pos HASK.out]
              refine ⟨M.mergeSort fun x y => decide (x ≤ y), u, by rw [hsl], by rw [hsl]; exact h2, ?_, fun x => ?_⟩
              · exact sort_rise hnd
              · rw [List.mem_mergeSort, hmm, HSL.out]
                rfl
            rw [hv] at HFIN
            subst hv
            clear hrow hnd hmm hml hgw hso hsl hm hL hM
            go_wp2_with fail
            refine HSO.out.mono ?_
            rintro e w10 ⟨rfl, hr10, hg10⟩
            have HR := Lib.hid hr10
            have HG10 := Lib.hid hg10
            clear hr10 hg10
            go_wp2_with fail
            refine (HCL.out _ HR.out).mono ?_
            rintro e w11 ⟨⟨u, rfl, hu⟩, rfl⟩
            have HU := Lib.hid hu
            clear hu
            go_wp2_with fail
            exact HFIN.out _ _ HG10.out HU.out
          · obtain ⟨n9, hn9⟩ : ∃ n9, seen.length = n9 := ⟨_, rfl⟩
            have hLX := hL.out
            rw [hn9] at hrow hlt hnext
            obtain ⟨va, vc, hv⟩ := loose_form hrow
            subst hv
            obtain ⟨w12, hw12⟩ : ∃ w12, w9.alloc (.cells #[.int .i64 t] 3) = w12 := ⟨_, rfl⟩
            have g12 : Grew w9 w12 := hw12 ▸ grew_alloc w9 _
            have o12 : Owns w12 w9.heap.size [.int .i64 t] 3 := hw12 ▸ Owns.alloc w9 _ _
            have HROW := Lib.hid (row_but hrow (But.of_grew (F := fun _ => False) g12) fun _ _ => id)
            have HLIM := Lib.hid (Nat.le_trans hgw.size g12.size)
            have HNS := Lib.hid (owns_newsO o12)
            have HKK := Lib.hid hkk
            have HNX := Lib.hid (hnext w12 · · · g12)
            have H63 := Lib.hid (show n9 + 1 ≤ maxLen by have := HKL.out; unfold maxLen; omega)
            have H64 := Lib.hid (show (n9 + 1) * 8 ≤ 140737488355328 by have := HKL.out; omega)
            obtain ⟨i0, hi, hz0, hz1, hz2⟩ := info_parts info_int
            have HI0 := Lib.hid hi
            have HZ0 := Lib.hid hz0
            have HZ1 := Lib.hid hz1
            have HZ2 := Lib.hid hz2
            clear g12 o12 hrow hlt hnext hL hLX hkk hgw hn9 hi hz0 hz1 hz2
            go_wp2_with (at_builtin; refine wpList_append_loose w12 rfl _ _ 22 rfl w2.heap.size 3 i0 _ 1 8 Tryz.underlying22 HI0.out HZ0.out HZ1.out HZ2.out rfl (by decide) _ n9 (intVs (metL L seen)) rfl HROW.out ⟨w9.heap.size, 0, none⟩ 1 1 [.int .i64 t] rfl rfl HNS.out (fun u hu => by rw [List.mem_singleton.1 hu]; rfl) (by decide) H63.out H64.out HLIM.out _ rfl ?_; intro gb cap w13 hown hgrow hat hlt5; have HOWN := Lib.hid hown; have HGROW := Lib.hid hgrow; clear hown hgrow hat hlt5)
            go_roundg (gk - 1)
            case measure => exact HKK.out
            case rel => exact ⟨_, _, Lib.hid (HNX.out _ _ _ HOWN.out HGROW.out)⟩
      · have HX := Lib.hid (HNO.out (by
          unfold askB
          rw [HCB.out]
          simp))
        go_enter Tryz.func5, Tryz.ntmps5
        go_wp2_with fail
        refine HH.out.mono ?_
        rintro e w1 ⟨rfl, rfl⟩
        go_wp2_with fail
        refine HL.out.mono ?_
        rintro e w2 ⟨rfl, rfl⟩
        go_wp2_with fail
        refine HCO.out.mono ?_
        rintro e w3 ⟨rfl, hg⟩
        have HG3 := Lib.hid hg
        clear hg
        go_wp2_with fail
        exact HX.out _ HG3.out
end Go.Proofs.YtppjmdanckdobaaGreatDoor

/- derived: is a list, of which some tokens may be whatever? -/
namespace Go.Proofs.YtppjmdanckdobaaGreatDoor
open Go.RowKit Go.Sort
set_option maxHeartbeats 8000000 in
set_option maxRecDepth 40000 in
theorem xderived_ok (T : XT) (hG : T.B.Good) (hB : T.B.Lng) (k : Nat) (hk : k < T.B.bodies.length) (wa : Option Addr) (sc : Nat) (wl : List Int) (hwl : wl.length ≤ 48) (W : World) (hT : T.At W.heap.size W) (hI : IntsAt W W.heap.size wa wl) :
    Calls Tryz.prog 24 #[T.ptr, .int .i64 (k : Int), .slice wa wl.length sc] W fun e W' => ∃ b, e = .returned (.bool b) ∧ (b = true ↔ T.B.D k wl) ∧ Grew W W' := by
  have HT := Lib.hid hT
  have HI := Lib.hid hI
  have HG := Lib.hid hG
  have HB := Lib.hid hB
  have HW48 := Lib.hid hwl
  have HKB := Lib.hid hk
  have hFEW := hT.book.few.2
  unfold XT.e at hFEW
  dsimp only at hFEW
  obtain ⟨lg, hlg⟩ : ∃ lg, T.B.longN k = lg := ⟨_, rfl⟩
  have HL : Hid (∀ w, T.At w.heap.size w → Calls Tryz.prog 17 #[.pointer (some ⟨T.bk, 0, none⟩), .int .i64 k] w fun e W' => e = .returned (.int .i64 lg) ∧ W' = w) := Lib.hid fun w h => by
    rw [← hlg, ← longN_eq hFEW]
    exact slong_ok T.B _ T.V T.bk w.heap.size w h.book
  have HLE := Lib.hid hlg
  have hmk : ∀ (t : TypeId) (w : World), (Instr.makeMap t none).run Tryz.prog w = .ok (.map (some w.heap.size)) (w.alloc (.map #[] 0)) := fun _ _ => rfl
  obtain ⟨n, hn⟩ : ∃ n, wl.length = n := ⟨_, rfl⟩
  have HN := Lib.hid hn
  rw [hn]
  obtain ⟨kb, hkb⟩ : ∃ kb, W.heap.size = kb := ⟨_, rfl⟩
  obtain ⟨w4, hw4⟩ : ∃ w4, W.alloc (.map #[] 0) = w4 := ⟨_, rfl⟩
  have z4 : w4.heap.size = kb + 1 := by rw [← hw4, ← hkb]; exact World.size_alloc _ _
  have hm4 : (Instr.makeMap 61 none).run Tryz.prog W = .ok (.map (some kb)) w4 := by rw [hmk, hw4, hkb]
  obtain ⟨w5, hw5⟩ : ∃ w5, w4.alloc (.map #[] 0) = w5 := ⟨_, rfl⟩
  have z5 : w5.heap.size = kb + 1 + 1 := by rw [← hw5, ← z4]; exact World.size_alloc _ _
  have hm5 : (Instr.makeMap 62 none).run Tryz.prog w4 = .ok (.map (some (kb + 1))) w5 := by rw [hmk, hw5, z4]
  obtain ⟨w6, hw6⟩ : ∃ w6, w5.alloc (.cells #[.pointer (some ⟨T.tb, 0, none⟩), .slice wa n sc, .map (some kb), .map (some (kb + 1))] 64) = w6 := ⟨_, rfl⟩
  have g4 : Grew W w4 := hw4 ▸ grew_alloc W _
  have g5 : Grew w4 w5 := hw5 ▸ grew_alloc w4 _
  have g6 : Grew w5 w6 := hw6 ▸ grew_alloc w5 _
  have hmap4 : w6.heap[kb]? = some (mapObj []) := by
    rw [g6.block kb (by omega), g5.block kb (by omega), ← hw4, ← hkb]
    exact heap_alloc_new W _
  have hmap5 : w6.heap[kb + 1]? = some (mapObj []) := by
    rw [g6.block (kb + 1) (by omega), ← hw5, ← z4]
    exact heap_alloc_new w4 _
  have o6 : Owns w6 (kb + 1 + 1) [.pointer (some ⟨T.tb, 0, none⟩), .slice wa n sc, .map (some kb), .map (some (kb + 1))] 64 := by rw [← hw6, ← z5]; exact Owns.alloc w5 _ _
  have HG36 := Lib.hid ((g4.trans g5).trans g6)
  have O6 := Lib.hid o6
  have hE : (T.e kb (kb + 1 + 1) kb (kb + 1) wa sc wl).At (fun _ => False) w6 := XE.At.begin (hkb ▸ HT.out.keep HG36.out) (by rw [HN.out]; exact o6) (hkb ▸ IntsAt.keep HG36.out HI.out) (by omega) (Nat.le_refl _) (by omega) (by omega) HW48.out hmap4 hmap5
  have HS := Lib.hid (xstart_ok T HG.out HB.out hE k HKB.out)
  have HKB3 := Lib.hid hkb
  have hT6 := HT.out.grew HG36.out
  have HL6 := Lib.hid (HL.out w6 hT6)
  have t0 := hT6.box.cell_at (i := 0) rfl
  have tl := hT6.box.lt
  unfold XT.e at t0 tl
  dsimp only at t0 tl
  unfold XT.ptr
  have HFIN : Hid (∀ w7, But (fun k => k = kb ∨ k = kb + 1) w6 w7 → Grew W w7) := Lib.hid fun w7 hb => by
    have h1 : Below W.heap.size w6 w7 := hb.below HG36.out.size fun q hq => by rcases hq with e | e <;> omega
    exact Below.trans HG36.out h1
  have HBW : Hid (lg < 0 → ¬ T.B.D k wl) := Lib.hid fun hl ⟨nd, h1, h2⟩ => by
    have := hB wl (by omega) k nd 0 wl.length h1 (Nat.zero_le _) h2
    omega
  clear hT hI hG hB hwl hk hFEW hlg hn g4 g5 g6 hmap4 hmap5 o6 hE hmk hT6 HL
  by_cases hl0 : lg < 0
  · have hl1 : decide (0 ≤ lg) = false := decide_eq_false (by omega)
    go_enter Tryz.func24, Tryz.ntmps24
    go_wp2_with fail
    refine HL6.out.mono ?_
    rintro e w7 ⟨rfl, rfl⟩
    go_wp2_with fail
    go_ret
    exact ⟨false, rfl, ⟨nofun, fun h => absurd h (HBW.out hl0)⟩, HG36.out⟩
  · have hl1 : decide (0 ≤ lg) = true := decide_eq_true (by omega)
    go_enter Tryz.func24, Tryz.ntmps24
    go_wp2_with fail
    refine HL6.out.mono ?_
    rintro e w7 ⟨rfl, rfl⟩
    go_wp2_with fail
    refine HS.out.mono ?_
    rintro e w7 ⟨q, rfl, q1, q2, q3, q4⟩
    obtain ⟨d, hd⟩ : ∃ d, q.testBit n = d := ⟨_, rfl⟩
    have hidx : (Instr.index 66 (setV q) (.int .i64 (n : Int))).run Tryz.prog w7 = .ok (.bool d) w7 := index_set (by have := HW48.out; have := HN.out; omega) (by rw [← hd]; simpa using setL_get q (by have := HW48.out; have := HN.out; omega)) w7
    go_wp2_with fail
    go_ret
    exact ⟨d, rfl, by rw [← hd, ← HN.out]; exact q2, HFIN.out _ q4⟩
end Go.Proofs.YtppjmdanckdobaaGreatDoor

/- Rest, plain: a list is filled token by token. -/
namespace Go.Proofs.YtppjmdanckdobaaGreatDoor
open Go.RowKit
def rep (n : Nat) : List Int := List.replicate n (-2)
theorem rep_len (n : Nat) : (rep n).length = n := List.length_replicate
theorem rep_succ (n : Nat) : rep (n + 1) = -2 :: rep n := rfl
def Fil (B : Bk) (r : Nat) : List Int → Nat → List Int → Prop
  | _, 0, v => v = []
  | p, n + 1, v => ∃ x u, v = x :: u ∧ x ∈ B.kinds ∧ B.D r (p ++ x :: rep n) ∧ (∀ y ∈ B.kinds, y < x → ¬ B.D r (p ++ y :: rep n)) ∧ Fil B r (p ++ [x]) n u
section
variable {B : Bk} {r : Nat}
theorem Fil.len : ∀ {n : Nat} {p v : List Int}, Fil B r p n v → v.length = n
  | 0, _, _, h => by rw [show _ = [] from h]; rfl
  | n + 1, _, _, ⟨x, u, e, _, _, _, h⟩ => by rw [e, List.length_cons, h.len]
mutual
theorem lg_cleanW : ∀ {n : Nd} {u : List Int}, Lg B n u → ∃ v, Wld v u ∧ Lg B n v ∧ ∀ x ∈ v, 0 ≤ x
  | .mk _ nm _ _ _, _, .tok h => ⟨[(B.tok nm : Int)], ⟨h, trivial⟩, .tok (.inl rfl), fun x hx => by rw [List.mem_singleton.1 hx]; omega⟩
  | _, _, .ref h hd => by
    obtain ⟨v, h1, h2, h3⟩ := lg_cleanW hd
    exact ⟨v, h1, .ref h h2, h3⟩
  | _, _, .seq h => by
    obtain ⟨v, h1, h2, h3⟩ := lgL_cleanW h
    exact ⟨v, h1, .seq h2, h3⟩
  | _, _, .alt hx h => by
    obtain ⟨v, h1, h2, h3⟩ := lg_cleanW h
    exact ⟨v, h1, .alt hx h2, h3⟩
  | _, _, .opt0 => ⟨[], trivial, .opt0, by simp⟩
  | _, _, .opt h => by
    obtain ⟨v, h1, h2, h3⟩ := lg_cleanW h
    exact ⟨v, h1, .opt h2, h3⟩
  | _, _, .star0 => ⟨[], trivial, .star0, by simp⟩
  | _, _, .star h => by
    obtain ⟨v, h1, h2, h3⟩ := lgP_cleanW h
    exact ⟨v, h1, .star h2, h3⟩
  | _, _, .plus h => by
    obtain ⟨v, h1, h2, h3⟩ := lgP_cleanW h
    exact ⟨v, h1, .plus h2, h3⟩
  | _, _, .other hk => ⟨[], trivial, .other hk, by simp⟩
theorem lgL_cleanW : ∀ {l : List Nd} {u : List Int}, LgL B l u → ∃ v, Wld v u ∧ LgL B l v ∧ ∀ x ∈ v, 0 ≤ x
  | _, _, .nil => ⟨[], trivial, .nil, by simp⟩
  | _, _, .cons h hr => by
    obtain ⟨v, h1, h2, h3⟩ := lg_cleanW h
    obtain ⟨v', k1, k2, k3⟩ := lgL_cleanW hr
    exact ⟨v ++ v', Wld.app h1 k1, .cons h2 k2, fun x hx => (List.mem_append.1 hx).elim (h3 x) (k3 x)⟩
theorem lgP_cleanW : ∀ {n : Nd} {u : List Int}, LgP B n u → ∃ v, Wld v u ∧ LgP B n v ∧ ∀ x ∈ v, 0 ≤ x
  | _, _, .one h => by
    obtain ⟨v, h1, h2, h3⟩ := lg_cleanW h
    exact ⟨v, h1, .one h2, h3⟩
  | _, _, .more h hr => by
    obtain ⟨v, h1, h2, h3⟩ := lgP_cleanW h
    obtain ⟨v', k1, k2, k3⟩ := lg_cleanW hr
    exact ⟨v ++ v', Wld.app h1 k1, .more h2 k2, fun x hx => (List.mem_append.1 hx).elim (h3 x) (k3 x)⟩
end
theorem Wld.splitR : ∀ {p q v : List Int} {y : Int}, Wld v (p ++ y :: q) → ∃ a x b, v = a ++ x :: b ∧ Wld a p ∧ Wld b q
  | [], _, x :: b, _, h => ⟨[], x, b, rfl, trivial, h.2⟩
  | [], _, [], _, h => by cases h
  | _ :: _, _, [], _, h => by cases h
  | _ :: _, _, z :: _, _, h => by
    obtain ⟨a, x, b, rfl, h1, h2⟩ := Wld.splitR h.2
    exact ⟨z :: a, x, b, rfl, ⟨h.1, h1⟩, h2⟩
theorem d_some (hT : ∀ n ∈ B.bodies, TokIn B n) {p q : List Int} (h : B.D r (p ++ -2 :: q)) : ∃ x ∈ B.kinds, B.D r (p ++ x :: q) := by
  obtain ⟨n, h1, h2⟩ := d_rg.1 h
  obtain ⟨v, h3, h4, h5⟩ := lg_cleanW h2
  obtain ⟨a, x, b, rfl, h6, h7⟩ := Wld.splitR h3
  have hx : x ∈ a ++ x :: b := by simp
  refine ⟨x, ?_, d_rg.2 ⟨n, h1, lg_wild h4 _ (Wld.app h6 ⟨.inl rfl, h7⟩)⟩⟩
  rcases lg_toks hT h4 (hT _ (List.mem_of_getElem? h1)) x hx with e | e
  · have := h5 x hx
    omega
  · exact e
end
end Go.Proofs.YtppjmdanckdobaaGreatDoor
