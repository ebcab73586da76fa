/- NfasTexts: the first places. Printed by gennftx.py. -/
import Derived.Deep.DeepCutAuto
import Derived.Deep.CutBlock
import Derived.Test.YtkinlcichclnkaaDoorQT44
namespace Go.Proofs.YtkinlcichclnkaaDoor
open Go.RowKit

set_option maxHeartbeats 8000000 in
set_option maxRecDepth 40000 in
theorem blk12_ok {g : Gr} {l : List Int} {P B8 : Nat} {w10 : World} {pa fa : Option Addr} {pc fc : Nat} {kinds : Int} {sv fl : Nat → Value} {M FN k : Nat} {kk q' qn : Nat} {NX : List Bool} {w : World} (HAU : Hid (AutoAt w10 (.slice pa g.made.2.out.length pc) (.slice fa (placesL g.made.1.1).length fc) kinds sv fl g)) (HA10 : Hid (Owns w10 B8 [.slice pa M pc, .slice fa FN fc, .int .i64 kinds] 42)) (HM : Hid (g.made.2.out.length = M)) (HFN : Hid ((placesL g.made.1.1).length = FN)) (HFUL : Hid (g.made.2.full = false)) (HP10 : Hid (P ≤ w10.heap.size)) (hFN2 : (FN : Int) ≤ 9223372036854775807) (HQN : Hid (P ≤ qn)) (KX : Hid (Kb P w10 w)) (BX3 : Hid (BW w qn NX)) (QX : Hid (Bs M NX (Nx1 g.made.2.out g.made.1.1 (k : Int) l kk M)))
    {z0 z1 z2 z3 z4 z5 z7 z10 z11 z12 z15 z16 z17 z19 z20 z21 z22 z23 z24 z25 z26 z27 z28 z29 z30 z31 z32 z33 z34 z35 z36 z37 z38 z39 z40 z41 z42 z43 z44 z45 z46 z47 z48 z49 z50 z51 z52 z53 z54 z55 z56 z57 z58 z59 z60 z61 z62 z63 z64 z65 z66 z67 z68 z69 z70 z71 z72 z73 z74 z75 z76 z77 z78 z79 z80 z81 z82 z83 z84 z85 z86 z87 z88 z89 z90 z91 z92 z93 z94 z95 z96 z97 z98 z99 z100 z101 z102 z103 z104 z105 z106 z107 z108 z109 z110 z111 z112 z113 z114 z115 z116 z117 z118 z119 z120 z121 z122 z123 z124 z125 z126 z127 z128 z129 z130 z131 z132 z133 z134 z135 z136 z137 z138 z139 z140 z141 z142 z143 z144 z145 z146 z147 z148 z149 z150 z151 z152 z153 z154 z155 z156 z157 z158 z159 z160 z161 z162 z163 z164 z165 z166 z167 z168 z169 z170 z171 z172 z173 z174 z175 z176 z177 z178 z179 z180 z181 z182 z183 z184 z185 z186 z187 z188 z189 z190 z191 z192 z193 z194 z195 z196 z197 z198 z199 z200 z201 z202 z203 z204 z205 z206 z207 z208 z209 z210 z211 z212 z213 z214 z215 z216 z217 z218 z219 z220 z221 z222 z223 z224 z225 z226 z227 z228 z229 z230 z231 z232 z233 z234 z235 z236 z237 z238 z239 z240 z241 z242 z243 z244 z245 z246 z247 z248 z249 z250 z251 z252 z253 z254 z255 z256 z257 z258 z259 z260 z261 z262 z263 z264 z265 z266 z267 z268 z269 z270 z271 z272 z273 z274 z275 z276 z277 z278 z279 z280 z281 z282 z283 z284 z285 z286 z287 z288 z289 z290 z291 z292 z293 z294 : Value} {K : Act → World → Prop} {Q9 : Exit → Act → World → Prop} {s : Code} (hs : blkOf 12 (codeOf Tryd.f4) = some s)
    (HK : Hid (∀ (x4 x18 x171 x172 x173 x174 x175 x176 x177 x178 x179 x180 x181 x182 x183 x184 x185 x186 x187 x188 x189 x190 x191 x192 x193 x194 x195 x196 x197 x198 x199 x200 x201 x202 x203 x204 x205 x206 x207 x208 x209 x210 x211 x212 x213 x214 x215 x216 : Value) (w' : World) (NX : List Bool), Hid (Kb P w10 w') → Hid (BW w' qn NX) → Hid (Bs M NX (Nx3 g.made.2.out g.made.1.1 (k : Int) l kk 0)) → K { tmps := #[z0, z1, z2, z3, x4, z5, (.pointer (some ⟨B8, 0, none⟩)), z7, (.slice (some ⟨q', 0, none⟩) M M), (.int .i64 k), z10, z11, z12, (.int .i64 kk), (.slice (some ⟨qn, 0, none⟩) M M), z15, z16, z17, x18, z19, z20, z21, z22, z23, z24, z25, z26, z27, z28, z29, z30, z31, z32, z33, z34, z35, z36, z37, z38, z39, z40, z41, z42, z43, z44, z45, z46, z47, z48, z49, z50, z51, z52, z53, z54, z55, z56, z57, z58, z59, z60, z61, z62, z63, z64, z65, z66, z67, z68, z69, z70, z71, z72, z73, z74, z75, z76, z77, z78, z79, z80, z81, z82, z83, z84, z85, z86, z87, z88, z89, z90, z91, z92, z93, z94, z95, z96, z97, z98, z99, z100, z101, z102, z103, z104, z105, z106, z107, z108, z109, z110, z111, z112, z113, z114, z115, z116, z117, z118, z119, z120, z121, z122, z123, z124, z125, z126, z127, z128, z129, z130, z131, z132, z133, z134, z135, z136, z137, z138, z139, z140, z141, z142, z143, z144, z145, z146, z147, z148, z149, z150, z151, z152, z153, z154, z155, z156, z157, z158, z159, z160, z161, z162, z163, z164, z165, z166, z167, z168, z169, z170, x171, x172, x173, x174, x175, x176, x177, x178, x179, x180, x181, x182, x183, x184, x185, x186, x187, x188, x189, x190, x191, x192, x193, x194, x195, x196, x197, x198, x199, x200, x201, x202, x203, x204, x205, x206, x207, x208, x209, x210, x211, x212, x213, x214, x215, x216, z217, z218, z219, z220, z221, z222, z223, z224, z225, z226, z227, z228, z229, z230, z231, z232, z233, z234, z235, z236, z237, z238, z239, z240, z241, z242, z243, z244, z245, z246, z247, z248, z249, z250, z251, z252, z253, z254, z255, z256, z257, z258, z259, z260, z261, z262, z263, z264, z265, z266, z267, z268, z269, z270, z271, z272, z273, z274, z275, z276, z277, z278, z279, z280, z281, z282, z283, z284, z285, z286, z287, z288, z289, z290, z291, z292, z293, z294], defers := [] } w')) :
    s.wp Tryd.prog (Exit.then K Q9) { tmps := #[z0, z1, z2, z3, z4, z5, (.pointer (some ⟨B8, 0, none⟩)), z7, (.slice (some ⟨q', 0, none⟩) M M), (.int .i64 k), z10, z11, z12, (.int .i64 kk), (.slice (some ⟨qn, 0, none⟩) M M), z15, z16, z17, (.int .i64 0), z19, z20, z21, z22, z23, z24, z25, z26, z27, z28, z29, z30, z31, z32, z33, z34, z35, z36, z37, z38, z39, z40, z41, z42, z43, z44, z45, z46, z47, z48, z49, z50, z51, z52, z53, z54, z55, z56, z57, z58, z59, z60, z61, z62, z63, z64, z65, z66, z67, z68, z69, z70, z71, z72, z73, z74, z75, z76, z77, z78, z79, z80, z81, z82, z83, z84, z85, z86, z87, z88, z89, z90, z91, z92, z93, z94, z95, z96, z97, z98, z99, z100, z101, z102, z103, z104, z105, z106, z107, z108, z109, z110, z111, z112, z113, z114, z115, z116, z117, z118, z119, z120, z121, z122, z123, z124, z125, z126, z127, z128, z129, z130, z131, z132, z133, z134, z135, z136, z137, z138, z139, z140, z141, z142, z143, z144, z145, z146, z147, z148, z149, z150, z151, z152, z153, z154, z155, z156, z157, z158, z159, z160, z161, z162, z163, z164, z165, z166, z167, z168, z169, z170, z171, z172, z173, z174, z175, z176, z177, z178, z179, z180, z181, z182, z183, z184, z185, z186, z187, z188, z189, z190, z191, z192, z193, z194, z195, z196, z197, z198, z199, z200, z201, z202, z203, z204, z205, z206, z207, z208, z209, z210, z211, z212, z213, z214, z215, z216, z217, z218, z219, z220, z221, z222, z223, z224, z225, z226, z227, z228, z229, z230, z231, z232, z233, z234, z235, z236, z237, z238, z239, z240, z241, z242, z243, z244, z245, z246, z247, z248, z249, z250, z251, z252, z253, z254, z255, z256, z257, z258, z259, z260, z261, z262, z263, z264, z265, z266, z267, z268, z269, z270, z271, z272, z273, z274, z275, z276, z277, z278, z279, z280, z281, z282, z283, z284, z285, z286, z287, z288, z289, z290, z291, z292, z293, z294], defers := [] } w := by
  have e : blkOf 12 (codeOf Tryd.f4) = some _ := rfl
  obtain rfl := Option.some.inj (e.symm.trans hs)
  clear e hs
  go_wp2_with fail
  go_loopw [18] (fun c wr' => ∃ (f : Nat) (NY : List Bool), c = .int .i64 f ∧ f ≤ FN ∧ Hid (Kb P w10 wr') ∧ Hid (BW wr' qn NY) ∧ Hid (Bs M NY (Nx2 g.made.2.out g.made.1.1 (k : Int) l kk f))) (fun c _ => FN - (intOf c).toNat)
  case atStart => exact ⟨0, NX, rfl, Nat.zero_le _, KX.out, BX3.out, nx2_zero HM.out QX.out⟩
  case round =>
    obtain ⟨f, NY, rfl, hf, KF, BY, QF⟩ := hrel
    have oA := KF.out.owns HA10.out (by decide)
    have a0 := oA.cell_at (i := 0) rfl
    have a1 := oA.cell_at (i := 1) rfl
    have al := oA.lt
    clear oA
    by_cases hff : f < FN
    · by_cases hk0 : kk = 0
      · have hke : ((kk : Int) == 0) = true := by simp; omega
        have HK0 := Lib.hid hk0
        have hau := HAU.out.kb KF.out
        have hfi := hau.first
        rw [← HFN.out] at hff
        obtain ⟨fg, x, rfl, l2, d0, hxe, hxb⟩ := fol_at hfi hff
        rw [HFN.out] at hff
        have hxq := made_first HFUL.out hxb
        have hxm : x < M := by rw [← HM.out]; exact hxq
        obtain ⟨pg, pc, e1, l1, -, k11, -, -⟩ := pl8_at hau.row hxq
        simp only [Value.slice.injEq] at e1
        obtain ⟨rfl, -, rfl⟩ := e1
        obtain ⟨pl, hpl⟩ : ∃ pl, g.made.2.out[x]'hxq = pl := ⟨_, rfl⟩
        have HPL := Lib.hid (show g.made.2.out[x]? = some pl by rw [List.getElem?_eq_getElem hxq, hpl])
        rw [hpl] at k11
        have hx0 : decide ((x : Int) < 0) = false := decide_eq_false (by omega)
        have hx1 : decide ((M : Int) ≤ (x : Int)) = false := decide_eq_false (by omega)
        have hx2 : decide (M ≤ x) = false := decide_eq_false (by omega)
        have Q10 := Lib.hid (nx2_next HK0.out hxm HPL.out hxe QF.out)
        obtain ⟨kd, hkd⟩ : ∃ kd, pl.kind = kd := ⟨_, rfl⟩
        rw [hkd] at k11 Q10
        clear hau hfi hpl hkd hk0 hxb hxe hxq
        go_upto_region 43 with fail
        refine wp_region_hav_lit follows (by kernel_rfl) ?_
        repeat (first
          | (refine HavG.skip (fun _ => rfl) ?_; simp only [Act.put, List.setIfInBounds_toArray, List.set_cons_zero, List.set_cons_succ])
          | (refine HavG.val (fun _ => rfl) ?_ (fun x w hw _ => ?_) ?_; rotate_left; (focus (have hc := hw.cells; clear hw; go_simp; first | done | rfl)); simp only [Act.put, List.setIfInBounds_toArray, List.set_cons_zero, List.set_cons_succ]))
        refine HavG.tail (by kernel_rfl) (by kernel_rfl) (fun xs w9 hw9 _ => ?_)
        have hl9 : P ≤ wr.heap.size := Nat.le_trans HP10.out KF.out.low.size
        have K9 := Lib.hid (KF.out.trans (Kb.grew hw9 hl9))
        have Y9 := Lib.hid (show BW w9 qn NY from Owns.keep BY.out hw9)
        have hxy : x < NY.length := by rw [QF.out.1]; exact hxm
        have t0 := Y9.out.cell hxy
        have t1 := Owns.free Y9.out x
        have t2 := Owns.lt Y9.out
        have K10 := Lib.hid (K9.out.trans (Kb.set (i := x) (v := .bool (kd == (k : Int))) Y9.out HQN.out (Nat.le_trans HP10.out K9.out.low.size)))
        have Y10 := Lib.hid (Y9.out.set (i := x) (kd == (k : Int)))
        clear hl9 hw9 hxy l1 l2 d0 k11 a0 a1 al hx0 hx1 hx2
        go_wp2_with fail
        exact ⟨⟨f + 1, _, by go_num, by omega, K10.out, Y10.out, Q10.out⟩, by simp [intOf]; omega⟩
      · have hke : ((kk : Int) == 0) = false := by simp; omega
        have Q9 := Lib.hid (nx3_zero (nx2_all hk0 QF.out))
        go_wp2_with fail
        exact HK.out _ _ _ _ _ _ _ _ _ _ _ _ _ _ _ _ _ _ _ _ _ _ _ _ _ _ _ _ _ _ _ _ _ _ _ _ _ _ _ _ _ _ _ _ _ _ _ _ _ NY KF BY Q9
    · obtain rfl : FN = f := by omega
      have hq9 := QF.out
      rw [← HFN.out] at hq9
      have Q9 := Lib.hid (nx3_zero hq9)
      clear hq9
      go_wp2_with fail
      exact HK.out _ _ _ _ _ _ _ _ _ _ _ _ _ _ _ _ _ _ _ _ _ _ _ _ _ _ _ _ _ _ _ _ _ _ _ _ _ _ _ _ _ _ _ _ _ _ _ _ _ NY KF BY Q9
end Go.Proofs.YtkinlcichclnkaaDoor

/- NfasTexts: the places that hold the rune. Printed by gennftx.py. -/
namespace Go.Proofs.YtkinlcichclnkaaDoor
open Go.RowKit

set_option maxHeartbeats 8000000 in
set_option maxRecDepth 40000 in
theorem blk14_ok {g : Gr} {l : List Int} {P B8 : Nat} {w10 : World} {pa fa : Option Addr} {pc fc : Nat} {kinds : Int} {sv fl : Nat → Value} {M FN k : Nat} {kk q' qn : Nat} {NZ : List Bool} {w W : World} {la : Option Addr} {lc L : Nat} (HAU : Hid (AutoAt w10 (.slice pa g.made.2.out.length pc) (.slice fa (placesL g.made.1.1).length fc) kinds sv fl g)) (HA10 : Hid (Owns w10 B8 [.slice pa M pc, .slice fa FN fc, .int .i64 kinds] 42)) (HM : Hid (g.made.2.out.length = M)) (HP10 : Hid (P ≤ w10.heap.size)) (hM300 : M ≤ 300) (HQN : Hid (P ≤ qn)) (HPP : Hid (W.heap.size = P)) (GA : Hid (Grew W w10)) (HR0 : Hid (RunesAt W W.heap.size la l)) (HKL2 : Hid (kk < l.length)) (hkL2 : kk < L) (KZ : Hid (Kb P w10 w)) (BZ3 : Hid (BW w qn NZ)) (QZ : Hid (Bs M NZ (Nx3 g.made.2.out g.made.1.1 (k : Int) l kk 0)))
    {z0 z2 z3 z4 z5 z7 z9 z10 z11 z15 z16 z17 z18 z20 z21 z22 z23 z24 z25 z26 z27 z28 z29 z30 z31 z32 z33 z34 z35 z36 z37 z38 z39 z40 z41 z42 z43 z44 z45 z46 z47 z48 z49 z50 z51 z52 z53 z54 z55 z56 z57 z58 z59 z60 z61 z62 z63 z64 z65 z66 z67 z68 z69 z70 z71 z72 z73 z74 z75 z76 z77 z78 z79 z80 z81 z82 z83 z84 z85 z86 z87 z88 z89 z90 z91 z92 z93 z94 z95 z96 z97 z98 z99 z100 z101 z102 z103 z104 z105 z106 z107 z108 z109 z110 z111 z112 z113 z114 z115 z116 z117 z118 z119 z120 z121 z122 z123 z124 z125 z126 z127 z128 z129 z130 z131 z132 z133 z134 z135 z136 z137 z138 z139 z140 z141 z142 z143 z144 z145 z146 z147 z148 z149 z150 z151 z152 z153 z154 z155 z156 z157 z158 z159 z160 z161 z162 z163 z164 z165 z166 z167 z168 z169 z170 z171 z172 z173 z174 z175 z176 z177 z178 z179 z180 z181 z182 z183 z184 z185 z186 z187 z188 z189 z190 z191 z192 z193 z194 z195 z196 z197 z198 z199 z200 z201 z202 z203 z204 z205 z206 z207 z208 z209 z210 z211 z212 z213 z214 z215 z216 z217 z218 z219 z220 z221 z222 z223 z224 z225 z226 z227 z228 z229 z230 z231 z232 z233 z234 z235 z236 z237 z238 z239 z240 z241 z242 z243 z244 z245 z246 z247 z248 z249 z250 z251 z252 z253 z254 z255 z256 z257 z258 z259 z260 z261 z262 z263 z264 z265 z266 z267 z268 z269 z270 z271 z272 z273 z274 z275 z276 z277 z278 z279 z280 z281 z282 z283 z284 z285 z286 z287 z288 z289 z290 z291 z292 z293 z294 : Value} {K : Act → World → Prop} {Q9 : Exit → Act → World → Prop} {s : Code} (hs : blkOf 14 (codeOf Tryd.f4) = some s)
    (HK : Hid (∀ (x19 x217 x218 x219 x220 x221 x222 x223 x224 x225 x226 x227 x228 x229 x230 x231 x232 x233 x234 x235 x236 x237 x238 x239 x240 x241 x242 x243 x244 x245 x246 x247 x248 x249 x250 x251 x252 x253 x254 x255 x256 x257 : Value) (w' : World) (NX : List Bool) (b : Bool), Hid (Kb P w10 w') → Hid (BW w' qn NX) → Hid (Bs M NX (Nx3 g.made.2.out g.made.1.1 (k : Int) l kk M)) → Hid (LastTo g.made.2.out g.made.1.1 g.made.1.2 (k : Int) l kk M b) → K { tmps := #[z0, (.slice la L lc), z2, z3, z4, z5, (.pointer (some ⟨B8, 0, none⟩)), z7, (.slice (some ⟨q', 0, none⟩) M M), z9, z10, z11, (.bool b), (.int .i64 kk), (.slice (some ⟨qn, 0, none⟩) M M), z15, z16, z17, z18, x19, z20, z21, z22, z23, z24, z25, z26, z27, z28, z29, z30, z31, z32, z33, z34, z35, z36, z37, z38, z39, z40, z41, z42, z43, z44, z45, z46, z47, z48, z49, z50, z51, z52, z53, z54, z55, z56, z57, z58, z59, z60, z61, z62, z63, z64, z65, z66, z67, z68, z69, z70, z71, z72, z73, z74, z75, z76, z77, z78, z79, z80, z81, z82, z83, z84, z85, z86, z87, z88, z89, z90, z91, z92, z93, z94, z95, z96, z97, z98, z99, z100, z101, z102, z103, z104, z105, z106, z107, z108, z109, z110, z111, z112, z113, z114, z115, z116, z117, z118, z119, z120, z121, z122, z123, z124, z125, z126, z127, z128, z129, z130, z131, z132, z133, z134, z135, z136, z137, z138, z139, z140, z141, z142, z143, z144, z145, z146, z147, z148, z149, z150, z151, z152, z153, z154, z155, z156, z157, z158, z159, z160, z161, z162, z163, z164, z165, z166, z167, z168, z169, z170, z171, z172, z173, z174, z175, z176, z177, z178, z179, z180, z181, z182, z183, z184, z185, z186, z187, z188, z189, z190, z191, z192, z193, z194, z195, z196, z197, z198, z199, z200, z201, z202, z203, z204, z205, z206, z207, z208, z209, z210, z211, z212, z213, z214, z215, z216, x217, x218, x219, x220, x221, x222, x223, x224, x225, x226, x227, x228, x229, x230, x231, x232, x233, x234, x235, x236, x237, x238, x239, x240, x241, x242, x243, x244, x245, x246, x247, x248, x249, x250, x251, x252, x253, x254, x255, x256, x257, z258, z259, z260, z261, z262, z263, z264, z265, z266, z267, z268, z269, z270, z271, z272, z273, z274, z275, z276, z277, z278, z279, z280, z281, z282, z283, z284, z285, z286, z287, z288, z289, z290, z291, z292, z293, z294], defers := [] } w')) :
    s.wp Tryd.prog (Exit.then K Q9) { tmps := #[z0, (.slice la L lc), z2, z3, z4, z5, (.pointer (some ⟨B8, 0, none⟩)), z7, (.slice (some ⟨q', 0, none⟩) M M), z9, z10, z11, (.bool false), (.int .i64 kk), (.slice (some ⟨qn, 0, none⟩) M M), z15, z16, z17, z18, (.int .i64 0), z20, z21, z22, z23, z24, z25, z26, z27, z28, z29, z30, z31, z32, z33, z34, z35, z36, z37, z38, z39, z40, z41, z42, z43, z44, z45, z46, z47, z48, z49, z50, z51, z52, z53, z54, z55, z56, z57, z58, z59, z60, z61, z62, z63, z64, z65, z66, z67, z68, z69, z70, z71, z72, z73, z74, z75, z76, z77, z78, z79, z80, z81, z82, z83, z84, z85, z86, z87, z88, z89, z90, z91, z92, z93, z94, z95, z96, z97, z98, z99, z100, z101, z102, z103, z104, z105, z106, z107, z108, z109, z110, z111, z112, z113, z114, z115, z116, z117, z118, z119, z120, z121, z122, z123, z124, z125, z126, z127, z128, z129, z130, z131, z132, z133, z134, z135, z136, z137, z138, z139, z140, z141, z142, z143, z144, z145, z146, z147, z148, z149, z150, z151, z152, z153, z154, z155, z156, z157, z158, z159, z160, z161, z162, z163, z164, z165, z166, z167, z168, z169, z170, z171, z172, z173, z174, z175, z176, z177, z178, z179, z180, z181, z182, z183, z184, z185, z186, z187, z188, z189, z190, z191, z192, z193, z194, z195, z196, z197, z198, z199, z200, z201, z202, z203, z204, z205, z206, z207, z208, z209, z210, z211, z212, z213, z214, z215, z216, z217, z218, z219, z220, z221, z222, z223, z224, z225, z226, z227, z228, z229, z230, z231, z232, z233, z234, z235, z236, z237, z238, z239, z240, z241, z242, z243, z244, z245, z246, z247, z248, z249, z250, z251, z252, z253, z254, z255, z256, z257, z258, z259, z260, z261, z262, z263, z264, z265, z266, z267, z268, z269, z270, z271, z272, z273, z274, z275, z276, z277, z278, z279, z280, z281, z282, z283, z284, z285, z286, z287, z288, z289, z290, z291, z292, z293, z294], defers := [] } w := by
  have e : blkOf 14 (codeOf Tryd.f4) = some _ := rfl
  obtain rfl := Option.some.inj (e.symm.trans hs)
  clear e hs
  go_wp2_with fail
  go_loopw [12, 19] (fun a12 c wr' => ∃ (p : Nat) (NY : List Bool) (b : Bool), a12 = .bool b ∧ c = .int .i64 p ∧ p ≤ M ∧ Hid (Kb P w10 wr') ∧ Hid (BW wr' qn NY) ∧ Hid (Bs M NY (Nx3 g.made.2.out g.made.1.1 (k : Int) l kk p)) ∧ Hid (LastTo g.made.2.out g.made.1.1 g.made.1.2 (k : Int) l kk p b)) (fun _ c _ => M - (intOf c).toNat)
  case atStart => exact ⟨0, NZ, false, rfl, rfl, Nat.zero_le _, KZ.out, BZ3.out, QZ.out, last_zero⟩
  case round =>
    obtain ⟨p, NY, b, rfl, rfl, hp, KF, BY, QF, LF⟩ := hrel
    by_cases hpm : p < M
    · have hpq : p < g.made.2.out.length := by rw [HM.out]; exact hpm
      have HPQ := Lib.hid hpq
      have hau := HAU.out.kb KF.out
      obtain ⟨pg, pc, e1, l1, k10, k11, k12, k13⟩ := pl8_at hau.row hpq
      simp only [Value.slice.injEq] at e1
      obtain ⟨rfl, -, rfl⟩ := e1
      obtain ⟨sa, sc, hsv, hrg⟩ := rg_row (hau.set p hpq)
      have hsle := loose_le (hau.set p hpq)
      rw [hsv] at k10
      obtain ⟨pl, hpl⟩ : ∃ pl, g.made.2.out[p]'hpq = pl := ⟨_, rfl⟩
      have HPL := Lib.hid (show g.made.2.out[p]? = some pl by rw [List.getElem?_eq_getElem hpq, hpl])
      rw [hpl] at k10 hrg hsle
      unfold maxLen at hsle
      obtain ⟨rb, ro, rfl, hrb, d2⟩ := HR0.out kk HKL2.out
      have HWR : Hid (Below P W wr) := Lib.hid (by
        have h := GA.out
        unfold Grew at h
        rw [HPP.out] at h
        exact h.trans KF.out.low)
      rw [HPP.out] at hrb
      have d0 := (HWR.out.cell hrb).trans d2
      have dl := Nat.lt_of_lt_of_le hrb (Nat.le_trans HP10.out KF.out.low.size)
      have hr9 : l[kk]'HKL2.out = l.getD kk 0 := by rw [List.getD_eq_getElem?_getD, List.getElem?_eq_getElem HKL2.out]; rfl
      rw [hr9] at d0
      obtain ⟨r, hr⟩ : ∃ r, l.getD kk 0 = r := ⟨_, rfl⟩
      rw [hr] at d0
      have HH : Hid (∀ w, Grew wr w → Calls Tryd.prog 11 #[.slice sa pl.set.length sc, .int .i32 r] w fun e W' => e = .returned (.bool (holdsB pl.set r)) ∧ Grew w W') := Lib.hid fun w hw => holds8_ok pl.set r (by omega) w sa sc ((hrg.keep hw).mono hw.size)
      obtain ⟨sl, hsl⟩ : ∃ n, pl.set.length = n := ⟨_, rfl⟩
      rw [hsl] at k10 HH
      obtain ⟨ls, hls⟩ : ∃ b, g.made.1.2.testBit p = b := ⟨_, rfl⟩
      rw [hls] at k12
      have HLS := Lib.hid hls
      have hpy : p < NY.length := by rw [QF.out.1]; exact hpm
      have t0 := BY.out.cell hpy
      have t2 := Owns.lt BY.out
      obtain ⟨x, hx⟩ : ∃ x, NY.getD p false = x := ⟨_, rfl⟩
      rw [hx] at t0
      obtain ⟨y, hy⟩ : ∃ y, y = (x && holdsB pl.set r) := ⟨_, rfl⟩
      have oA := KF.out.owns HA10.out (by decide)
      have a0 := oA.cell_at (i := 0) rfl
      have al := oA.lt
      have Q10 := Lib.hid (nx3_next (y := y) hpm HPL.out hx (by rw [hr]; exact hy) QF.out)
      have L10 : Hid (∀ c, c = (b || y && ls) → LastTo g.made.2.out g.made.1.1 g.made.1.2 (k : Int) l kk (p + 1) c) := Lib.hid fun c hc => last_next (y := y) hpm HPL.out hx (by rw [hr]; exact hy) QF.out LF.out (by rw [hls]; exact hc)
      have HY := Lib.hid hy
      have HPY := Lib.hid hpy
      clear hpq hau hsv hrg hsle hpl hrb d2 hr9 hr hsl hls hpy hx hy oA k11 k13
      go_upto_region 47 with fail
      go_cut [] from 217 to 257 (fun wx => Hid (Kb P w10 wx) ∧ Hid (BW wx qn (NY.set p y)))
      case first =>
        clear Q10 L10
        cases x
        · obtain rfl : y = false := HY.out
          clear HY
          refine wp_region_hav_lit follows (by kernel_rfl) ?_
          repeat (first
              | (refine HavG.skip (fun _ => rfl) ?_; simp only [Act.put, List.setIfInBounds_toArray, List.set_cons_zero, List.set_cons_succ])
              | (refine HavG.val (fun _ => rfl) ?_ (fun x w hw _ => ?_) ?_; rotate_left; (focus (have hc := hw.cells; clear hw; go_simp; first | done | rfl)); simp only [Act.put, List.setIfInBounds_toArray, List.set_cons_zero, List.set_cons_succ]))
          refine HavG.tail (by kernel_rfl) (by kernel_rfl) (fun x w9 hw9 _ => ?_)
          have hl9 : P ≤ wr.heap.size := Nat.le_trans HP10.out KF.out.low.size
          have K9 := Lib.hid (KF.out.trans (Kb.grew hw9 hl9))
          have Y9 := Lib.hid (show BW w9 qn NY from Owns.keep BY.out hw9)
          have u0 := Y9.out.cell HPY.out
          have u1 := Owns.free Y9.out p
          have u2 := Owns.lt Y9.out
          have K10 := Lib.hid (K9.out.trans (Kb.set (i := p) (v := .bool false) Y9.out HQN.out (Nat.le_trans HP10.out K9.out.low.size)))
          have Y10 := Lib.hid (Y9.out.set (i := p) false)
          clear hl9 hw9 t0 t2 d0 dl a0 al k10 k12 l1
          go_wp2_with fail
          go_meet
          exact ⟨K10.out, Y10.out⟩
        · obtain ⟨hb, hhb⟩ : ∃ b, holdsB pl.set r = b := ⟨_, rfl⟩
          obtain rfl : y = hb := by rw [HY.out, ← hhb]; rfl
          rw [hhb] at HH
          clear HY hhb
          refine wp_region_hav_lit follows (by kernel_rfl) ?_
          iterate 17 (first
              | (refine HavG.skip (fun _ => rfl) ?_; simp only [Act.put, List.setIfInBounds_toArray, List.set_cons_zero, List.set_cons_succ])
              | (refine HavG.val (fun _ => rfl) ?_ (fun x w hw _ => ?_) ?_; rotate_left; (focus (have hc := hw.cells; clear hw; go_simp; first | done | rfl)); simp only [Act.put, List.setIfInBounds_toArray, List.set_cons_zero, List.set_cons_succ]))
          refine HavG.det (fun _ => rfl) (.bool y) (fun x w hw _ => ?_) ?_
          · have HW := Lib.hid hw
            clear hw
            go_simp
            refine (HH.out w HW.out).mono ?_
            rintro e w' ⟨rfl, h⟩
            exact ⟨rfl, h⟩
          simp only [Act.put, List.setIfInBounds_toArray, List.set_cons_zero, List.set_cons_succ]
          repeat (first
              | (refine HavG.skip (fun _ => rfl) ?_; simp only [Act.put, List.setIfInBounds_toArray, List.set_cons_zero, List.set_cons_succ])
              | (refine HavG.val (fun _ => rfl) ?_ (fun x w hw _ => ?_) ?_; rotate_left; (focus (have hc := hw.cells; clear hw; go_simp; first | done | rfl)); simp only [Act.put, List.setIfInBounds_toArray, List.set_cons_zero, List.set_cons_succ]))
          refine HavG.tail (by kernel_rfl) (by kernel_rfl) (fun x w9 hw9 _ => ?_)
          have hl9 : P ≤ wr.heap.size := Nat.le_trans HP10.out KF.out.low.size
          have K9 := Lib.hid (KF.out.trans (Kb.grew hw9 hl9))
          have Y9 := Lib.hid (show BW w9 qn NY from Owns.keep BY.out hw9)
          have u0 := Y9.out.cell HPY.out
          have u1 := Owns.free Y9.out p
          have u2 := Owns.lt Y9.out
          have K10 := Lib.hid (K9.out.trans (Kb.set (i := p) (v := .bool y) Y9.out HQN.out (Nat.le_trans HP10.out K9.out.low.size)))
          have Y10 := Lib.hid (Y9.out.set (i := p) y)
          clear hl9 hw9 t0 t2 d0 dl a0 al k10 k12 l1
          go_wp2_with fail
          go_meet
          exact ⟨K10.out, Y10.out⟩
      case rest =>
        obtain ⟨KC, YC⟩ := hcut
        obtain ⟨w22, hw22⟩ : ∃ z, z = wc := ⟨_, rfl⟩
        subst hw22
        clear t0 t2 d0 dl a0 al k10 k12 l1 HH HY
        have hau := HAU.out.kb KC.out
        obtain ⟨pg', pc', e1, l1, -, -, k12, -⟩ := pl8_at hau.row HPQ.out
        simp only [Value.slice.injEq, Option.some.injEq, Addr.mk.injEq, and_true] at e1
        obtain ⟨rfl, -, rfl⟩ := e1
        rw [HLS.out] at k12
        have oA := KC.out.owns HA10.out (by decide)
        have a0 := oA.cell_at (i := 0) rfl
        have al := oA.lt
        have t0 := YC.out.cell (i := p) (by rw [List.length_set]; exact HPY.out)
        rw [getD_setN HPY.out, if_pos rfl] at t0
        have t2 := Owns.lt YC.out
        clear hau oA
        cases b
        · cases y
          · have LN := Lib.hid (L10.out false (by simp))
            clear L10
            go_wp2_with fail
            exact ⟨⟨p + 1, NY.set p false, false, rfl, by go_num, by omega, KC.out, YC.out, Q10.out, LN.out⟩, by simp [intOf]; omega⟩
          · have LN := Lib.hid (L10.out ls (by simp))
            clear L10
            go_wp2_with fail
            exact ⟨⟨p + 1, NY.set p true, ls, rfl, by go_num, by omega, KC.out, YC.out, Q10.out, LN.out⟩, by simp [intOf]; omega⟩
        · have LN := Lib.hid (L10.out true (by simp))
          clear L10
          go_wp2_with fail
          exact ⟨⟨p + 1, NY.set p y, true, rfl, by go_num, by omega, KC.out, YC.out, Q10.out, LN.out⟩, by simp [intOf]; omega⟩
    · obtain rfl : M = p := by omega
      go_wp2_with fail
      exact HK.out _ _ _ _ _ _ _ _ _ _ _ _ _ _ _ _ _ _ _ _ _ _ _ _ _ _ _ _ _ _ _ _ _ _ _ _ _ _ _ _ _ _ _ NY b KF BY QF LF
end Go.Proofs.YtkinlcichclnkaaDoor
