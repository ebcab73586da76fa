/- NfasTexts: from rune to rune. Printed by gennftx.py. -/
import Derived.Deep.DeepCutAuto
import Derived.Deep.CutBlock
import Derived.Test.YtkinlcichclnkaaDoorQT44
import Derived.Test.YtkinlcichclnkaaDoorQT45
namespace Go.Proofs.YtkinlcichclnkaaDoor
open Go.RowKit

set_option maxHeartbeats 8000000 in
set_option maxRecDepth 40000 in
theorem blk6_ok {g : Gr} {l : List Int} {P B8 : Nat} {w10 : World} {pa fa : Option Addr} {pc fc : Nat} {kinds : Int} {sv fl : Nat → Value} {M FN k : Nat} {q : Nat} {AT' : List Bool} {w W : World} {la : Option Addr} {lc L : Nat} (HAU : Hid (AutoAt w10 (.slice pa g.made.2.out.length pc) (.slice fa (placesL g.made.1.1).length fc) kinds sv fl g)) (HA10 : Hid (Owns w10 B8 [.slice pa M pc, .slice fa FN fc, .int .i64 kinds] 42)) (HM : Hid (g.made.2.out.length = M)) (HFN : Hid ((placesL g.made.1.1).length = FN)) (HFUL : Hid (g.made.2.full = false)) (HP10 : Hid (P ≤ w10.heap.size)) (hM300 : M ≤ 300) (hFN2 : (FN : Int) ≤ 9223372036854775807) (hL12 : L ≤ 12) (HPP : Hid (W.heap.size = P)) (GA : Hid (Grew W w10)) (HR0 : Hid (RunesAt W W.heap.size la l)) (HL : Hid (l.length = L)) (HQ : Hid (P ≤ q)) (KR2 : Hid (Kb P w10 w)) (BR2 : Hid (BW w q AT')) (HB0 : Hid (Bs M AT' (Way g.made.2.out g.made.1.1 (k : Int) l 0)))
    {z0 z2 z3 z4 z5 z7 z10 z11 z14 z15 z16 z17 z18 z19 z20 z21 z22 z23 z24 z25 z26 z27 z28 z29 z30 z31 z32 z33 z34 z35 z36 z37 z38 z39 z40 z41 z42 z43 z44 z45 z46 z47 z48 z49 z50 z51 z52 z53 z54 z55 z56 z57 z58 z59 z60 z61 z62 z63 z64 z65 z66 z67 z68 z69 z70 z71 z72 z73 z74 z75 z76 z77 z78 z79 z80 z81 z82 z83 z84 z85 z86 z87 z88 z89 z90 z91 z92 z93 z94 z95 z96 z97 z98 z99 z100 z101 z102 z103 z104 z105 z106 z107 z108 z109 z110 z111 z112 z113 z114 z115 z116 z117 z118 z119 z120 z121 z122 z123 z124 z125 z126 z127 z128 z129 z130 z131 z132 z133 z134 z135 z136 z137 z138 z139 z140 z141 z142 z143 z144 z145 z146 z147 z148 z149 z150 z151 z152 z153 z154 z155 z156 z157 z158 z159 z160 z161 z162 z163 z164 z165 z166 z167 z168 z169 z170 z171 z172 z173 z174 z175 z176 z177 z178 z179 z180 z181 z182 z183 z184 z185 z186 z187 z188 z189 z190 z191 z192 z193 z194 z195 z196 z197 z198 z199 z200 z201 z202 z203 z204 z205 z206 z207 z208 z209 z210 z211 z212 z213 z214 z215 z216 z217 z218 z219 z220 z221 z222 z223 z224 z225 z226 z227 z228 z229 z230 z231 z232 z233 z234 z235 z236 z237 z238 z239 z240 z241 z242 z243 z244 z245 z246 z247 z248 z249 z250 z251 z252 z253 z254 z255 z256 z257 z258 z259 z260 z261 z262 z263 z264 z265 z266 z267 z268 z269 z270 z271 z272 z273 z274 z275 z276 z277 z278 z279 z280 z281 z282 z283 z284 z285 z286 z287 z288 z289 z290 z291 z292 z293 z294 : Value} {K : Act → World → Prop} {Q9 : Exit → Act → World → Prop} {s : Code} (hs : blkOf 6 (codeOf Tryd.f4) = some s)
    (HK : Hid (∀ (x4 x13 x14 x15 x16 x17 x18 x19 x101 x102 x103 x104 x105 x106 x107 x108 x109 x110 x111 x112 x113 x114 x115 x116 x117 x118 x119 x120 x121 x122 x123 x124 x125 x126 x127 x128 x129 x130 x131 x132 x133 x134 x135 x136 x137 x138 x139 x140 x141 x142 x143 x144 x145 x146 x147 x148 x149 x150 x151 x152 x153 x154 x155 x156 x157 x158 x159 x160 x161 x162 x163 x164 x165 x166 x167 x168 x169 x170 x171 x172 x173 x174 x175 x176 x177 x178 x179 x180 x181 x182 x183 x184 x185 x186 x187 x188 x189 x190 x191 x192 x193 x194 x195 x196 x197 x198 x199 x200 x201 x202 x203 x204 x205 x206 x207 x208 x209 x210 x211 x212 x213 x214 x215 x216 x217 x218 x219 x220 x221 x222 x223 x224 x225 x226 x227 x228 x229 x230 x231 x232 x233 x234 x235 x236 x237 x238 x239 x240 x241 x242 x243 x244 x245 x246 x247 x248 x249 x250 x251 x252 x253 x254 x255 x256 x257 x258 : Value) (w' : World) (q2 : Nat) (AT2 : List Bool) (lb : Bool), Hid (P ≤ q2) → Hid (Kb P w10 w') → Hid (BW w' q2 AT2) → Hid (Bs M AT2 (Way g.made.2.out g.made.1.1 (k : Int) l L)) → Hid (L ≠ 0 → (lb = true ↔ ∃ z, Way g.made.2.out g.made.1.1 (k : Int) l L z ∧ g.made.1.2.testBit z = true)) → K { tmps := #[z0, (.slice la L lc), z2, z3, x4, z5, (.pointer (some ⟨B8, 0, none⟩)), z7, (.slice (some ⟨q2, 0, none⟩) M M), (.int .i64 k), z10, z11, (.bool lb), x13, x14, x15, x16, x17, x18, x19, z20, z21, z22, z23, z24, z25, z26, z27, z28, z29, z30, z31, z32, z33, z34, z35, z36, z37, z38, z39, z40, z41, z42, z43, z44, z45, z46, z47, z48, z49, z50, z51, z52, z53, z54, z55, z56, z57, z58, z59, z60, z61, z62, z63, z64, z65, z66, z67, z68, z69, z70, z71, z72, z73, z74, z75, z76, z77, z78, z79, z80, z81, z82, z83, z84, z85, z86, z87, z88, z89, z90, z91, z92, z93, z94, z95, z96, z97, z98, z99, z100, x101, x102, x103, x104, x105, x106, x107, x108, x109, x110, x111, x112, x113, x114, x115, x116, x117, x118, x119, x120, x121, x122, x123, x124, x125, x126, x127, x128, x129, x130, x131, x132, x133, x134, x135, x136, x137, x138, x139, x140, x141, x142, x143, x144, x145, x146, x147, x148, x149, x150, x151, x152, x153, x154, x155, x156, x157, x158, x159, x160, x161, x162, x163, x164, x165, x166, x167, x168, x169, x170, x171, x172, x173, x174, x175, x176, x177, x178, x179, x180, x181, x182, x183, x184, x185, x186, x187, x188, x189, x190, x191, x192, x193, x194, x195, x196, x197, x198, x199, x200, x201, x202, x203, x204, x205, x206, x207, x208, x209, x210, x211, x212, x213, x214, x215, x216, x217, x218, x219, x220, x221, x222, x223, x224, x225, x226, x227, x228, x229, x230, x231, x232, x233, x234, x235, x236, x237, x238, x239, x240, x241, x242, x243, x244, x245, x246, x247, x248, x249, x250, x251, x252, x253, x254, x255, x256, x257, x258, z259, z260, z261, z262, z263, z264, z265, z266, z267, z268, z269, z270, z271, z272, z273, z274, z275, z276, z277, z278, z279, z280, z281, z282, z283, z284, z285, z286, z287, z288, z289, z290, z291, z292, z293, z294], defers := [] } w')) :
    s.wp Tryd.prog (Exit.then K Q9) { tmps := #[z0, (.slice la L lc), z2, z3, z4, z5, (.pointer (some ⟨B8, 0, none⟩)), z7, (.slice (some ⟨q, 0, none⟩) M M), (.int .i64 k), z10, z11, (.bool false), (.int .i64 0), z14, z15, z16, z17, z18, z19, z20, z21, z22, z23, z24, z25, z26, z27, z28, z29, z30, z31, z32, z33, z34, z35, z36, z37, z38, z39, z40, z41, z42, z43, z44, z45, z46, z47, z48, z49, z50, z51, z52, z53, z54, z55, z56, z57, z58, z59, z60, z61, z62, z63, z64, z65, z66, z67, z68, z69, z70, z71, z72, z73, z74, z75, z76, z77, z78, z79, z80, z81, z82, z83, z84, z85, z86, z87, z88, z89, z90, z91, z92, z93, z94, z95, z96, z97, z98, z99, z100, z101, z102, z103, z104, z105, z106, z107, z108, z109, z110, z111, z112, z113, z114, z115, z116, z117, z118, z119, z120, z121, z122, z123, z124, z125, z126, z127, z128, z129, z130, z131, z132, z133, z134, z135, z136, z137, z138, z139, z140, z141, z142, z143, z144, z145, z146, z147, z148, z149, z150, z151, z152, z153, z154, z155, z156, z157, z158, z159, z160, z161, z162, z163, z164, z165, z166, z167, z168, z169, z170, z171, z172, z173, z174, z175, z176, z177, z178, z179, z180, z181, z182, z183, z184, z185, z186, z187, z188, z189, z190, z191, z192, z193, z194, z195, z196, z197, z198, z199, z200, z201, z202, z203, z204, z205, z206, z207, z208, z209, z210, z211, z212, z213, z214, z215, z216, z217, z218, z219, z220, z221, z222, z223, z224, z225, z226, z227, z228, z229, z230, z231, z232, z233, z234, z235, z236, z237, z238, z239, z240, z241, z242, z243, z244, z245, z246, z247, z248, z249, z250, z251, z252, z253, z254, z255, z256, z257, z258, z259, z260, z261, z262, z263, z264, z265, z266, z267, z268, z269, z270, z271, z272, z273, z274, z275, z276, z277, z278, z279, z280, z281, z282, z283, z284, z285, z286, z287, z288, z289, z290, z291, z292, z293, z294], defers := [] } w := by
  have e : blkOf 6 (codeOf Tryd.f4) = some _ := rfl
  obtain rfl := Option.some.inj (e.symm.trans hs)
  clear e hs
  have hL12' := hL12
  go_wp2_with fail
  go_loopw [8, 12, 13] (fun a8 a12 c wr' => ∃ (kk q : Nat) (AT : List Bool) (lb : Bool), a8 = .slice (some ⟨q, 0, none⟩) M M ∧ a12 = .bool lb ∧ c = .int .i64 kk ∧ kk ≤ L ∧ Hid (P ≤ q) ∧ Hid (Kb P w10 wr') ∧ Hid (BW wr' q AT) ∧ Hid (Bs M AT (Way g.made.2.out g.made.1.1 (k : Int) l kk)) ∧ Hid (kk ≠ 0 → (lb = true ↔ ∃ z, Way g.made.2.out g.made.1.1 (k : Int) l kk z ∧ g.made.1.2.testBit z = true))) (fun _ _ c _ => L - (intOf c).toNat)
  case atStart => exact ⟨0, q, AT', false, rfl, rfl, rfl, Nat.zero_le _, HQ.out, KR2.out, BR2.out, HB0.out, fun h => absurd rfl h⟩
  case round =>
    obtain ⟨kk, q', AT2, lb, rfl, rfl, rfl, hkL, HQ', KR4, BR4, BS4, LB4⟩ := hrel
    by_cases hkl : kk < L
    · skip
      have hkl2 : kk < l.length := by rw [HL.out]; exact hkl
      have HKL2 := Lib.hid hkl2
      have hmb := make_bools M (by unfold reachN; omega) wr
      obtain ⟨qn, hqn⟩ : ∃ q, wr.heap.size = q := ⟨_, rfl⟩
      obtain ⟨wa, hwa⟩ : ∃ w, wr.alloc (.cells (List.replicate M (.bool false)).toArray 4) = w := ⟨_, rfl⟩
      rw [hwa, hqn] at hmb
      have ga : Grew wr wa := hwa ▸ grew_alloc wr _
      have hlr : P ≤ wr.heap.size := Nat.le_trans HP10.out KR4.out.low.size
      have HNE : Hid (q' ≠ qn) := Lib.hid (by have := Owns.lt BR4.out; omega)
      have KN := Lib.hid (KR4.out.trans (Kb.grew ga hlr))
      have BN := Lib.hid (show BW wa q' AT2 from Owns.keep BR4.out ga)
      have BX := Lib.hid (show BW wa qn (List.replicate M false) by
        unfold BW
        rw [List.map_replicate, ← hqn, ← hwa]
        exact Owns.alloc wr _ _)
      have HQN : Hid (P ≤ qn) := Lib.hid (by omega)
      obtain ⟨Z0, hZ0⟩ : ∃ Z, List.replicate M false = Z := ⟨_, rfl⟩
      have BZ : Hid (Bs M Z0 (Nx1 g.made.2.out g.made.1.1 (k : Int) l kk 0)) := Lib.hid (nx1_zero hZ0.symm)
      rw [hZ0] at BX
      clear ga hlr hZ0 hkl2
      go_upto_block 8 with fail
      clear hwa hmb hqn
      refine blk8_ok HAU HA10 HM HFUL HP10 hM300 HQN HNE BS4 KN BN BX BZ (hs := ?hs) (HK := Lib.hid ?hk)
      case hs => kernel_rfl
      case hk =>
        intro x4 x15 x16 x17 x110 x111 x112 x113 x114 x115 x116 x117 x118 x119 x120 x121 x122 x123 x124 x125 x126 x127 x128 x129 x130 x131 x132 x133 x134 x135 x136 x137 x138 x139 x140 x141 x142 x143 x144 x145 x146 x147 x148 x149 x150 x151 x152 x153 x154 x155 x156 x157 x158 x159 x160 x161 x162 x163 x164 x165 x166 x167 x168 x169 x170 w20 NX KX BX2 BX3 QX
        clear KN BN BX BZ
        go_upto_block 12 with fail
        refine blk12_ok HAU HA10 HM HFN HFUL HP10 hFN2 HQN KX BX3 QX (hs := ?hs) (HK := Lib.hid ?hk)
        case hs => kernel_rfl
        case hk =>
          intro x4 x18 x171 x172 x173 x174 x175 x176 x177 x178 x179 x180 x181 x182 x183 x184 x185 x186 x187 x188 x189 x190 x191 x192 x193 x194 x195 x196 x197 x198 x199 x200 x201 x202 x203 x204 x205 x206 x207 x208 x209 x210 x211 x212 x213 x214 x215 x216 w21 NZ KZ BZ3 QZ
          clear KX BX2 BX3 QX
          go_upto_block 14 with fail
          refine blk14_ok HAU HA10 HM HP10 hM300 HQN HPP GA HR0 HKL2 hkl KZ BZ3 QZ (hs := ?hs) (HK := Lib.hid ?hk)
          case hs => kernel_rfl
          case hk =>
            intro x19 x217 x218 x219 x220 x221 x222 x223 x224 x225 x226 x227 x228 x229 x230 x231 x232 x233 x234 x235 x236 x237 x238 x239 x240 x241 x242 x243 x244 x245 x246 x247 x248 x249 x250 x251 x252 x253 x254 x255 x256 x257 w22 NL b KL BL QL LL
            have hfin : ∀ z, g.made.1.1.testBit z = true → z < g.made.2.out.length := fun z hz => made_first HFUL.out hz
            have hend := nx3_end HKL2.out hfin (by rw [HM.out]; omega) QL.out
            have hle := last_end HKL2.out hfin (by rw [HM.out]; omega) HM.out LL.out
            have HEND := Lib.hid hend
            have HLE := Lib.hid hle
            clear hfin hend hle KZ BZ3 QZ
            go_wp2_with fail
            exact ⟨⟨kk + 1, qn, NL, b, rfl, rfl, by go_num, by omega, HQN.out, KL.out, BL.out, HEND.out, fun _ => HLE.out⟩, by simp [intOf]; omega⟩
    · obtain rfl : L = kk := by omega
      go_wp2_with fail
      exact HK.out _ _ _ _ _ _ _ _ _ _ _ _ _ _ _ _ _ _ _ _ _ _ _ _ _ _ _ _ _ _ _ _ _ _ _ _ _ _ _ _ _ _ _ _ _ _ _ _ _ _ _ _ _ _ _ _ _ _ _ _ _ _ _ _ _ _ _ _ _ _ _ _ _ _ _ _ _ _ _ _ _ _ _ _ _ _ _ _ _ _ _ _ _ _ _ _ _ _ _ _ _ _ _ _ _ _ _ _ _ _ _ _ _ _ _ _ _ _ _ _ _ _ _ _ _ _ _ _ _ _ _ _ _ _ _ _ _ _ _ _ _ _ _ _ _ _ _ _ _ _ _ _ _ _ _ _ _ _ _ _ _ _ _ _ _ _ _ q' AT2 lb HQ' KR4 BR4 BS4 LB4
end Go.Proofs.YtkinlcichclnkaaDoor

/- NfasTexts: a rule's own ends, beside what the places tell. Printed by gennftx.py. -/
namespace Go.Proofs.YtkinlcichclnkaaDoor
open Go.RowKit

set_option maxHeartbeats 8000000 in
set_option maxRecDepth 40000 in
theorem reg52_ok {g : Gr} {l : List Int} {P i k n L lc qi : Nat} {ra la : Option Addr} {rc : Nat} {lb : Bool} {W w10 wb : World} {inn : List Bool} (hin : i < g.rules.length) (hi60 : i < n) (hL12 : L ≤ 12) (GA : Hid (Grew W w10)) (HPP : Hid (W.heap.size = P)) (HP10 : Hid (P ≤ w10.heap.size)) (KRB : Hid (Kb P w10 wb)) (HOA : Hid (Owns w10 P [.string g.name, .int .i64 g.bound, .int .i64 g.states, .slice ra n rc] 26)) (HQ8 : Hid (RulesAt W W.heap.size ra 0 g.rules)) (HTID : Hid g.Tidy) (HSL : Hid g.Slight) (HTK : Hid (tokR g.rules[i] = true)) (HWH : Hid (∀ i (h : i < g.rules.length), g.rules[i].body.whole)) (HFUL : Hid (g.made.2.full = false)) (HKT : Hid (k < g.toks.length ∧ ∀ h : k < g.toks.length, g.toks[k] = g.rules[i])) (HN : Hid (g.rules.length = n)) (HL : Hid (l.length = L)) (HG0 : Hid (GrAt W W.heap.size (some (.string g.name)) (some (.int .i64 g.bound)) (some (.int .i64 g.states)) (some (.slice ra g.rules.length rc)) g)) (HR0 : Hid (RunesAt W W.heap.size la l)) (LB4 : Hid (L ≠ 0 → (lb = true ↔ ∃ z, Way g.made.2.out g.made.1.1 (k : Int) l L z ∧ g.made.1.2.testBit z = true))) (HBI : Hid (BRow wb (.slice (some ⟨qi, 0, none⟩) (L + 1) (L + 1)) inn)) (HINL : Hid (inn.length = L + 1)) (HIN0 : Hid (∀ i, inn.getD i false = true ↔ i = 0))
    {z0 z3 z4 z5 z6 z7 z8 z9 z11 z13 z14 z15 z16 z17 z18 z19 z21 z22 z23 z24 z25 z26 z27 z28 z29 z30 z31 z32 z33 z34 z35 z36 z37 z38 z39 z40 z41 z42 z43 z44 z45 z46 z47 z48 z49 z50 z51 z52 z53 z54 z55 z56 z57 z58 z59 z60 z61 z62 z63 z64 z65 z66 z67 z68 z69 z70 z71 z72 z73 z74 z75 z76 z77 z78 z79 z80 z81 z82 z83 z84 z85 z86 z87 z88 z89 z90 z91 z92 z93 z94 z95 z96 z97 z98 z99 z100 z101 z102 z103 z104 z105 z106 z107 z108 z109 z110 z111 z112 z113 z114 z115 z116 z117 z118 z119 z120 z121 z122 z123 z124 z125 z126 z127 z128 z129 z130 z131 z132 z133 z134 z135 z136 z137 z138 z139 z140 z141 z142 z143 z144 z145 z146 z147 z148 z149 z150 z151 z152 z153 z154 z155 z156 z157 z158 z159 z160 z161 z162 z163 z164 z165 z166 z167 z168 z169 z170 z171 z172 z173 z174 z175 z176 z177 z178 z179 z180 z181 z182 z183 z184 z185 z186 z187 z188 z189 z190 z191 z192 z193 z194 z195 z196 z197 z198 z199 z200 z201 z202 z203 z204 z205 z206 z207 z208 z209 z210 z211 z212 z213 z214 z215 z216 z217 z218 z219 z220 z221 z222 z223 z224 z225 z226 z227 z228 z229 z230 z231 z232 z233 z234 z235 z236 z237 z238 z239 z240 z241 z242 z243 z244 z245 z246 z247 z248 z249 z250 z251 z252 z253 z254 z255 z256 z257 z258 z259 z260 z261 z262 z263 z264 z265 z266 z267 z268 z269 z270 z271 z272 z273 z274 z275 z276 z277 z278 z279 z280 z281 z282 z283 z284 z285 z286 z287 z288 z289 z290 z291 z292 z293 z294 : Value} {K : Act → World → Prop} {Q9 : Exit → Act → World → Prop} {s : Code} (hs : regOf 52 (codeOf Tryd.f4) = some s)
    (HK : Hid (∀ (x265 x266 x267 x268 x269 x270 x271 x272 x273 x274 x275 x276 x277 x278 x279 x280 x281 x282 x283 x284 : Value) (w' : World), Hid (Grew wb w') → K { tmps := #[z0, (.slice la L lc), (.pointer (some ⟨P, 0, none⟩)), z3, z4, z5, z6, z7, z8, z9, (.int .i64 i), z11, (.bool lb), z13, z14, z15, z16, z17, z18, z19, (.slice (some ⟨qi, 0, none⟩) (L + 1) (L + 1)), z21, z22, z23, z24, z25, z26, z27, z28, z29, z30, z31, z32, z33, z34, z35, z36, z37, z38, z39, z40, z41, z42, z43, z44, z45, z46, z47, z48, z49, z50, z51, z52, z53, z54, z55, z56, z57, z58, z59, z60, z61, z62, z63, z64, z65, z66, z67, z68, z69, z70, z71, z72, z73, z74, z75, z76, z77, z78, z79, z80, z81, z82, z83, z84, z85, z86, z87, z88, z89, z90, z91, z92, z93, z94, z95, z96, z97, z98, z99, z100, z101, z102, z103, z104, z105, z106, z107, z108, z109, z110, z111, z112, z113, z114, z115, z116, z117, z118, z119, z120, z121, z122, z123, z124, z125, z126, z127, z128, z129, z130, z131, z132, z133, z134, z135, z136, z137, z138, z139, z140, z141, z142, z143, z144, z145, z146, z147, z148, z149, z150, z151, z152, z153, z154, z155, z156, z157, z158, z159, z160, z161, z162, z163, z164, z165, z166, z167, z168, z169, z170, z171, z172, z173, z174, z175, z176, z177, z178, z179, z180, z181, z182, z183, z184, z185, z186, z187, z188, z189, z190, z191, z192, z193, z194, z195, z196, z197, z198, z199, z200, z201, z202, z203, z204, z205, z206, z207, z208, z209, z210, z211, z212, z213, z214, z215, z216, z217, z218, z219, z220, z221, z222, z223, z224, z225, z226, z227, z228, z229, z230, z231, z232, z233, z234, z235, z236, z237, z238, z239, z240, z241, z242, z243, z244, z245, z246, z247, z248, z249, z250, z251, z252, z253, z254, z255, z256, z257, z258, z259, z260, z261, z262, z263, z264, x265, x266, x267, x268, x269, x270, x271, x272, x273, x274, x275, x276, x277, x278, x279, x280, x281, x282, x283, x284, (.bool false), z286, z287, z288, z289, z290, z291, z292, z293, z294], defers := [] } w')) :
    s.wp Tryd.prog (Exit.then K Q9) { tmps := #[z0, (.slice la L lc), (.pointer (some ⟨P, 0, none⟩)), z3, z4, z5, z6, z7, z8, z9, (.int .i64 i), z11, (.bool lb), z13, z14, z15, z16, z17, z18, z19, (.slice (some ⟨qi, 0, none⟩) (L + 1) (L + 1)), z21, z22, z23, z24, z25, z26, z27, z28, z29, z30, z31, z32, z33, z34, z35, z36, z37, z38, z39, z40, z41, z42, z43, z44, z45, z46, z47, z48, z49, z50, z51, z52, z53, z54, z55, z56, z57, z58, z59, z60, z61, z62, z63, z64, z65, z66, z67, z68, z69, z70, z71, z72, z73, z74, z75, z76, z77, z78, z79, z80, z81, z82, z83, z84, z85, z86, z87, z88, z89, z90, z91, z92, z93, z94, z95, z96, z97, z98, z99, z100, z101, z102, z103, z104, z105, z106, z107, z108, z109, z110, z111, z112, z113, z114, z115, z116, z117, z118, z119, z120, z121, z122, z123, z124, z125, z126, z127, z128, z129, z130, z131, z132, z133, z134, z135, z136, z137, z138, z139, z140, z141, z142, z143, z144, z145, z146, z147, z148, z149, z150, z151, z152, z153, z154, z155, z156, z157, z158, z159, z160, z161, z162, z163, z164, z165, z166, z167, z168, z169, z170, z171, z172, z173, z174, z175, z176, z177, z178, z179, z180, z181, z182, z183, z184, z185, z186, z187, z188, z189, z190, z191, z192, z193, z194, z195, z196, z197, z198, z199, z200, z201, z202, z203, z204, z205, z206, z207, z208, z209, z210, z211, z212, z213, z214, z215, z216, z217, z218, z219, z220, z221, z222, z223, z224, z225, z226, z227, z228, z229, z230, z231, z232, z233, z234, z235, z236, z237, z238, z239, z240, z241, z242, z243, z244, z245, z246, z247, z248, z249, z250, z251, z252, z253, z254, z255, z256, z257, z258, z259, z260, z261, z262, z263, z264, z265, z266, z267, z268, z269, z270, z271, z272, z273, z274, z275, z276, z277, z278, z279, z280, z281, z282, z283, z284, z285, z286, z287, z288, z289, z290, z291, z292, z293, z294], defers := [] } wb := by
  have e : regOf 52 (codeOf Tryd.f4) = some _ := rfl
  obtain rfl := Option.some.inj (e.symm.trans hs)
  clear e hs
  obtain ⟨rb, ro, rfl, hrbW, hrule⟩ := HQ8.out.get hin
  simp only [Nat.zero_add] at hrule
  rw [HPP.out] at hrbW
  have HRULE := Lib.hid hrule
  clear hrule
  by_cases hL0 : 0 < L
  · have hd0 : decide ((0 : Int) < (L : Int)) = true := decide_eq_true (by omega)
    have HHD := Lib.hid hd0
    have hWB : Below P W wb := by
      have h := GA.out
      unfold Grew at h
      rw [HPP.out] at h
      exact h.trans KRB.out.low
    have HWB := Lib.hid hWB
    have hOG := KRB.out.owns HOA.out (by decide)
    have a0 := hOG.cell_at (i := 0) rfl
    have a1 := hOG.cell_at (i := 1) rfl
    have a2 := hOG.cell_at (i := 2) rfl
    have a3 := hOG.cell_at (i := 3) rfl
    have al := hOG.lt
    have ecell : ∀ o, wb.cell? ⟨rb, o, none⟩ = W.cell? ⟨rb, o, none⟩ := fun o => hWB.cell hrbW
    obtain ⟨y0, y1, y2, y3, y4, -, -, e2, e3, e4, e5, e6, -, -, -, -, hnode⟩ := HRULE.out.vals
    obtain ⟨p0, p1, p2, p3, p4, p5, p6, p7, p8, rfl, rfl, rfl, rfl, rfl⟩ := hnode.forms
    rw [← ecell] at e2 e3 e4 e5 e6
    have hrb4 : rb < wb.heap.size := Nat.lt_of_lt_of_le hrbW (Nat.le_trans HP10.out KRB.out.low.size)
    obtain ⟨rk, hrk⟩ := HTID.out.ranked
    have hpar : g.rules[i].parser = false := by
      have := HTK.out
      unfold tokR at this
      unfold Rl.parser
      simp at this ⊢
      omega
    have hfit := Gr.fit HTID.out HSL.out
    have hends : EndsC P g la lc l g.rules[i].body := ends_ok (by rw [HL.out]; omega) rk hrk HWH.out hfit (rk i) _ (hrk i hin hpar) (HWH.out i hin) (hfit.rule i hin)
    have hlbt : lb = true ↔ Tx g.lk g.rules[i].body l := by
      obtain ⟨hk1, hk2⟩ := HKT.out
      have h := made_way HFUL.out (l := l) (by intro e; have := HL.out; rw [e] at this; simp at this; omega) hk1
      rw [hk2 hk1, HL.out] at h
      rw [h]
      exact LB4.out (by omega)
    obtain ⟨bd, hbd⟩ : ∃ b, g.rules[i].body = b := ⟨_, rfl⟩
    rw [hbd] at hnode hends hlbt
    have HLBT := Lib.hid hlbt
    have HEND : Hid (∀ (w : World) (v : Value) (inn' : List Bool), Grew wb w → BRow w v inn' → inn'.length = L + 1 → Calls Tryd.prog 12 #[.agg #[.string g.name, .int .i64 g.bound, .int .i64 g.states, .slice (some ⟨rb, ro, none⟩) n rc], .agg #[.int .u8 p0, .string p1, .string p2, .slice p3 p4 p5, .slice p6 p7 p8], .slice la L lc, v] w (EndsR g.lk l bd inn' w)) := Lib.hid fun w v inn' hw hv hi => by
      have hwP : Below P wb w := Below.mono hw (Nat.le_trans HP10.out KRB.out.low.size)
      have hg0 := HG0.out
      rw [HPP.out] at hg0
      have hr0 := HR0.out
      rw [HPP.out] at hr0
      rw [HPP.out] at hnode
      have h := hends w _ _ _ _ _ _ _ _ _ v inn' (hg0.keep (HWB.out.trans hwP)) (hr0.keep (HWB.out.trans hwP)) (Nat.le_trans HP10.out (Nat.le_trans KRB.out.low.size hw.size)) (hnode.keep (HWB.out.trans hwP)) hv (by rw [HL.out]; exact hi)
      rw [HN.out, HL.out] at h
      exact h
    clear hWB hOG ecell hnode hends hlbt hbd hrk hpar hfit
    refine wp_region_hav_lit follows (by kernel_rfl) ?_
    iterate 13 (first
      | (refine HavG.skip (fun _ => rfl) ?_; simp only [Act.put, List.setIfInBounds_toArray, List.set_cons_zero, List.set_cons_succ])
      | (refine HavG.val (fun _ => rfl) ?_ (fun x w hw _ => ?_) ?_; rotate_left; (focus (have hc := hw.cells; clear hw; go_simp; first | done | rfl)); simp only [Act.put, List.setIfInBounds_toArray, List.set_cons_zero, List.set_cons_succ]))
    refine HavG.any (fun _ => rfl) (SetV l (Rc l (Tx g.lk bd) inn)) (fun _ _ _ hg h => SetV.keep hg h) (fun x w hw _ => ?_) ?_
    · have HW := Lib.hid hw
      clear hw
      go_simp
      refine (HEND.out w _ inn HW.out (HBI.out.grew HW.out) HINL.out).mono ?_
      rintro e w' ⟨x, out, rfl, h1, h2, h3⟩
      exact ⟨h3, out, h1, h2⟩
    simp only [Act.put, List.setIfInBounds_toArray, List.set_cons_zero, List.set_cons_succ]
    iterate 2 (first
      | (refine HavG.skip (fun _ => rfl) ?_; simp only [Act.put, List.setIfInBounds_toArray, List.set_cons_zero, List.set_cons_succ])
      | (refine HavG.val (fun _ => rfl) ?_ (fun x w hw _ => ?_) ?_; rotate_left; (focus (have hc := hw.cells; clear hw; go_simp; first | done | rfl)); simp only [Act.put, List.setIfInBounds_toArray, List.set_cons_zero, List.set_cons_succ]))
    refine HavG.any (fun _ => rfl) (PtrB lb) (fun _ _ _ hg h => PtrB.keep hg h) (fun x w hw hd => ?_) ?_
    · have hd9 := hd _ (List.mem_append_right _ (List.mem_singleton.2 rfl)) (by kernel_rfl)
      clear hd
      dsimp only at hd9
      generalize x _ = y9 at *
      obtain ⟨o9, hb9, hs9⟩ := hd9
      have hl9 : o9.length = L + 1 := by rw [hs9.len, HL.out]
      have hb := ends_whole HIN0.out hs9
      rw [HL.out, ← HLBT.out, ← Bool.eq_iff_iff] at hb
      have HX := Lib.hid (ptrb_at hb9 hl9 hb)
      clear hw hb9 hs9 hb hl9
      obtain ⟨g9, c9, rfl, l9, d9⟩ := HX.out
      have hL1 : (L : Int) < (L : Int) + 1 := by omega
      go_simp
      exact ⟨Grew.refl _, _, _, rfl, l9, d9⟩
    simp only [Act.put, List.setIfInBounds_toArray, List.set_cons_zero, List.set_cons_succ]
    refine HavG.det (fun _ => rfl) (.bool lb) (fun x w hw hd => ?_) ?_
    · have hd9 := hd _ (List.mem_append_right _ (List.mem_singleton.2 rfl)) (by kernel_rfl)
      clear hd
      dsimp only at hd9
      generalize x _ = y9 at *
      obtain ⟨g9, o9, rfl, l9, d9⟩ := hd9
      clear hw
      go_simp
      first | exact ⟨rfl, Grew.refl _⟩ | exact Grew.refl _
    simp only [Act.put, List.setIfInBounds_toArray, List.set_cons_zero, List.set_cons_succ]
    have hne : (lb != lb) = false := by cases lb <;> rfl
    repeat (first
      | (refine HavG.skip (fun _ => rfl) ?_; simp only [Act.put, List.setIfInBounds_toArray, List.set_cons_zero, List.set_cons_succ])
      | (refine HavG.val (fun _ => rfl) ?_ (fun x w hw _ => ?_) ?_; rotate_left; (focus (have hc := hw.cells; clear hw; go_simp; first | done | rfl)); simp only [Act.put, List.setIfInBounds_toArray, List.set_cons_zero, List.set_cons_succ]))
    refine HavG.tail (by kernel_rfl) (by kernel_rfl) (fun x w9 hw9 _ => ?_)
    generalize x 13 = y13
    generalize x 16 = y16
    have GX := Lib.hid hw9
    clear hw9 a0 a1 a2 a3 al e2 e3 e4 e5 e6 hrb4
    go_wp2_with fail
    exact HK.out _ _ _ _ _ _ _ _ _ _ _ _ _ _ _ _ _ _ _ _ w9 GX
  · have hd0 : decide ((0 : Int) < (L : Int)) = false := decide_eq_false (by omega)
    refine wp_region_hav_lit follows (by kernel_rfl) ?_
    repeat (first
                                | (refine HavG.skip (fun _ => rfl) ?_; simp only [Act.put, List.setIfInBounds_toArray, List.set_cons_zero, List.set_cons_succ])
                                | (refine HavG.val (fun _ => rfl) ?_ (fun x w hw _ => ?_) ?_; rotate_left; (focus (have hc := hw.cells; clear hw; go_simp; first | done | rfl)); simp only [Act.put, List.setIfInBounds_toArray, List.set_cons_zero, List.set_cons_succ]))
    refine HavG.tail (by kernel_rfl) (by kernel_rfl) (fun x w9 hw9 _ => ?_)
    have GX := Lib.hid hw9
    clear hw9
    go_wp2_with fail
    exact HK.out _ _ _ _ _ _ _ _ _ _ _ _ _ _ _ _ _ _ _ _ w9 GX

end Go.Proofs.YtkinlcichclnkaaDoor
