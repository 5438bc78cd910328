/- Plain functions and their proofs, part 2: what the functions of the given program compute; printed by a program of this repo (dxmake.py). -/
import Derived.Test.YtgmpgoafokdcbaaGreatDoorO0
import Derived.Test.YtgmpgoafokdcbaaGreatDoorProg
set_option linter.unusedVariables false
set_option linter.unusedSimpArgs false
set_option maxRecDepth 100000
set_option maxHeartbeats 4000000
namespace Go.Proofs.YtgmpgoafokdcbaaGreatDoor.Sx
open Go Go.RowKit
def api_givenWide_k4 (v11 : List MachBank) (v12 : List MachReg) (r13 : MachOperand) (r15 : MachOperand) (r17 : MachOperand) (r19 : MachOperand) (r23 : MachOperand) (r25 : Term) (r27 : Term) (r29 : Term) (r31 : Term) (r33 : Term) (r35 : Term) : ByteArray × Int × Int × (List MachUnit) × (List MachInstr) → Option Machine
  | (v214, v215, v216, v217, v218) =>
    (api_givenWide_2 (⟨#[99]⟩ : ByteArray) 0 12).bind fun r219 =>
    (api_givenNum 32 0).bind fun r221 =>
    (api_givenOp 16 1 [r33, r221]).bind fun r223 =>
    (api_givenOp 19 32 [r223, r27, r25]).bind fun r225 =>
    (api_givenSet 0 r225).bind fun r227 =>
    (api_givenWide_1 (⟨#[115, 101, 108]⟩ : ByteArray) 0 1 2 0 [r13, r219, r15, r17] [r227] v214 v215 v216 v12 v11 v217 v218).bind fun r229 =>
    (api_givenField (⟨#[116, 111]⟩ : ByteArray) 4 0 0 [(MachPiece.mk 8 7), (MachPiece.mk 0 8)]).bind fun r231 =>
    (api_givenField (⟨#[116, 111]⟩ : ByteArray) 4 0 0 [(MachPiece.mk 0 24)]).bind fun r233 =>
    (api_givenVar (⟨#[116, 111]⟩ : ByteArray) 32).bind fun r235 =>
    (api_givenNum 32 0).bind fun r237 =>
    (api_givenOp 16 1 [r25, r237]).bind fun r239 =>
    (api_givenJump r235 r239).bind fun r241 =>
    (api_givenWide_1 (⟨#[98, 122]⟩ : ByteArray) 0 1 1 2 [r15, r231] [r241] r229.2.1 r229.2.2.1 r229.2.2.2.1 v12 v11 r229.2.2.2.2 r229.1).bind fun r243 =>
    (api_givenOp 3 1 [r239]).bind fun r245 =>
    (api_givenJump r235 r245).bind fun r247 =>
    (api_givenWide_1 (⟨#[98, 110, 122]⟩ : ByteArray) 0 1 1 2 [r15, r231] [r247] r243.2.1 r243.2.2.1 r243.2.2.2.1 v12 v11 r243.2.2.2.2 r243.1).bind fun r249 =>
    (api_givenJump r235 ((Term.mk 0 0 0 ⟨#[]⟩ 0 ([] : List Term)))).bind fun r251 =>
    (api_givenWide_1 (⟨#[106, 117, 109, 112]⟩ : ByteArray) 0 1 1 2 [r233] [r251] r249.2.1 r249.2.2.1 r249.2.2.2.1 v12 v11 r249.2.2.2.2 r249.1).bind fun r253 =>
    (api_givenNum 32 12).bind fun r255 =>
    (api_givenOp 5 32 [r35, r255]).bind fun r257 =>
    (api_givenFixed 7 r257).bind fun r259 =>
    (api_givenJump r235 ((Term.mk 0 0 0 ⟨#[]⟩ 0 ([] : List Term)))).bind fun r261 =>
    (api_givenWide_1 (⟨#[99, 97, 108, 108]⟩ : ByteArray) 0 1 1 2 [r233] [r259, r261] r253.2.1 r253.2.2.1 r253.2.2.2.1 v12 v11 r253.2.2.2.2 r253.1).bind fun r263 =>
    (api_givenJump r25 ((Term.mk 0 0 0 ⟨#[]⟩ 0 ([] : List Term)))).bind fun r265 =>
    (api_givenWide_1 (⟨#[106, 114]⟩ : ByteArray) 0 1 1 2 [r15] [r265] r263.2.1 r263.2.2.1 r263.2.2.2.1 v12 v11 r263.2.2.2.2 r263.1).bind fun r267 =>
    (api_givenTrap r31).bind fun r269 =>
    (api_givenWide_1 (⟨#[116, 114, 97, 112]⟩ : ByteArray) 0 1 1 0 [r19] [r269] r267.2.1 r267.2.2.1 r267.2.2.2.1 v12 v11 r267.2.2.2.2 r267.1).bind fun r271 =>
    (api_givenNum 1 1).bind fun r273 =>
    (api_givenOp 20 33 [r273, r25]).bind fun r275 =>
    (api_givenTrap r275).bind fun r277 =>
    (api_givenWide_1 (⟨#[116, 101, 108, 108]⟩ : ByteArray) 0 1 1 0 [r15] [r277] r271.2.1 r271.2.2.1 r271.2.2.2.1 v12 v11 r271.2.2.2.2 r271.1).bind fun r279 =>
    (api_givenTrap r25).bind fun r281 =>
    (api_givenWide_1 (⟨#[104, 97, 108, 116]⟩ : ByteArray) 0 1 1 0 [r15] [r281] r279.2.1 r279.2.2.1 r279.2.2.2.1 v12 v11 r279.2.2.2.2 r279.1).bind fun r283 =>
    (api_givenWide_1 (⟨#[110, 111, 112]⟩ : ByteArray) 0 1 1 0 ([] : List MachOperand) ([] : List MachEffect) r283.2.1 r283.2.2.1 r283.2.2.2.1 v12 v11 r283.2.2.2.2 r283.1).bind fun r285 =>
    (api_givenWide_2 (⟨#[100]⟩ : ByteArray) 1 21).bind fun r287 =>
    (api_givenOp 21 16 [r25]).bind fun r289 =>
    (api_givenSet 0 r289).bind fun r291 =>
    (api_givenWide_1 (⟨#[108, 111, 119]⟩ : ByteArray) 0 1 1 0 [r287, r15] [r291] r285.2.1 r285.2.2.1 r285.2.2.2.1 v12 v11 r285.2.2.2.2 r285.1).bind fun r293 =>
    (api_givenOp 5 32 [r25, r31]).bind fun r295 =>
    (api_givenOp 21 16 [r29]).bind fun r297 =>
    (api_givenStore r295 r297).bind fun r299 =>
    (api_givenWide_1 (⟨#[115, 116, 104]⟩ : ByteArray) 2 1 1 0 [r13, r15, r23] [r299] r293.2.1 r293.2.2.1 r293.2.2.2.1 v12 v11 r293.2.2.2.2 r293.1).bind fun r301 =>
    some (Machine.mk r301.2.1 r301.2.2.1 r301.2.2.2.1 v12 v11 r301.2.2.2.2 r301.1)
def api_givenWide_b5 (v11 : List MachBank) (v12 : List MachReg) (r13 : MachOperand) (r15 : MachOperand) (r17 : MachOperand) (r25 : Term) (r27 : Term) (k4 : ByteArray × Int × Int × (List MachUnit) × (List MachInstr) → Option Machine) (rec5 : Int × ByteArray × Int × Int × (List MachUnit) × (List MachInstr) → Option Machine) : Int × ByteArray × Int × Int × (List MachUnit) × (List MachInstr) → Option Machine
  | (v303, v304, v305, v306, v307, v308) =>
    bif decide (v303 < ([16, 17, 18].length : Int)) then
      (ix [16, 17, 18] v303).bind fun r310 =>
      (ix ([(⟨#[101, 113]⟩ : ByteArray), (⟨#[117, 108, 116]⟩ : ByteArray), (⟨#[115, 108, 116]⟩ : ByteArray)]) v303).bind fun r312 =>
      (api_givenOp r310 1 [r25, r27]).bind fun r314 =>
      (api_givenOp 22 32 [r314]).bind fun r316 =>
      (api_givenSet 0 r316).bind fun r318 =>
      (api_givenWide_1 r312 0 1 1 0 [r13, r15, r17] [r318] v304 v305 v306 v12 v11 v307 v308).bind fun r320 =>
      rec5 ((w64 (v303 + 1), r320.2.1, r320.2.2.1, r320.2.2.2.1, r320.2.2.2.2, r320.1))
    else
      k4 (v304, v305, v306, v307, v308)
def api_givenWide_k3 (v11 : List MachBank) (v12 : List MachReg) (r13 : MachOperand) (r15 : MachOperand) (r17 : MachOperand) (r19 : MachOperand) (r21 : MachOperand) (r23 : MachOperand) (r25 : Term) (r27 : Term) (r29 : Term) (r31 : Term) (r33 : Term) (r35 : Term) : ByteArray × Int × Int × (List MachUnit) × (List MachInstr) → Option Machine
  | (v37, v38, v39, v40, v41) =>
    (api_givenOp 7 32 [r25, r27]).bind fun r42 =>
    (api_givenSet 0 r42).bind fun r44 =>
    (api_givenWide_1 (⟨#[109, 117, 108]⟩ : ByteArray) 1 1 3 0 [r13, r15, r17] [r44] v37 v38 v39 v12 v11 v40 v41).bind fun r46 =>
    (api_givenOp 14 32 [r25, r27]).bind fun r48 =>
    (api_givenSet 0 r48).bind fun r50 =>
    (api_givenWide_1 (⟨#[117, 100, 105, 118]⟩ : ByteArray) 1 6 6 0 [r13, r15, r17] [r50] r46.2.1 r46.2.2.1 r46.2.2.2.1 v12 v11 r46.2.2.2.2 r46.1).bind fun r52 =>
    (api_givenOp 15 32 [r25, r27]).bind fun r54 =>
    (api_givenSet 0 r54).bind fun r56 =>
    (api_givenWide_1 (⟨#[117, 114, 101, 109]⟩ : ByteArray) 1 6 6 0 [r13, r15, r17] [r56] r52.2.1 r52.2.2.1 r52.2.2.2.1 v12 v11 r52.2.2.2.2 r52.1).bind fun r58 =>
    (api_givenTied (⟨#[99]⟩ : ByteArray) 0 0).bind fun r60 =>
    (api_givenOp 7 32 [r25, r27]).bind fun r62 =>
    (api_givenOp 5 32 [r33, r62]).bind fun r64 =>
    (api_givenSet 0 r64).bind fun r66 =>
    (api_givenWide_1 (⟨#[109, 97, 99]⟩ : ByteArray) 1 2 4 0 [r13, r60, r15, r17] [r66] r58.2.1 r58.2.2.1 r58.2.2.2.1 v12 v11 r58.2.2.2.2 r58.1).bind fun r68 =>
    (api_givenOp 5 32 [r25, r31]).bind fun r70 =>
    (api_givenSet 0 r70).bind fun r72 =>
    (api_givenWide_1 (⟨#[97, 100, 100, 105]⟩ : ByteArray) 0 1 1 0 [r13, r15, r19] [r72] r68.2.1 r68.2.2.1 r68.2.2.2.1 v12 v11 r68.2.2.2.2 r68.1).bind fun r74 =>
    (api_givenField (⟨#[110]⟩ : ByteArray) 2 0 0 [(MachPiece.mk 15 6), (MachPiece.mk 0 15)]).bind fun r76 =>
    (api_givenSet 0 r31).bind fun r78 =>
    (api_givenWide_1 (⟨#[108, 105]⟩ : ByteArray) 0 1 1 0 [r13, r76] [r78] r74.2.1 r74.2.2.1 r74.2.2.2.1 v12 v11 r74.2.2.2.2 r74.1).bind fun r80 =>
    (api_givenWide_2 (⟨#[100]⟩ : ByteArray) 2 21).bind fun r82 =>
    (api_givenField (⟨#[110]⟩ : ByteArray) 3 0 0 [(MachPiece.mk 0 15), (MachPiece.mk 18 1)]).bind fun r84 =>
    (api_givenOp 21 16 [r31]).bind fun r86 =>
    (api_givenSet 0 r86).bind fun r88 =>
    (api_givenWide_1 (⟨#[115, 101, 116, 104]⟩ : ByteArray) 0 1 1 0 [r82, r84] [r88] r80.2.1 r80.2.2.1 r80.2.2.2.1 v12 v11 r80.2.2.2.2 r80.1).bind fun r90 =>
    (api_givenWide_2 (⟨#[100]⟩ : ByteArray) 1 21).bind fun r92 =>
    (api_givenWide_2 (⟨#[97]⟩ : ByteArray) 1 18).bind fun r94 =>
    (api_givenVar (⟨#[97]⟩ : ByteArray) 16).bind fun r96 =>
    (api_givenSet 0 r96).bind fun r98 =>
    (api_givenWide_1 (⟨#[109, 111, 118, 108]⟩ : ByteArray) 0 1 1 0 [r92, r94] [r98] r90.2.1 r90.2.2.1 r90.2.2.2.1 v12 v11 r90.2.2.2.2 r90.1).bind fun r100 =>
    (api_givenWide_2 (⟨#[100]⟩ : ByteArray) 1 21).bind fun r102 =>
    (api_givenWide_2 (⟨#[97]⟩ : ByteArray) 1 18).bind fun r104 =>
    (api_givenWide_2 (⟨#[98]⟩ : ByteArray) 1 15).bind fun r106 =>
    (api_givenVar (⟨#[97]⟩ : ByteArray) 16).bind fun r108 =>
    (api_givenVar (⟨#[98]⟩ : ByteArray) 16).bind fun r110 =>
    (api_givenOp 5 16 [r108, r110]).bind fun r112 =>
    (api_givenSet 0 r112).bind fun r114 =>
    (api_givenWide_1 (⟨#[97, 100, 100, 108]⟩ : ByteArray) 0 1 1 0 [r102, r104, r106] [r114] r100.2.1 r100.2.2.1 r100.2.2.2.1 v12 v11 r100.2.2.2.2 r100.1).bind fun r116 =>
    (api_givenWide_2 (⟨#[97]⟩ : ByteArray) 1 18).bind fun r118 =>
    (api_givenVar (⟨#[97]⟩ : ByteArray) 16).bind fun r120 =>
    (api_givenOp 23 32 [r120]).bind fun r122 =>
    (api_givenSet 0 r122).bind fun r124 =>
    (api_givenWide_1 (⟨#[115, 101, 120, 116]⟩ : ByteArray) 0 1 1 0 [r13, r118] [r124] r116.2.1 r116.2.2.1 r116.2.2.2.1 v12 v11 r116.2.2.2.2 r116.1).bind fun r126 =>
    (api_givenWide_2 (⟨#[97]⟩ : ByteArray) 1 18).bind fun r128 =>
    (api_givenVar (⟨#[97]⟩ : ByteArray) 16).bind fun r130 =>
    (api_givenOp 22 32 [r130]).bind fun r132 =>
    (api_givenSet 0 r132).bind fun r134 =>
    (api_givenWide_1 (⟨#[122, 101, 120, 116]⟩ : ByteArray) 0 1 1 0 [r13, r128] [r134] r126.2.1 r126.2.2.1 r126.2.2.2.1 v12 v11 r126.2.2.2.2 r126.1).bind fun r136 =>
    (api_givenWide_2 (⟨#[97]⟩ : ByteArray) 2 18).bind fun r138 =>
    (api_givenVar (⟨#[97]⟩ : ByteArray) 16).bind fun r140 =>
    (api_givenOp 22 32 [r140]).bind fun r142 =>
    (api_givenSet 0 r142).bind fun r144 =>
    (api_givenWide_1 (⟨#[122, 101, 120, 116, 104]⟩ : ByteArray) 0 1 1 0 [r13, r138] [r144] r136.2.1 r136.2.2.1 r136.2.2.2.1 v12 v11 r136.2.2.2.2 r136.1).bind fun r146 =>
    (api_givenWide_2 (⟨#[97]⟩ : ByteArray) 1 18).bind fun r148 =>
    (api_givenWide_2 (⟨#[98]⟩ : ByteArray) 1 15).bind fun r150 =>
    (api_givenVar (⟨#[97]⟩ : ByteArray) 16).bind fun r152 =>
    (api_givenVar (⟨#[98]⟩ : ByteArray) 16).bind fun r154 =>
    (api_givenOp 20 32 [r152, r154]).bind fun r156 =>
    (api_givenSet 0 r156).bind fun r158 =>
    (api_givenWide_1 (⟨#[112, 97, 99, 107]⟩ : ByteArray) 0 1 2 0 [r13, r148, r150] [r158] r146.2.1 r146.2.2.1 r146.2.2.2.1 v12 v11 r146.2.2.2.2 r146.1).bind fun r160 =>
    (api_givenOp 5 32 [r25, r31]).bind fun r162 =>
    (api_givenOp 24 32 [r162]).bind fun r164 =>
    (api_givenSet 0 r164).bind fun r166 =>
    (api_givenWide_1 (⟨#[108, 100]⟩ : ByteArray) 2 1 3 0 [r13, r15, r21] [r166] r160.2.1 r160.2.2.1 r160.2.2.2.1 v12 v11 r160.2.2.2.2 r160.1).bind fun r168 =>
    (api_givenWide_2 (⟨#[100]⟩ : ByteArray) 1 21).bind fun r170 =>
    (api_givenOp 5 32 [r25, r31]).bind fun r172 =>
    (api_givenOp 24 16 [r172]).bind fun r174 =>
    (api_givenSet 0 r174).bind fun r176 =>
    (api_givenWide_1 (⟨#[108, 100, 108]⟩ : ByteArray) 2 1 3 0 [r170, r15, r23] [r176] r168.2.1 r168.2.2.1 r168.2.2.2.1 v12 v11 r168.2.2.2.2 r168.1).bind fun r178 =>
    (api_givenOp 5 32 [r25, r31]).bind fun r180 =>
    (api_givenOp 24 8 [r180]).bind fun r182 =>
    (api_givenOp 22 32 [r182]).bind fun r184 =>
    (api_givenSet 0 r184).bind fun r186 =>
    (api_givenWide_1 (⟨#[108, 100, 98]⟩ : ByteArray) 2 1 3 0 [r13, r15, r19] [r186] r178.2.1 r178.2.2.1 r178.2.2.2.1 v12 v11 r178.2.2.2.2 r178.1).bind fun r188 =>
    (api_givenOp 5 32 [r25, r31]).bind fun r190 =>
    (api_givenStore r190 r29).bind fun r192 =>
    (api_givenWide_1 (⟨#[115, 116]⟩ : ByteArray) 2 1 1 0 [r13, r15, r21] [r192] r188.2.1 r188.2.2.1 r188.2.2.2.1 v12 v11 r188.2.2.2.2 r188.1).bind fun r194 =>
    (api_givenWide_2 (⟨#[100]⟩ : ByteArray) 1 21).bind fun r196 =>
    (api_givenOp 5 32 [r25, r31]).bind fun r198 =>
    (api_givenVar (⟨#[100]⟩ : ByteArray) 16).bind fun r200 =>
    (api_givenStore r198 r200).bind fun r202 =>
    (api_givenWide_1 (⟨#[115, 116, 108]⟩ : ByteArray) 2 1 1 0 [r196, r15, r23] [r202] r194.2.1 r194.2.2.1 r194.2.2.2.1 v12 v11 r194.2.2.2.2 r194.1).bind fun r204 =>
    (api_givenOp 5 32 [r25, r31]).bind fun r206 =>
    (api_givenOp 21 8 [r29]).bind fun r208 =>
    (api_givenStore r206 r208).bind fun r210 =>
    (api_givenWide_1 (⟨#[115, 116, 98]⟩ : ByteArray) 2 1 1 0 [r13, r15, r19] [r210] r204.2.1 r204.2.2.1 r204.2.2.2.1 v12 v11 r204.2.2.2.2 r204.1).bind fun r212 =>
    jn (api_givenWide_k4 v11 v12 r13 r15 r17 r19 r23 r25 r27 r29 r31 r33 r35) fun k4 =>
    lp (api_givenWide_b5 v11 v12 r13 r15 r17 r25 r27 k4) ([16, 17, 18].length + 1) (0, r212.2.1, r212.2.2.1, r212.2.2.2.1, r212.2.2.2.2, r212.1)
def api_givenWide_b6 (v11 : List MachBank) (v12 : List MachReg) (r13 : MachOperand) (r15 : MachOperand) (r17 : MachOperand) (r25 : Term) (r27 : Term) (k3 : ByteArray × Int × Int × (List MachUnit) × (List MachInstr) → Option Machine) (rec6 : Int × ByteArray × Int × Int × (List MachUnit) × (List MachInstr) → Option Machine) : Int × ByteArray × Int × Int × (List MachUnit) × (List MachInstr) → Option Machine
  | (v322, v323, v324, v325, v326, v327) =>
    bif decide (v322 < ([5, 6, 8, 9, 10, 11, 12, 13].length : Int)) then
      (ix [5, 6, 8, 9, 10, 11, 12, 13] v322).bind fun r329 =>
      (ix ([(⟨#[97, 100, 100]⟩ : ByteArray), (⟨#[115, 117, 98]⟩ : ByteArray), (⟨#[97, 110, 100]⟩ : ByteArray), (⟨#[111, 114]⟩ : ByteArray), (⟨#[120, 111, 114]⟩ : ByteArray), (⟨#[115, 104, 108]⟩ : ByteArray), (⟨#[115, 104, 114]⟩ : ByteArray), (⟨#[115, 97, 114]⟩ : ByteArray)]) v322).bind fun r331 =>
      (api_givenOp r329 32 [r25, r27]).bind fun r333 =>
      (api_givenSet 0 r333).bind fun r335 =>
      (api_givenWide_1 r331 0 1 1 0 [r13, r15, r17] [r335] v323 v324 v325 v12 v11 v326 v327).bind fun r337 =>
      rec6 ((w64 (v322 + 1), r337.2.1, r337.2.2.1, r337.2.2.2.1, r337.2.2.2.2, r337.1))
    else
      k3 (v323, v324, v325, v326, v327)
def api_givenWide_k2 : ByteArray × Int × Int × (List MachUnit) × (List MachBank) × (List MachReg) → Option Machine
  | (v7, v8, v9, v10, v11, v12) =>
    (api_givenWide_2 (⟨#[100]⟩ : ByteArray) 0 21).bind fun r13 =>
    (api_givenWide_2 (⟨#[97]⟩ : ByteArray) 0 18).bind fun r15 =>
    (api_givenWide_2 (⟨#[98]⟩ : ByteArray) 0 15).bind fun r17 =>
    (api_givenField (⟨#[110]⟩ : ByteArray) 2 0 0 [(MachPiece.mk 0 15)]).bind fun r19 =>
    (api_givenField (⟨#[110]⟩ : ByteArray) 2 0 2 [(MachPiece.mk 0 15)]).bind fun r21 =>
    (api_givenField (⟨#[110]⟩ : ByteArray) 2 0 1 [(MachPiece.mk 0 15)]).bind fun r23 =>
    (api_givenVar (⟨#[97]⟩ : ByteArray) 32).bind fun r25 =>
    (api_givenVar (⟨#[98]⟩ : ByteArray) 32).bind fun r27 =>
    (api_givenVar (⟨#[100]⟩ : ByteArray) 32).bind fun r29 =>
    (api_givenVar (⟨#[110]⟩ : ByteArray) 32).bind fun r31 =>
    (api_givenVar (⟨#[99]⟩ : ByteArray) 32).bind fun r33 =>
    (api_givenVar (⟨#[112, 99]⟩ : ByteArray) 32).bind fun r35 =>
    jn (api_givenWide_k3 v11 v12 r13 r15 r17 r19 r21 r23 r25 r27 r29 r31 r33 r35) fun k3 =>
    lp (api_givenWide_b6 v11 v12 r13 r15 r17 r25 r27 k3) ([5, 6, 8, 9, 10, 11, 12, 13].length + 1) ((0, v7, v8, v9, v10, ([] : List MachInstr)))
def api_givenWide_b7 (k2 : ByteArray × Int × Int × (List MachUnit) × (List MachBank) × (List MachReg) → Option Machine) (r339 : (List ByteArray)) (r341 : (List ByteArray)) (rec7 : Int × ByteArray × Int × Int × (List MachUnit) × (List MachBank) × (List MachReg) → Option Machine) : Int × ByteArray × Int × Int × (List MachUnit) × (List MachBank) × (List MachReg) → Option Machine
  | (v344, v345, v346, v347, v348, v349, v350) =>
    bif decide (v344 < (((r339 ++ r341).length : Int))) then
      (ix (r339 ++ r341) v344).bind fun r352 =>
      asr (roomy (v350.length + [(MachReg.mk r352 16 (Int.tmod v344 8) (w64 (16 * (w64 (Int.tdiv v344 8)))))].length) 40) <|
      (ix v349 (w64 (1 + (w64 (Int.tdiv v344 8))))).bind fun r355 =>
      asr (roomy (r355.Regs.length + [w64 (8 + v344)].length) 8) <|
      rec7 ((w64 (v344 + 1), v345, v346, v347, v348, v349.set (w64 (1 + (w64 (Int.tdiv v344 8)))).toNat ((MachBank.mk r355.Name (r355.Regs ++ [w64 (8 + v344)]))), v350 ++ [(MachReg.mk r352 16 (Int.tmod v344 8) (w64 (16 * (w64 (Int.tdiv v344 8)))))]))
    else
      k2 (v345, v346, v347, v348, v349, v350)
def api_givenWide_k1 : ByteArray × Int × Int × (List MachUnit) × (List MachBank) × (List MachReg) → Option Machine
  | (v1, v2, v3, v4, v5, v6) =>
    jn api_givenWide_k2 fun k2 =>
    (api_givenNames (⟨#[108]⟩ : ByteArray) 8).bind fun r339 =>
    (api_givenNames (⟨#[104]⟩ : ByteArray) 8).bind fun r341 =>
    asr (roomy (r339.length + r341.length) 16) <|
    lp (api_givenWide_b7 k2 r339 r341) ((r339 ++ r341).length + 1) (0, v1, v2, v3, v4, v5, v6)
def api_givenWide_b8 (k1 : ByteArray × Int × Int × (List MachUnit) × (List MachBank) × (List MachReg) → Option Machine) (r358 : (List ByteArray)) (rec8 : Int × ByteArray × Int × Int × (List MachUnit) × (List MachBank) × (List MachReg) → Option Machine) : Int × ByteArray × Int × Int × (List MachUnit) × (List MachBank) × (List MachReg) → Option Machine
  | (v360, v361, v362, v363, v364, v365, v366) =>
    bif decide (v360 < (r358.length : Int)) then
      (ix r358 v360).bind fun r368 =>
      asr (roomy (v366.length + [(MachReg.mk r368 32 (-1) 0)].length) 40) <|
      (ix v365 0).bind fun r371 =>
      asr (roomy (r371.Regs.length + [v360].length) 8) <|
      rec8 ((w64 (v360 + 1), v361, v362, v363, v364, v365.set (0 : Int).toNat ((MachBank.mk r371.Name (r371.Regs ++ [v360]))), v366 ++ [(MachReg.mk r368 32 (-1) 0)]))
    else
      k1 (v361, v362, v363, v364, v365, v366)
def api_givenWide : Option Machine :=
  jn api_givenWide_k1 fun k1 =>
  (api_givenNames (⟨#[119]⟩ : ByteArray) 8).bind fun r358 =>
  lp (api_givenWide_b8 k1 r358) (r358.length + 1) ((0, (⟨#[119, 105, 100, 101]⟩ : ByteArray), 4, 32, [(MachUnit.mk (⟨#[120]⟩ : ByteArray) 2), (MachUnit.mk (⟨#[121]⟩ : ByteArray) 1), (MachUnit.mk (⟨#[122]⟩ : ByteArray) 1)], ([(MachBank.mk (⟨#[119]⟩ : ByteArray) ([] : List Int)), (MachBank.mk (⟨#[108]⟩ : ByteArray) ([] : List Int)), (MachBank.mk (⟨#[104]⟩ : ByteArray) ([] : List Int))] : List MachBank), ([] : List MachReg)))
theorem api_givenWide_ok {R : Machine} (H : api_givenWide = some R) : FnOk Tryz.prog K0 24 [] [] (aA (encMachine R)) [] := by
  refine fn_w (nt := 561) (np := 0) Tryz.func24 z z (by simp) (np_of2 z) <| ?_
  unfold api_givenWide at H
  refine sgr z <| lh (p_al 0 zr_27 z) z <| ne <| sgr z <| l (p_bd (cs := (encMachUnit ((MachUnit.mk (⟨#[120]⟩ : ByteArray) 2))).map .data) pl_92 zr_92 z ⟨q, ⟨q, q⟩⟩ z) z <| l (p_bd (cs := (encMachUnit ((MachUnit.mk (⟨#[121]⟩ : ByteArray) 1))).map .data) pl_92 zr_92 z ⟨q, ⟨q, q⟩⟩ z) z <| l (p_bd (cs := (encMachUnit ((MachUnit.mk (⟨#[122]⟩ : ByteArray) 1))).map .data) pl_92 zr_92 z ⟨q, ⟨q, q⟩⟩ z) z <| l (p_bs (f := encMachUnit) [.tmp 30, .tmp 31, .tmp 32] [(MachUnit.mk (⟨#[120]⟩ : ByteArray) 2), (MachUnit.mk (⟨#[121]⟩ : ByteArray) 1), (MachUnit.mk (⟨#[122]⟩ : ByteArray) 1)] Tryz.underlying24 ty_92.size zr_92 z z z z (el1 (.agg _) z (el1 (.agg _) z (el1 (.agg _) z el0))) z) z <| l (p_bd (cs := [(aS (⟨#[119, 105, 100, 101]⟩ : ByteArray)), (aN .i64 4), (aN .i64 32), aNil, aNil, (aL 2 encMachUnit ([(MachUnit.mk (⟨#[120]⟩ : ByteArray) 2), (MachUnit.mk (⟨#[121]⟩ : ByteArray) 1), (MachUnit.mk (⟨#[122]⟩ : ByteArray) 1)])), aNil]) pl_27 zr_27 z ⟨q, ⟨q, ⟨q, ⟨q, q⟩⟩⟩⟩ z) z <| lh (p_al 1 zr_27 z) z <| l0h (p_stA (ds := [(aS (⟨#[119, 105, 100, 101]⟩ : ByteArray)), (aN .i64 4), (aN .i64 32), aNil, aNil, (aL 2 encMachUnit ([(MachUnit.mk (⟨#[120]⟩ : ByteArray) 2), (MachUnit.mk (⟨#[121]⟩ : ByteArray) 1), (MachUnit.mk (⟨#[122]⟩ : ByteArray) 1)])), aNil]) ty_27 z z z z z z) <| ne <| sgr z <| l (p_bd (cs := [(aS (⟨#[119]⟩ : ByteArray)), aNil]) pl_97 zr_97 z ⟨q, q⟩ z) z <| l (p_bd (cs := [(aS (⟨#[108]⟩ : ByteArray)), aNil]) pl_97 zr_97 z ⟨q, q⟩ z) z <| l (p_bd (cs := [(aS (⟨#[104]⟩ : ByteArray)), aNil]) pl_97 zr_97 z ⟨q, q⟩ z) z <| lh (p_bsW (cs := [(aS (⟨#[119]⟩ : ByteArray)), aNil, (aS (⟨#[108]⟩ : ByteArray)), aNil, (aS (⟨#[104]⟩ : ByteArray)), aNil]) 2 [.tmp 35, .tmp 36, .tmp 37] Tryz.underlying23 ty_97.size zr_97 z z z z (cs1 q z (cs1 q z (cs1 q z cs0))) z z z) z <| wl_ent (rowtree (k := 2) z (rta (rta (rta (rta (rta (rta rt0))))))) <| wl_ent (absrn (k := 2) (t' := 3) (sz' := 1) 1 z z) <| wl_ent (absrn (k := 2) (t' := 3) (sz' := 1) 3 z z) <| wl_ent (absrn (k := 2) (t' := 3) (sz' := 1) 5 z z) <| wl_ent (Ent.eq (k := 2) (o' := (oT 97 2 tencMachBank (([(MachBank.mk (⟨#[119]⟩ : ByteArray) ([] : List Int)), (MachBank.mk (⟨#[108]⟩ : ByteArray) ([] : List Int)), (MachBank.mk (⟨#[104]⟩ : ByteArray) ([] : List Int))] : List MachBank)))) z z) <| la z z <| ne <| ?_
  refine w_jn6 H (fun v1 v2 v3 v4 v5 v6 => ⟨[(0, (.ptr 0 0)), (1, (.ptr 1 0)), (2, (.row 2))], [(0, (oC 27 [(aS ⟨#[]⟩), (aN .i64 0), (aN .i64 0), aNil, aNil, aNil, aNil])), (1, (oC 27 [(aS v1), (aN .i64 v2), (aN .i64 v3), (.row 8), aNil, (aL 2 encMachUnit v4), aNil])), (2, (oT 97 2 tencMachBank v5)), (8, (oR 100 4 encMachReg v6))]⟩) ?_ ?_
  · intro v1 v2 v3 v4 v5 v6 H
    rw [api_givenWide_k1] at H
    refine w_jn6 H (fun v7 v8 v9 v10 v11 v12 => ⟨[(0, (.ptr 0 0)), (1, (.ptr 1 0)), (2, (.row 2))], [(0, (oC 27 [(aS ⟨#[]⟩), (aN .i64 0), (aN .i64 0), aNil, aNil, aNil, aNil])), (1, (oC 27 [(aS v7), (aN .i64 v8), (aN .i64 v9), (.row 8), aNil, (aL 2 encMachUnit v10), aNil])), (2, (oT 97 2 tencMachBank v11)), (8, (oR 100 4 encMachReg v12))]⟩) ?_ ?_
    · intro v7 v8 v9 v10 v11 v12 H
      rw [api_givenWide_k2] at H
      refine sgr z <| lm z z <| l (p_fd fld_27_4 z) z <| l0h (p_st ty_23 z z z q z z) <| ne <| sgr z <| wl_ent (nrc (j := 1) (i := 6) (f := encMachInstr) (sz := 9) (e := 61) 15 z z z) <| l (p_mf z z) z <| la z z <| ne <| sgr z <| la z z <| ne <| sgr z <| lm z z <| ?_
      obtain ⟨r13, e14, H⟩ := ob H
      refine l (p_cw (ids := []) (api_givenWide_2_ok e14) ent_47 z z z rn rn rna q List.nodup_nil z z z on on z) z <| lm z z <| ?_
      obtain ⟨r15, e16, H⟩ := ob H
      refine l (p_cw (ids := []) (api_givenWide_2_ok e16) ent_47 z z z rn rn rna q List.nodup_nil z z z on on z) z <| lm z z <| ?_
      obtain ⟨r17, e18, H⟩ := ob H
      refine l (p_cw (ids := []) (api_givenWide_2_ok e18) ent_47 z z z rn rn rna q List.nodup_nil z z z on on z) z <| lh (p_al 16 zr_107 z) z <| lh (p_al 17 zr_107 z) z <| lh (p_al 18 zr_107 z) z <| l0h (p_stA (ds := (encMachOperand r13).map .data) ty_107 z z z z z z) <| l0h (p_stA (ds := (encMachOperand r15).map .data) ty_107 z z z z z z) <| l0h (p_stA (ds := (encMachOperand r17).map .data) ty_107 z z z z z z) <| ne <| sgr z <| l (p_bd (cs := (encMachPiece (MachPiece.mk 0 15)).map .data) pl_110 zr_110 z ⟨q, ⟨q, q⟩⟩ z) z <| l (p_bs (f := encMachPiece) [.tmp 112] [(MachPiece.mk 0 15)] Tryz.underlying105 ty_110.size zr_110 z z z z (el1 (.agg _) z el0) z) z <| ?_
      obtain ⟨r19, e20, H⟩ := ob H
      refine l (p_c (api_givenField_ok e20) ent_48 z z z) z <| lh (p_al 19 zr_107 z) z <| l0h (p_stA (ds := (encMachOperand r19).map .data) ty_107 z z z z z z) <| ne <| sgr z <| l (p_bd (cs := (encMachPiece (MachPiece.mk 0 15)).map .data) pl_110 zr_110 z ⟨q, ⟨q, q⟩⟩ z) z <| l (p_bs (f := encMachPiece) [.tmp 115] [(MachPiece.mk 0 15)] Tryz.underlying105 ty_110.size zr_110 z z z z (el1 (.agg _) z el0) z) z <| ?_
      obtain ⟨r21, e22, H⟩ := ob H
      refine l (p_c (api_givenField_ok e22) ent_48 z z z) z <| lh (p_al 20 zr_107 z) z <| l0h (p_stA (ds := (encMachOperand r21).map .data) ty_107 z z z z z z) <| ne <| sgr z <| l (p_bd (cs := (encMachPiece (MachPiece.mk 0 15)).map .data) pl_110 zr_110 z ⟨q, ⟨q, q⟩⟩ z) z <| l (p_bs (f := encMachPiece) [.tmp 118] [(MachPiece.mk 0 15)] Tryz.underlying105 ty_110.size zr_110 z z z z (el1 (.agg _) z el0) z) z <| ?_
      obtain ⟨r23, e24, H⟩ := ob H
      refine l (p_c (api_givenField_ok e24) ent_48 z z z) z <| lh (p_al 21 zr_107 z) z <| l0h (p_stA (ds := (encMachOperand r23).map .data) ty_107 z z z z z z) <| ne <| sgr z <| ?_
      obtain ⟨r25, e26, H⟩ := ob H
      refine l (p_c (api_givenVar_ok e26) ent_49 z z z) z <| ?_
      obtain ⟨r27, e28, H⟩ := ob H
      refine l (p_c (api_givenVar_ok e28) ent_49 z z z) z <| ?_
      obtain ⟨r29, e30, H⟩ := ob H
      refine l (p_c (api_givenVar_ok e30) ent_49 z z z) z <| ?_
      obtain ⟨r31, e32, H⟩ := ob H
      refine l (p_c (api_givenVar_ok e32) ent_49 z z z) z <| ?_
      obtain ⟨r33, e34, H⟩ := ob H
      refine l (p_c (api_givenVar_ok e34) ent_49 z z z) z <| ?_
      obtain ⟨r35, e36, H⟩ := ob H
      refine l (p_c (api_givenVar_ok e36) ent_49 z z z) z <| lh (p_al 22 zr_114 z) z <| lh (p_al 23 zr_114 z) z <| lh (p_al 24 zr_114 z) z <| lh (p_al 25 zr_114 z) z <| lh (p_al 26 zr_114 z) z <| lh (p_al 27 zr_114 z) z <| l0h (p_stA (ds := (encTermX r25).map .data) ty_114 z z z z z z) <| l0h (p_stA (ds := (encTermX r27).map .data) ty_114 z z z z z z) <| l0h (p_stA (ds := (encTermX r29).map .data) ty_114 z z z z z z) <| l0h (p_stA (ds := (encTermX r31).map .data) ty_114 z z z z z z) <| l0h (p_stA (ds := (encTermX r33).map .data) ty_114 z z z z z z) <| l0h (p_stA (ds := (encTermX r35).map .data) ty_114 z z z z z z) <| ne <| sgr z <| l (p_bs (f := eS) [.const (Value.string {data := #[97, 100, 100]}), .const (Value.string {data := #[115, 117, 98]}), .const (Value.string {data := #[97, 110, 100]}), .const (Value.string {data := #[111, 114]}), .const (Value.string {data := #[120, 111, 114]}), .const (Value.string {data := #[115, 104, 108]}), .const (Value.string {data := #[115, 104, 114]}), .const (Value.string {data := #[115, 97, 114]})] [(⟨#[97, 100, 100]⟩ : ByteArray), (⟨#[115, 117, 98]⟩ : ByteArray), (⟨#[97, 110, 100]⟩ : ByteArray), (⟨#[111, 114]⟩ : ByteArray), (⟨#[120, 111, 114]⟩ : ByteArray), (⟨#[115, 104, 108]⟩ : ByteArray), (⟨#[115, 104, 114]⟩ : ByteArray), (⟨#[115, 97, 114]⟩ : ByteArray)] Tryz.underlying98 ty_9.size zr_9 z z z z (el1 (.one _) z (el1 (.one _) z (el1 (.one _) z (el1 (.one _) z (el1 (.one _) z (el1 (.one _) z (el1 (.one _) z (el1 (.one _) z el0)))))))) z) z <| la z z <| ne <| ?_
      refine w_jn5 H (fun v37 v38 v39 v40 v41 => ⟨[(0, (.ptr 0 0)), (1, (.ptr 1 0)), (7, (.fn (.func 46) [] [(.ptr 1 0)])), (8, (.fn (.func 47) [] [])), (9, (.ptr 16 0)), (10, (.ptr 17 0)), (11, (.ptr 18 0)), (12, (.ptr 19 0)), (13, (.ptr 20 0)), (14, (.ptr 21 0)), (15, (.ptr 22 0)), (16, (.ptr 23 0)), (17, (.ptr 24 0)), (18, (.ptr 25 0)), (19, (.ptr 26 0)), (20, (.ptr 27 0))], [(0, (oC 27 [(aS ⟨#[]⟩), (aN .i64 0), (aN .i64 0), aNil, aNil, aNil, aNil])), (1, (oC 27 [(aS v37), (aN .i64 v38), (aN .i64 v39), (.row 8), (.row 2), (aL 2 encMachUnit v40), (.row 15)])), (2, (oT 97 2 tencMachBank v11)), (8, (oR 100 4 encMachReg v12)), (15, (oR 61 9 encMachInstr v41)), (16, (oD 107 (encMachOperand r13))), (17, (oD 107 (encMachOperand r15))), (18, (oD 107 (encMachOperand r17))), (19, (oD 107 (encMachOperand r19))), (20, (oD 107 (encMachOperand r21))), (21, (oD 107 (encMachOperand r23))), (22, (oD 114 (encTermX r25))), (23, (oD 114 (encTermX r27))), (24, (oD 114 (encTermX r29))), (25, (oD 114 (encTermX r31))), (26, (oD 114 (encTermX r33))), (27, (oD 114 (encTermX r35)))]⟩) ?_ ?_
      · intro v37 v38 v39 v40 v41 H
        rw [api_givenWide_k3] at H
        refine wc_seq <| wc_draw [0, 0, 0, 0, 14, 0, 0, 96, 224, 480, 992, 2047] mixed z <| dm z z <| dr (p_ldB (ds := (encMachOperand r13).map .data) ty_107 z z z z) z <| dr (p_ldB (ds := (encMachOperand r15).map .data) ty_107 z z z z) z <| dr (p_ldB (ds := (encMachOperand r17).map .data) ty_107 z z z z) z <| dr (p_bs (f := encMachOperand) [.tmp 154, .tmp 155, .tmp 156] [r13, r15, r17] Tryz.underlying58 ty_107.size zr_107 z z z z (el1 (.agg _) z (el1 (.agg _) z (el1 (.agg _) z el0))) z) z <| dr (p_ldB (ds := (encTermX r25).map .data) ty_114 z z z z) z <| dr (p_ldB (ds := (encTermX r27).map .data) ty_114 z z z z) z <| dr (p_bs (f := encTerm) [.tmp 158, .tmp 159] [r25, r27] Tryz.underlying112 ty_114.size zr_114 z z z z (el1X (encTerm_X _) (.agg _) z (el1X (encTerm_X _) (.agg _) z el0)) z) z <| ?_
        obtain ⟨r42, e43, H⟩ := ob H
        refine dr (p_c (api_givenOp_ok e43) ent_51 z z z) z <| ?_
        obtain ⟨r44, e45, H⟩ := ob H
        refine dr (p_c (api_givenSet_ok e45) ent_50 z z z) z <| dr (p_bs (f := encMachEffect) [.tmp 162] [r44] Tryz.underlying59 ty_118.size zr_118 z z z z (el1 (.agg _) z el0) z) z <| ?_
        obtain ⟨r46, e47, H⟩ := ob H
        refine drh (p_cw (ids := [1, 8, 2, 15, 29]) (api_givenWide_1_ok e47) ent_46 z z z (rc z z (rc z rm (rc z (rtt (Tame.flat tmMachBank _)) (rc z rm (rc z z rn))))) (rc z z (rc z rm (rc z (rtt (Tame.flat tmMachBank _)) (rc z z (rc z rm rn))))) z ⟨z, ⟨z, ⟨z, ⟨z, ⟨z, q⟩⟩⟩⟩⟩ (by decide) z z z (oc z (oc om (oc (ott (Tame.flat tmMachBank _)) (oc om (oc z on))))) (oc z (oc om (oc (ott (Tame.flat tmMachBank _)) (oc z (oc om on))))) z) z <| ?_
        refine wd_nil ?_ (by kernel_rfl)
        refine e_n <| wc_seq <| wc_draw [0, 0, 0, 0, 14, 0, 0, 96, 224, 480, 992, 2047] mixed z <| dm z z <| dr (p_ldB (ds := (encMachOperand r13).map .data) ty_107 z z z z) z <| dr (p_ldB (ds := (encMachOperand r15).map .data) ty_107 z z z z) z <| dr (p_ldB (ds := (encMachOperand r17).map .data) ty_107 z z z z) z <| dr (p_bs (f := encMachOperand) [.tmp 166, .tmp 167, .tmp 168] [r13, r15, r17] Tryz.underlying58 ty_107.size zr_107 z z z z (el1 (.agg _) z (el1 (.agg _) z (el1 (.agg _) z el0))) z) z <| dr (p_ldB (ds := (encTermX r25).map .data) ty_114 z z z z) z <| dr (p_ldB (ds := (encTermX r27).map .data) ty_114 z z z z) z <| dr (p_bs (f := encTerm) [.tmp 170, .tmp 171] [r25, r27] Tryz.underlying112 ty_114.size zr_114 z z z z (el1X (encTerm_X _) (.agg _) z (el1X (encTerm_X _) (.agg _) z el0)) z) z <| ?_
        obtain ⟨r48, e49, H⟩ := ob H
        refine dr (p_c (api_givenOp_ok e49) ent_51 z z z) z <| ?_
        obtain ⟨r50, e51, H⟩ := ob H
        refine dr (p_c (api_givenSet_ok e51) ent_50 z z z) z <| dr (p_bs (f := encMachEffect) [.tmp 174] [r50] Tryz.underlying59 ty_118.size zr_118 z z z z (el1 (.agg _) z el0) z) z <| ?_
        obtain ⟨r52, e53, H⟩ := ob H
        refine drh (p_cw (ids := [1, 8, 2, 29, 30]) (api_givenWide_1_ok e53) ent_46 z z z (rc z z (rc z rm (rc z (rtt (Tame.flat tmMachBank _)) (rc z rm (rc z z rn))))) (rc z z (rc z rm (rc z (rtt (Tame.flat tmMachBank _)) (rc z z (rc z rm rn))))) z ⟨z, ⟨z, ⟨z, ⟨z, ⟨z, q⟩⟩⟩⟩⟩ (by decide) z z z (oc z (oc om (oc (ott (Tame.flat tmMachBank _)) (oc om (oc z on))))) (oc z (oc om (oc (ott (Tame.flat tmMachBank _)) (oc z (oc om on))))) z) z <| ?_
        refine wd_nil ?_ (by kernel_rfl)
        refine e_n <| wc_seq <| wc_draw [0, 0, 0, 0, 14, 0, 0, 96, 224, 480, 992, 2047] mixed z <| dm z z <| dr (p_ldB (ds := (encMachOperand r13).map .data) ty_107 z z z z) z <| dr (p_ldB (ds := (encMachOperand r15).map .data) ty_107 z z z z) z <| dr (p_ldB (ds := (encMachOperand r17).map .data) ty_107 z z z z) z <| dr (p_bs (f := encMachOperand) [.tmp 178, .tmp 179, .tmp 180] [r13, r15, r17] Tryz.underlying58 ty_107.size zr_107 z z z z (el1 (.agg _) z (el1 (.agg _) z (el1 (.agg _) z el0))) z) z <| dr (p_ldB (ds := (encTermX r25).map .data) ty_114 z z z z) z <| dr (p_ldB (ds := (encTermX r27).map .data) ty_114 z z z z) z <| dr (p_bs (f := encTerm) [.tmp 182, .tmp 183] [r25, r27] Tryz.underlying112 ty_114.size zr_114 z z z z (el1X (encTerm_X _) (.agg _) z (el1X (encTerm_X _) (.agg _) z el0)) z) z <| ?_
        obtain ⟨r54, e55, H⟩ := ob H
        refine dr (p_c (api_givenOp_ok e55) ent_51 z z z) z <| ?_
        obtain ⟨r56, e57, H⟩ := ob H
        refine dr (p_c (api_givenSet_ok e57) ent_50 z z z) z <| dr (p_bs (f := encMachEffect) [.tmp 186] [r56] Tryz.underlying59 ty_118.size zr_118 z z z z (el1 (.agg _) z el0) z) z <| ?_
        obtain ⟨r58, e59, H⟩ := ob H
        refine drh (p_cw (ids := [1, 8, 2, 30, 31]) (api_givenWide_1_ok e59) ent_46 z z z (rc z z (rc z rm (rc z (rtt (Tame.flat tmMachBank _)) (rc z rm (rc z z rn))))) (rc z z (rc z rm (rc z (rtt (Tame.flat tmMachBank _)) (rc z z (rc z rm rn))))) z ⟨z, ⟨z, ⟨z, ⟨z, ⟨z, q⟩⟩⟩⟩⟩ (by decide) z z z (oc z (oc om (oc (ott (Tame.flat tmMachBank _)) (oc om (oc z on))))) (oc z (oc om (oc (ott (Tame.flat tmMachBank _)) (oc z (oc om on))))) z) z <| ?_
        refine wd_nil ?_ (by kernel_rfl)
        refine e_n <| wc_seq <| wc_draw [0, 0, 0, 0, 0, 30, 0, 0, 0, 384, 900, 1988, 4036, 8132, 16324, 32767] mixed z <| dm z z <| dr (p_ldB (ds := (encMachOperand r13).map .data) ty_107 z z z z) z <| ?_
        obtain ⟨r60, e61, H⟩ := ob H
        refine dr (p_c (api_givenTied_ok e61) ent_52 z z z) z <| dr (p_ldB (ds := (encMachOperand r15).map .data) ty_107 z z z z) z <| dr (p_ldB (ds := (encMachOperand r17).map .data) ty_107 z z z z) z <| dr (p_bs (f := encMachOperand) [.tmp 190, .tmp 191, .tmp 192, .tmp 193] [r13, r60, r15, r17] Tryz.underlying58 ty_107.size zr_107 z z z z (el1 (.agg _) z (el1 (.agg _) z (el1 (.agg _) z (el1 (.agg _) z el0)))) z) z <| dr (p_ldB (ds := (encTermX r33).map .data) ty_114 z z z z) z <| dr (p_ldB (ds := (encTermX r25).map .data) ty_114 z z z z) z <| dr (p_ldB (ds := (encTermX r27).map .data) ty_114 z z z z) z <| dr (p_bs (f := encTerm) [.tmp 196, .tmp 197] [r25, r27] Tryz.underlying112 ty_114.size zr_114 z z z z (el1X (encTerm_X _) (.agg _) z (el1X (encTerm_X _) (.agg _) z el0)) z) z <| ?_
        obtain ⟨r62, e63, H⟩ := ob H
        refine dr (p_c (api_givenOp_ok e63) ent_51 z z z) z <| dr (p_bs (f := encTerm) [.tmp 195, .tmp 199] [r33, r62] Tryz.underlying112 ty_114.size zr_114 z z z z (el1X (encTerm_X _) (.agg _) z (el1X (encTerm_X _) (.agg _) z el0)) z) z <| ?_
        obtain ⟨r64, e65, H⟩ := ob H
        refine dr (p_c (api_givenOp_ok e65) ent_51 z z z) z <| ?_
        obtain ⟨r66, e67, H⟩ := ob H
        refine dr (p_c (api_givenSet_ok e67) ent_50 z z z) z <| dr (p_bs (f := encMachEffect) [.tmp 202] [r66] Tryz.underlying59 ty_118.size zr_118 z z z z (el1 (.agg _) z el0) z) z <| ?_
        obtain ⟨r68, e69, H⟩ := ob H
        refine drh (p_cw (ids := [1, 8, 2, 31, 32]) (api_givenWide_1_ok e69) ent_46 z z z (rc z z (rc z rm (rc z (rtt (Tame.flat tmMachBank _)) (rc z rm (rc z z rn))))) (rc z z (rc z rm (rc z (rtt (Tame.flat tmMachBank _)) (rc z z (rc z rm rn))))) z ⟨z, ⟨z, ⟨z, ⟨z, ⟨z, q⟩⟩⟩⟩⟩ (by decide) z z z (oc z (oc om (oc (ott (Tame.flat tmMachBank _)) (oc om (oc z on))))) (oc z (oc om (oc (ott (Tame.flat tmMachBank _)) (oc z (oc om on))))) z) z <| ?_
        refine wd_nil ?_ (by kernel_rfl)
        refine e_n <| wc_seq <| wc_draw [0, 0, 0, 0, 14, 0, 0, 96, 224, 480, 992, 2047] mixed z <| dm z z <| dr (p_ldB (ds := (encMachOperand r13).map .data) ty_107 z z z z) z <| dr (p_ldB (ds := (encMachOperand r15).map .data) ty_107 z z z z) z <| dr (p_ldB (ds := (encMachOperand r19).map .data) ty_107 z z z z) z <| dr (p_bs (f := encMachOperand) [.tmp 206, .tmp 207, .tmp 208] [r13, r15, r19] Tryz.underlying58 ty_107.size zr_107 z z z z (el1 (.agg _) z (el1 (.agg _) z (el1 (.agg _) z el0))) z) z <| dr (p_ldB (ds := (encTermX r25).map .data) ty_114 z z z z) z <| dr (p_ldB (ds := (encTermX r31).map .data) ty_114 z z z z) z <| dr (p_bs (f := encTerm) [.tmp 210, .tmp 211] [r25, r31] Tryz.underlying112 ty_114.size zr_114 z z z z (el1X (encTerm_X _) (.agg _) z (el1X (encTerm_X _) (.agg _) z el0)) z) z <| ?_
        obtain ⟨r70, e71, H⟩ := ob H
        refine dr (p_c (api_givenOp_ok e71) ent_51 z z z) z <| ?_
        obtain ⟨r72, e73, H⟩ := ob H
        refine dr (p_c (api_givenSet_ok e73) ent_50 z z z) z <| dr (p_bs (f := encMachEffect) [.tmp 214] [r72] Tryz.underlying59 ty_118.size zr_118 z z z z (el1 (.agg _) z el0) z) z <| ?_
        obtain ⟨r74, e75, H⟩ := ob H
        refine drh (p_cw (ids := [1, 8, 2, 32, 33]) (api_givenWide_1_ok e75) ent_46 z z z (rc z z (rc z rm (rc z (rtt (Tame.flat tmMachBank _)) (rc z rm (rc z z rn))))) (rc z z (rc z rm (rc z (rtt (Tame.flat tmMachBank _)) (rc z z (rc z rm rn))))) z ⟨z, ⟨z, ⟨z, ⟨z, ⟨z, q⟩⟩⟩⟩⟩ (by decide) z z z (oc z (oc om (oc (ott (Tame.flat tmMachBank _)) (oc om (oc z on))))) (oc z (oc om (oc (ott (Tame.flat tmMachBank _)) (oc z (oc om on))))) z) z <| ?_
        refine wd_nil ?_ (by kernel_rfl)
        refine e_n <| wc_seq <| wc_draw [0, 0, 0, 0, 12, 28, 62, 0, 188, 444, 1023] mixed z <| dm z z <| dr (p_ldB (ds := (encMachOperand r13).map .data) ty_107 z z z z) z <| dr (p_bd (cs := (encMachPiece (MachPiece.mk 15 6)).map .data) pl_110 zr_110 z ⟨q, ⟨q, q⟩⟩ z) z <| dr (p_bd (cs := (encMachPiece (MachPiece.mk 0 15)).map .data) pl_110 zr_110 z ⟨q, ⟨q, q⟩⟩ z) z <| dr (p_bs (f := encMachPiece) [.tmp 219, .tmp 220] [(MachPiece.mk 15 6), (MachPiece.mk 0 15)] Tryz.underlying105 ty_110.size zr_110 z z z z (el1 (.agg _) z (el1 (.agg _) z el0)) z) z <| ?_
        obtain ⟨r76, e77, H⟩ := ob H
        refine dr (p_c (api_givenField_ok e77) ent_48 z z z) z <| dr (p_bs (f := encMachOperand) [.tmp 218, .tmp 222] [r13, r76] Tryz.underlying58 ty_107.size zr_107 z z z z (el1 (.agg _) z (el1 (.agg _) z el0)) z) z <| dr (p_ldB (ds := (encTermX r31).map .data) ty_114 z z z z) z <| ?_
        obtain ⟨r78, e79, H⟩ := ob H
        refine dr (p_c (api_givenSet_ok e79) ent_50 z z z) z <| dr (p_bs (f := encMachEffect) [.tmp 225] [r78] Tryz.underlying59 ty_118.size zr_118 z z z z (el1 (.agg _) z el0) z) z <| ?_
        obtain ⟨r80, e81, H⟩ := ob H
        refine drh (p_cw (ids := [1, 8, 2, 33, 34]) (api_givenWide_1_ok e81) ent_46 z z z (rc z z (rc z rm (rc z (rtt (Tame.flat tmMachBank _)) (rc z rm (rc z z rn))))) (rc z z (rc z rm (rc z (rtt (Tame.flat tmMachBank _)) (rc z z (rc z rm rn))))) z ⟨z, ⟨z, ⟨z, ⟨z, ⟨z, q⟩⟩⟩⟩⟩ (by decide) z z z (oc z (oc om (oc (ott (Tame.flat tmMachBank _)) (oc om (oc z on))))) (oc z (oc om (oc (ott (Tame.flat tmMachBank _)) (oc z (oc om on))))) z) z <| ?_
        refine wd_nil ?_ (by kernel_rfl)
        refine e_n <| wc_seq <| wc_draw [0, 0, 2, 0, 0, 24, 62, 126, 0, 256, 894, 1918, 3966, 8191] mixed z <| dm z z <| dm z z <| ?_
        obtain ⟨r82, e83, H⟩ := ob H
        refine dr (p_cw (ids := []) (api_givenWide_2_ok e83) ent_47 z z z rn rn rna q List.nodup_nil z z z on on z) z <| dr (p_bd (cs := (encMachPiece (MachPiece.mk 0 15)).map .data) pl_110 zr_110 z ⟨q, ⟨q, q⟩⟩ z) z <| dr (p_bd (cs := (encMachPiece (MachPiece.mk 18 1)).map .data) pl_110 zr_110 z ⟨q, ⟨q, q⟩⟩ z) z <| dr (p_bs (f := encMachPiece) [.tmp 231, .tmp 232] [(MachPiece.mk 0 15), (MachPiece.mk 18 1)] Tryz.underlying105 ty_110.size zr_110 z z z z (el1 (.agg _) z (el1 (.agg _) z el0)) z) z <| ?_
        obtain ⟨r84, e85, H⟩ := ob H
        refine dr (p_c (api_givenField_ok e85) ent_48 z z z) z <| dr (p_bs (f := encMachOperand) [.tmp 230, .tmp 234] [r82, r84] Tryz.underlying58 ty_107.size zr_107 z z z z (el1 (.agg _) z (el1 (.agg _) z el0)) z) z <| dr (p_ldB (ds := (encTermX r31).map .data) ty_114 z z z z) z <| dr (p_bs (f := encTerm) [.tmp 236] [r31] Tryz.underlying112 ty_114.size zr_114 z z z z (el1X (encTerm_X _) (.agg _) z el0) z) z <| ?_
        obtain ⟨r86, e87, H⟩ := ob H
        refine dr (p_c (api_givenOp_ok e87) ent_51 z z z) z <| ?_
        obtain ⟨r88, e89, H⟩ := ob H
        refine dr (p_c (api_givenSet_ok e89) ent_50 z z z) z <| dr (p_bs (f := encMachEffect) [.tmp 239] [r88] Tryz.underlying59 ty_118.size zr_118 z z z z (el1 (.agg _) z el0) z) z <| ?_
        obtain ⟨r90, e91, H⟩ := ob H
        refine drh (p_cw (ids := [1, 8, 2, 34, 35]) (api_givenWide_1_ok e91) ent_46 z z z (rc z z (rc z rm (rc z (rtt (Tame.flat tmMachBank _)) (rc z rm (rc z z rn))))) (rc z z (rc z rm (rc z (rtt (Tame.flat tmMachBank _)) (rc z z (rc z rm rn))))) z ⟨z, ⟨z, ⟨z, ⟨z, ⟨z, q⟩⟩⟩⟩⟩ (by decide) z z z (oc z (oc om (oc (ott (Tame.flat tmMachBank _)) (oc om (oc z on))))) (oc z (oc om (oc (ott (Tame.flat tmMachBank _)) (oc z (oc om on))))) z) z <| ?_
        refine wd_nil ?_ (by kernel_rfl)
        refine e_n <| sgr z <| lm z z <| lm z z <| ?_
        obtain ⟨r92, e93, H⟩ := ob H
        refine l (p_cw (ids := []) (api_givenWide_2_ok e93) ent_47 z z z rn rn rna q List.nodup_nil z z z on on z) z <| lm z z <| ?_
        obtain ⟨r94, e95, H⟩ := ob H
        refine l (p_cw (ids := []) (api_givenWide_2_ok e95) ent_47 z z z rn rn rna q List.nodup_nil z z z on on z) z <| l (p_bs (f := encMachOperand) [.tmp 244, .tmp 246] [r92, r94] Tryz.underlying58 ty_107.size zr_107 z z z z (el1 (.agg _) z (el1 (.agg _) z el0)) z) z <| ?_
        obtain ⟨r96, e97, H⟩ := ob H
        refine l (p_c (api_givenVar_ok e97) ent_49 z z z) z <| ?_
        obtain ⟨r98, e99, H⟩ := ob H
        refine l (p_c (api_givenSet_ok e99) ent_50 z z z) z <| l (p_bs (f := encMachEffect) [.tmp 249] [r98] Tryz.underlying59 ty_118.size zr_118 z z z z (el1 (.agg _) z el0) z) z <| ?_
        obtain ⟨r100, e101, H⟩ := ob H
        refine lh (p_cw (ids := [1, 8, 2, 35, 36]) (api_givenWide_1_ok e101) ent_46 z z z (rc z z (rc z rm (rc z (rtt (Tame.flat tmMachBank _)) (rc z rm (rc z z rn))))) (rc z z (rc z rm (rc z (rtt (Tame.flat tmMachBank _)) (rc z z (rc z rm rn))))) z ⟨z, ⟨z, ⟨z, ⟨z, ⟨z, q⟩⟩⟩⟩⟩ (by decide) z z z (oc z (oc om (oc (ott (Tame.flat tmMachBank _)) (oc om (oc z on))))) (oc z (oc om (oc (ott (Tame.flat tmMachBank _)) (oc z (oc om on))))) z) z <| ne <| sgr z <| lm z z <| lm z z <| ?_
        obtain ⟨r102, e103, H⟩ := ob H
        refine l (p_cw (ids := []) (api_givenWide_2_ok e103) ent_47 z z z rn rn rna q List.nodup_nil z z z on on z) z <| lm z z <| ?_
        obtain ⟨r104, e105, H⟩ := ob H
        refine l (p_cw (ids := []) (api_givenWide_2_ok e105) ent_47 z z z rn rn rna q List.nodup_nil z z z on on z) z <| lm z z <| ?_
        obtain ⟨r106, e107, H⟩ := ob H
        refine l (p_cw (ids := []) (api_givenWide_2_ok e107) ent_47 z z z rn rn rna q List.nodup_nil z z z on on z) z <| l (p_bs (f := encMachOperand) [.tmp 254, .tmp 256, .tmp 258] [r102, r104, r106] Tryz.underlying58 ty_107.size zr_107 z z z z (el1 (.agg _) z (el1 (.agg _) z (el1 (.agg _) z el0))) z) z <| ?_
        obtain ⟨r108, e109, H⟩ := ob H
        refine l (p_c (api_givenVar_ok e109) ent_49 z z z) z <| ?_
        obtain ⟨r110, e111, H⟩ := ob H
        refine l (p_c (api_givenVar_ok e111) ent_49 z z z) z <| l (p_bs (f := encTerm) [.tmp 260, .tmp 261] [r108, r110] Tryz.underlying112 ty_114.size zr_114 z z z z (el1X (encTerm_X _) (.agg _) z (el1X (encTerm_X _) (.agg _) z el0)) z) z <| ?_
        obtain ⟨r112, e113, H⟩ := ob H
        refine l (p_c (api_givenOp_ok e113) ent_51 z z z) z <| ?_
        obtain ⟨r114, e115, H⟩ := ob H
        refine l (p_c (api_givenSet_ok e115) ent_50 z z z) z <| l (p_bs (f := encMachEffect) [.tmp 264] [r114] Tryz.underlying59 ty_118.size zr_118 z z z z (el1 (.agg _) z el0) z) z <| ?_
        obtain ⟨r116, e117, H⟩ := ob H
        refine lh (p_cw (ids := [1, 8, 2, 36, 37]) (api_givenWide_1_ok e117) ent_46 z z z (rc z z (rc z rm (rc z (rtt (Tame.flat tmMachBank _)) (rc z rm (rc z z rn))))) (rc z z (rc z rm (rc z (rtt (Tame.flat tmMachBank _)) (rc z z (rc z rm rn))))) z ⟨z, ⟨z, ⟨z, ⟨z, ⟨z, q⟩⟩⟩⟩⟩ (by decide) z z z (oc z (oc om (oc (ott (Tame.flat tmMachBank _)) (oc om (oc z on))))) (oc z (oc om (oc (ott (Tame.flat tmMachBank _)) (oc z (oc om on))))) z) z <| ne <| wc_seq <| wc_draw [0, 0, 0, 4, 14, 12, 44, 108, 236, 492, 1023] mixed z <| dm z z <| dr (p_ldB (ds := (encMachOperand r13).map .data) ty_107 z z z z) z <| dm z z <| ?_
        obtain ⟨r118, e119, H⟩ := ob H
        refine dr (p_cw (ids := []) (api_givenWide_2_ok e119) ent_47 z z z rn rn rna q List.nodup_nil z z z on on z) z <| dr (p_bs (f := encMachOperand) [.tmp 268, .tmp 270] [r13, r118] Tryz.underlying58 ty_107.size zr_107 z z z z (el1 (.agg _) z (el1 (.agg _) z el0)) z) z <| ?_
        obtain ⟨r120, e121, H⟩ := ob H
        refine dr (p_c (api_givenVar_ok e121) ent_49 z z z) z <| dr (p_bs (f := encTerm) [.tmp 272] [r120] Tryz.underlying112 ty_114.size zr_114 z z z z (el1X (encTerm_X _) (.agg _) z el0) z) z <| ?_
        obtain ⟨r122, e123, H⟩ := ob H
        refine dr (p_c (api_givenOp_ok e123) ent_51 z z z) z <| ?_
        obtain ⟨r124, e125, H⟩ := ob H
        refine dr (p_c (api_givenSet_ok e125) ent_50 z z z) z <| dr (p_bs (f := encMachEffect) [.tmp 275] [r124] Tryz.underlying59 ty_118.size zr_118 z z z z (el1 (.agg _) z el0) z) z <| ?_
        obtain ⟨r126, e127, H⟩ := ob H
        refine drh (p_cw (ids := [1, 8, 2, 37, 38]) (api_givenWide_1_ok e127) ent_46 z z z (rc z z (rc z rm (rc z (rtt (Tame.flat tmMachBank _)) (rc z rm (rc z z rn))))) (rc z z (rc z rm (rc z (rtt (Tame.flat tmMachBank _)) (rc z z (rc z rm rn))))) z ⟨z, ⟨z, ⟨z, ⟨z, ⟨z, q⟩⟩⟩⟩⟩ (by decide) z z z (oc z (oc om (oc (ott (Tame.flat tmMachBank _)) (oc om (oc z on))))) (oc z (oc om (oc (ott (Tame.flat tmMachBank _)) (oc z (oc om on))))) z) z <| ?_
        refine wd_nil ?_ (by kernel_rfl)
        refine e_n <| wc_seq <| wc_draw [0, 0, 0, 4, 14, 12, 44, 108, 236, 492, 1023] mixed z <| dm z z <| dr (p_ldB (ds := (encMachOperand r13).map .data) ty_107 z z z z) z <| dm z z <| ?_
        obtain ⟨r128, e129, H⟩ := ob H
        refine dr (p_cw (ids := []) (api_givenWide_2_ok e129) ent_47 z z z rn rn rna q List.nodup_nil z z z on on z) z <| dr (p_bs (f := encMachOperand) [.tmp 279, .tmp 281] [r13, r128] Tryz.underlying58 ty_107.size zr_107 z z z z (el1 (.agg _) z (el1 (.agg _) z el0)) z) z <| ?_
        obtain ⟨r130, e131, H⟩ := ob H
        refine dr (p_c (api_givenVar_ok e131) ent_49 z z z) z <| dr (p_bs (f := encTerm) [.tmp 283] [r130] Tryz.underlying112 ty_114.size zr_114 z z z z (el1X (encTerm_X _) (.agg _) z el0) z) z <| ?_
        obtain ⟨r132, e133, H⟩ := ob H
        refine dr (p_c (api_givenOp_ok e133) ent_51 z z z) z <| ?_
        obtain ⟨r134, e135, H⟩ := ob H
        refine dr (p_c (api_givenSet_ok e135) ent_50 z z z) z <| dr (p_bs (f := encMachEffect) [.tmp 286] [r134] Tryz.underlying59 ty_118.size zr_118 z z z z (el1 (.agg _) z el0) z) z <| ?_
        obtain ⟨r136, e137, H⟩ := ob H
        refine drh (p_cw (ids := [1, 8, 2, 38, 39]) (api_givenWide_1_ok e137) ent_46 z z z (rc z z (rc z rm (rc z (rtt (Tame.flat tmMachBank _)) (rc z rm (rc z z rn))))) (rc z z (rc z rm (rc z (rtt (Tame.flat tmMachBank _)) (rc z z (rc z rm rn))))) z ⟨z, ⟨z, ⟨z, ⟨z, ⟨z, q⟩⟩⟩⟩⟩ (by decide) z z z (oc z (oc om (oc (ott (Tame.flat tmMachBank _)) (oc om (oc z on))))) (oc z (oc om (oc (ott (Tame.flat tmMachBank _)) (oc z (oc om on))))) z) z <| ?_
        refine wd_nil ?_ (by kernel_rfl)
        refine e_n <| wc_seq <| wc_draw [0, 0, 0, 4, 14, 12, 44, 108, 236, 492, 1023] mixed z <| dm z z <| dr (p_ldB (ds := (encMachOperand r13).map .data) ty_107 z z z z) z <| dm z z <| ?_
        obtain ⟨r138, e139, H⟩ := ob H
        refine dr (p_cw (ids := []) (api_givenWide_2_ok e139) ent_47 z z z rn rn rna q List.nodup_nil z z z on on z) z <| dr (p_bs (f := encMachOperand) [.tmp 290, .tmp 292] [r13, r138] Tryz.underlying58 ty_107.size zr_107 z z z z (el1 (.agg _) z (el1 (.agg _) z el0)) z) z <| ?_
        obtain ⟨r140, e141, H⟩ := ob H
        refine dr (p_c (api_givenVar_ok e141) ent_49 z z z) z <| dr (p_bs (f := encTerm) [.tmp 294] [r140] Tryz.underlying112 ty_114.size zr_114 z z z z (el1X (encTerm_X _) (.agg _) z el0) z) z <| ?_
        obtain ⟨r142, e143, H⟩ := ob H
        refine dr (p_c (api_givenOp_ok e143) ent_51 z z z) z <| ?_
        obtain ⟨r144, e145, H⟩ := ob H
        refine dr (p_c (api_givenSet_ok e145) ent_50 z z z) z <| dr (p_bs (f := encMachEffect) [.tmp 297] [r144] Tryz.underlying59 ty_118.size zr_118 z z z z (el1 (.agg _) z el0) z) z <| ?_
        obtain ⟨r146, e147, H⟩ := ob H
        refine drh (p_cw (ids := [1, 8, 2, 39, 40]) (api_givenWide_1_ok e147) ent_46 z z z (rc z z (rc z rm (rc z (rtt (Tame.flat tmMachBank _)) (rc z rm (rc z z rn))))) (rc z z (rc z rm (rc z (rtt (Tame.flat tmMachBank _)) (rc z z (rc z rm rn))))) z ⟨z, ⟨z, ⟨z, ⟨z, ⟨z, q⟩⟩⟩⟩⟩ (by decide) z z z (oc z (oc om (oc (ott (Tame.flat tmMachBank _)) (oc om (oc z on))))) (oc z (oc om (oc (ott (Tame.flat tmMachBank _)) (oc z (oc om on))))) z) z <| ?_
        refine wd_nil ?_ (by kernel_rfl)
        refine e_n <| wc_seq <| wc_draw [0, 0, 0, 4, 0, 28, 62, 60, 188, 444, 956, 1980, 4028, 8191] mixed z <| dm z z <| dr (p_ldB (ds := (encMachOperand r13).map .data) ty_107 z z z z) z <| dm z z <| ?_
        obtain ⟨r148, e149, H⟩ := ob H
        refine dr (p_cw (ids := []) (api_givenWide_2_ok e149) ent_47 z z z rn rn rna q List.nodup_nil z z z on on z) z <| dm z z <| ?_
        obtain ⟨r150, e151, H⟩ := ob H
        refine dr (p_cw (ids := []) (api_givenWide_2_ok e151) ent_47 z z z rn rn rna q List.nodup_nil z z z on on z) z <| dr (p_bs (f := encMachOperand) [.tmp 301, .tmp 303, .tmp 305] [r13, r148, r150] Tryz.underlying58 ty_107.size zr_107 z z z z (el1 (.agg _) z (el1 (.agg _) z (el1 (.agg _) z el0))) z) z <| ?_
        obtain ⟨r152, e153, H⟩ := ob H
        refine dr (p_c (api_givenVar_ok e153) ent_49 z z z) z <| ?_
        obtain ⟨r154, e155, H⟩ := ob H
        refine dr (p_c (api_givenVar_ok e155) ent_49 z z z) z <| dr (p_bs (f := encTerm) [.tmp 307, .tmp 308] [r152, r154] Tryz.underlying112 ty_114.size zr_114 z z z z (el1X (encTerm_X _) (.agg _) z (el1X (encTerm_X _) (.agg _) z el0)) z) z <| ?_
        obtain ⟨r156, e157, H⟩ := ob H
        refine dr (p_c (api_givenOp_ok e157) ent_51 z z z) z <| ?_
        obtain ⟨r158, e159, H⟩ := ob H
        refine dr (p_c (api_givenSet_ok e159) ent_50 z z z) z <| dr (p_bs (f := encMachEffect) [.tmp 311] [r158] Tryz.underlying59 ty_118.size zr_118 z z z z (el1 (.agg _) z el0) z) z <| ?_
        obtain ⟨r160, e161, H⟩ := ob H
        refine drh (p_cw (ids := [1, 8, 2, 40, 41]) (api_givenWide_1_ok e161) ent_46 z z z (rc z z (rc z rm (rc z (rtt (Tame.flat tmMachBank _)) (rc z rm (rc z z rn))))) (rc z z (rc z rm (rc z (rtt (Tame.flat tmMachBank _)) (rc z z (rc z rm rn))))) z ⟨z, ⟨z, ⟨z, ⟨z, ⟨z, q⟩⟩⟩⟩⟩ (by decide) z z z (oc z (oc om (oc (ott (Tame.flat tmMachBank _)) (oc om (oc z on))))) (oc z (oc om (oc (ott (Tame.flat tmMachBank _)) (oc z (oc om on))))) z) z <| ?_
        refine wd_nil ?_ (by kernel_rfl)
        refine e_n <| wc_seq <| wc_draw [0, 0, 0, 0, 14, 0, 0, 96, 224, 480, 992, 2016, 4064, 8191] mixed z <| dm z z <| dr (p_ldB (ds := (encMachOperand r13).map .data) ty_107 z z z z) z <| dr (p_ldB (ds := (encMachOperand r15).map .data) ty_107 z z z z) z <| dr (p_ldB (ds := (encMachOperand r21).map .data) ty_107 z z z z) z <| dr (p_bs (f := encMachOperand) [.tmp 315, .tmp 316, .tmp 317] [r13, r15, r21] Tryz.underlying58 ty_107.size zr_107 z z z z (el1 (.agg _) z (el1 (.agg _) z (el1 (.agg _) z el0))) z) z <| dr (p_ldB (ds := (encTermX r25).map .data) ty_114 z z z z) z <| dr (p_ldB (ds := (encTermX r31).map .data) ty_114 z z z z) z <| dr (p_bs (f := encTerm) [.tmp 319, .tmp 320] [r25, r31] Tryz.underlying112 ty_114.size zr_114 z z z z (el1X (encTerm_X _) (.agg _) z (el1X (encTerm_X _) (.agg _) z el0)) z) z <| ?_
        obtain ⟨r162, e163, H⟩ := ob H
        refine dr (p_c (api_givenOp_ok e163) ent_51 z z z) z <| dr (p_bs (f := encTerm) [.tmp 322] [r162] Tryz.underlying112 ty_114.size zr_114 z z z z (el1X (encTerm_X _) (.agg _) z el0) z) z <| ?_
        obtain ⟨r164, e165, H⟩ := ob H
        refine dr (p_c (api_givenOp_ok e165) ent_51 z z z) z <| ?_
        obtain ⟨r166, e167, H⟩ := ob H
        refine dr (p_c (api_givenSet_ok e167) ent_50 z z z) z <| dr (p_bs (f := encMachEffect) [.tmp 325] [r166] Tryz.underlying59 ty_118.size zr_118 z z z z (el1 (.agg _) z el0) z) z <| ?_
        obtain ⟨r168, e169, H⟩ := ob H
        refine drh (p_cw (ids := [1, 8, 2, 41, 42]) (api_givenWide_1_ok e169) ent_46 z z z (rc z z (rc z rm (rc z (rtt (Tame.flat tmMachBank _)) (rc z rm (rc z z rn))))) (rc z z (rc z rm (rc z (rtt (Tame.flat tmMachBank _)) (rc z z (rc z rm rn))))) z ⟨z, ⟨z, ⟨z, ⟨z, ⟨z, q⟩⟩⟩⟩⟩ (by decide) z z z (oc z (oc om (oc (ott (Tame.flat tmMachBank _)) (oc om (oc z on))))) (oc z (oc om (oc (ott (Tame.flat tmMachBank _)) (oc z (oc om on))))) z) z <| ?_
        refine wd_nil ?_ (by kernel_rfl)
        refine e_n <| wc_seq <| wc_draw [0, 0, 2, 0, 0, 30, 0, 0, 192, 454, 966, 1990, 4038, 8134, 16383] mixed z <| dm z z <| dm z z <| ?_
        obtain ⟨r170, e171, H⟩ := ob H
        refine dr (p_cw (ids := []) (api_givenWide_2_ok e171) ent_47 z z z rn rn rna q List.nodup_nil z z z on on z) z <| dr (p_ldB (ds := (encMachOperand r15).map .data) ty_107 z z z z) z <| dr (p_ldB (ds := (encMachOperand r23).map .data) ty_107 z z z z) z <| dr (p_bs (f := encMachOperand) [.tmp 330, .tmp 331, .tmp 332] [r170, r15, r23] Tryz.underlying58 ty_107.size zr_107 z z z z (el1 (.agg _) z (el1 (.agg _) z (el1 (.agg _) z el0))) z) z <| dr (p_ldB (ds := (encTermX r25).map .data) ty_114 z z z z) z <| dr (p_ldB (ds := (encTermX r31).map .data) ty_114 z z z z) z <| dr (p_bs (f := encTerm) [.tmp 334, .tmp 335] [r25, r31] Tryz.underlying112 ty_114.size zr_114 z z z z (el1X (encTerm_X _) (.agg _) z (el1X (encTerm_X _) (.agg _) z el0)) z) z <| ?_
        obtain ⟨r172, e173, H⟩ := ob H
        refine dr (p_c (api_givenOp_ok e173) ent_51 z z z) z <| dr (p_bs (f := encTerm) [.tmp 337] [r172] Tryz.underlying112 ty_114.size zr_114 z z z z (el1X (encTerm_X _) (.agg _) z el0) z) z <| ?_
        obtain ⟨r174, e175, H⟩ := ob H
        refine dr (p_c (api_givenOp_ok e175) ent_51 z z z) z <| ?_
        obtain ⟨r176, e177, H⟩ := ob H
        refine dr (p_c (api_givenSet_ok e177) ent_50 z z z) z <| dr (p_bs (f := encMachEffect) [.tmp 340] [r176] Tryz.underlying59 ty_118.size zr_118 z z z z (el1 (.agg _) z el0) z) z <| ?_
        obtain ⟨r178, e179, H⟩ := ob H
        refine drh (p_cw (ids := [1, 8, 2, 42, 43]) (api_givenWide_1_ok e179) ent_46 z z z (rc z z (rc z rm (rc z (rtt (Tame.flat tmMachBank _)) (rc z rm (rc z z rn))))) (rc z z (rc z rm (rc z (rtt (Tame.flat tmMachBank _)) (rc z z (rc z rm rn))))) z ⟨z, ⟨z, ⟨z, ⟨z, ⟨z, q⟩⟩⟩⟩⟩ (by decide) z z z (oc z (oc om (oc (ott (Tame.flat tmMachBank _)) (oc om (oc z on))))) (oc z (oc om (oc (ott (Tame.flat tmMachBank _)) (oc z (oc om on))))) z) z <| ?_
        refine wd_nil ?_ (by kernel_rfl)
        refine e_n <| wc_seq <| wc_draw [0, 0, 0, 0, 14, 0, 0, 96, 224, 480, 992, 2016, 4064, 8160, 16352, 32767] mixed z <| dm z z <| dr (p_ldB (ds := (encMachOperand r13).map .data) ty_107 z z z z) z <| dr (p_ldB (ds := (encMachOperand r15).map .data) ty_107 z z z z) z <| dr (p_ldB (ds := (encMachOperand r19).map .data) ty_107 z z z z) z <| dr (p_bs (f := encMachOperand) [.tmp 344, .tmp 345, .tmp 346] [r13, r15, r19] Tryz.underlying58 ty_107.size zr_107 z z z z (el1 (.agg _) z (el1 (.agg _) z (el1 (.agg _) z el0))) z) z <| dr (p_ldB (ds := (encTermX r25).map .data) ty_114 z z z z) z <| dr (p_ldB (ds := (encTermX r31).map .data) ty_114 z z z z) z <| dr (p_bs (f := encTerm) [.tmp 348, .tmp 349] [r25, r31] Tryz.underlying112 ty_114.size zr_114 z z z z (el1X (encTerm_X _) (.agg _) z (el1X (encTerm_X _) (.agg _) z el0)) z) z <| ?_
        obtain ⟨r180, e181, H⟩ := ob H
        refine dr (p_c (api_givenOp_ok e181) ent_51 z z z) z <| dr (p_bs (f := encTerm) [.tmp 351] [r180] Tryz.underlying112 ty_114.size zr_114 z z z z (el1X (encTerm_X _) (.agg _) z el0) z) z <| ?_
        obtain ⟨r182, e183, H⟩ := ob H
        refine dr (p_c (api_givenOp_ok e183) ent_51 z z z) z <| dr (p_bs (f := encTerm) [.tmp 353] [r182] Tryz.underlying112 ty_114.size zr_114 z z z z (el1X (encTerm_X _) (.agg _) z el0) z) z <| ?_
        obtain ⟨r184, e185, H⟩ := ob H
        refine dr (p_c (api_givenOp_ok e185) ent_51 z z z) z <| ?_
        obtain ⟨r186, e187, H⟩ := ob H
        refine dr (p_c (api_givenSet_ok e187) ent_50 z z z) z <| dr (p_bs (f := encMachEffect) [.tmp 356] [r186] Tryz.underlying59 ty_118.size zr_118 z z z z (el1 (.agg _) z el0) z) z <| ?_
        obtain ⟨r188, e189, H⟩ := ob H
        refine drh (p_cw (ids := [1, 8, 2, 43, 44]) (api_givenWide_1_ok e189) ent_46 z z z (rc z z (rc z rm (rc z (rtt (Tame.flat tmMachBank _)) (rc z rm (rc z z rn))))) (rc z z (rc z rm (rc z (rtt (Tame.flat tmMachBank _)) (rc z z (rc z rm rn))))) z ⟨z, ⟨z, ⟨z, ⟨z, ⟨z, q⟩⟩⟩⟩⟩ (by decide) z z z (oc z (oc om (oc (ott (Tame.flat tmMachBank _)) (oc om (oc z on))))) (oc z (oc om (oc (ott (Tame.flat tmMachBank _)) (oc z (oc om on))))) z) z <| ?_
        refine wd_nil ?_ (by kernel_rfl)
        refine e_n <| wc_seq <| wc_draw [0, 0, 0, 0, 14, 0, 0, 96, 224, 0, 992, 2016, 4095] mixed z <| dm z z <| dr (p_ldB (ds := (encMachOperand r13).map .data) ty_107 z z z z) z <| dr (p_ldB (ds := (encMachOperand r15).map .data) ty_107 z z z z) z <| dr (p_ldB (ds := (encMachOperand r21).map .data) ty_107 z z z z) z <| dr (p_bs (f := encMachOperand) [.tmp 360, .tmp 361, .tmp 362] [r13, r15, r21] Tryz.underlying58 ty_107.size zr_107 z z z z (el1 (.agg _) z (el1 (.agg _) z (el1 (.agg _) z el0))) z) z <| dr (p_ldB (ds := (encTermX r25).map .data) ty_114 z z z z) z <| dr (p_ldB (ds := (encTermX r31).map .data) ty_114 z z z z) z <| dr (p_bs (f := encTerm) [.tmp 364, .tmp 365] [r25, r31] Tryz.underlying112 ty_114.size zr_114 z z z z (el1X (encTerm_X _) (.agg _) z (el1X (encTerm_X _) (.agg _) z el0)) z) z <| ?_
        obtain ⟨r190, e191, H⟩ := ob H
        refine dr (p_c (api_givenOp_ok e191) ent_51 z z z) z <| dr (p_ldB (ds := (encTermX r29).map .data) ty_114 z z z z) z <| ?_
        obtain ⟨r192, e193, H⟩ := ob H
        refine dr (p_c (api_givenStore_ok e193) ent_53 z z z) z <| dr (p_bs (f := encMachEffect) [.tmp 369] [r192] Tryz.underlying59 ty_118.size zr_118 z z z z (el1 (.agg _) z el0) z) z <| ?_
        obtain ⟨r194, e195, H⟩ := ob H
        refine drh (p_cw (ids := [1, 8, 2, 44, 45]) (api_givenWide_1_ok e195) ent_46 z z z (rc z z (rc z rm (rc z (rtt (Tame.flat tmMachBank _)) (rc z rm (rc z z rn))))) (rc z z (rc z rm (rc z (rtt (Tame.flat tmMachBank _)) (rc z z (rc z rm rn))))) z ⟨z, ⟨z, ⟨z, ⟨z, ⟨z, q⟩⟩⟩⟩⟩ (by decide) z z z (oc z (oc om (oc (ott (Tame.flat tmMachBank _)) (oc om (oc z on))))) (oc z (oc om (oc (ott (Tame.flat tmMachBank _)) (oc z (oc om on))))) z) z <| ?_
        refine wd_nil ?_ (by kernel_rfl)
        refine e_n <| wc_seq <| wc_draw [0, 0, 2, 0, 0, 30, 0, 0, 192, 454, 966, 1990, 4038, 8191] mixed z <| dm z z <| dm z z <| ?_
        obtain ⟨r196, e197, H⟩ := ob H
        refine dr (p_cw (ids := []) (api_givenWide_2_ok e197) ent_47 z z z rn rn rna q List.nodup_nil z z z on on z) z <| dr (p_ldB (ds := (encMachOperand r15).map .data) ty_107 z z z z) z <| dr (p_ldB (ds := (encMachOperand r23).map .data) ty_107 z z z z) z <| dr (p_bs (f := encMachOperand) [.tmp 374, .tmp 375, .tmp 376] [r196, r15, r23] Tryz.underlying58 ty_107.size zr_107 z z z z (el1 (.agg _) z (el1 (.agg _) z (el1 (.agg _) z el0))) z) z <| dr (p_ldB (ds := (encTermX r25).map .data) ty_114 z z z z) z <| dr (p_ldB (ds := (encTermX r31).map .data) ty_114 z z z z) z <| dr (p_bs (f := encTerm) [.tmp 378, .tmp 379] [r25, r31] Tryz.underlying112 ty_114.size zr_114 z z z z (el1X (encTerm_X _) (.agg _) z (el1X (encTerm_X _) (.agg _) z el0)) z) z <| ?_
        obtain ⟨r198, e199, H⟩ := ob H
        refine dr (p_c (api_givenOp_ok e199) ent_51 z z z) z <| ?_
        obtain ⟨r200, e201, H⟩ := ob H
        refine dr (p_c (api_givenVar_ok e201) ent_49 z z z) z <| ?_
        obtain ⟨r202, e203, H⟩ := ob H
        refine dr (p_c (api_givenStore_ok e203) ent_53 z z z) z <| dr (p_bs (f := encMachEffect) [.tmp 383] [r202] Tryz.underlying59 ty_118.size zr_118 z z z z (el1 (.agg _) z el0) z) z <| ?_
        obtain ⟨r204, e205, H⟩ := ob H
        refine drh (p_cw (ids := [1, 8, 2, 45, 46]) (api_givenWide_1_ok e205) ent_46 z z z (rc z z (rc z rm (rc z (rtt (Tame.flat tmMachBank _)) (rc z rm (rc z z rn))))) (rc z z (rc z rm (rc z (rtt (Tame.flat tmMachBank _)) (rc z z (rc z rm rn))))) z ⟨z, ⟨z, ⟨z, ⟨z, ⟨z, q⟩⟩⟩⟩⟩ (by decide) z z z (oc z (oc om (oc (ott (Tame.flat tmMachBank _)) (oc om (oc z on))))) (oc z (oc om (oc (ott (Tame.flat tmMachBank _)) (oc z (oc om on))))) z) z <| ?_
        refine wd_nil ?_ (by kernel_rfl)
        refine e_n <| wc_seq <| wc_draw [0, 0, 0, 0, 14, 0, 0, 96, 224, 0, 512, 2016, 4064, 8160, 16383] mixed z <| dm z z <| dr (p_ldB (ds := (encMachOperand r13).map .data) ty_107 z z z z) z <| dr (p_ldB (ds := (encMachOperand r15).map .data) ty_107 z z z z) z <| dr (p_ldB (ds := (encMachOperand r19).map .data) ty_107 z z z z) z <| dr (p_bs (f := encMachOperand) [.tmp 387, .tmp 388, .tmp 389] [r13, r15, r19] Tryz.underlying58 ty_107.size zr_107 z z z z (el1 (.agg _) z (el1 (.agg _) z (el1 (.agg _) z el0))) z) z <| dr (p_ldB (ds := (encTermX r25).map .data) ty_114 z z z z) z <| dr (p_ldB (ds := (encTermX r31).map .data) ty_114 z z z z) z <| dr (p_bs (f := encTerm) [.tmp 391, .tmp 392] [r25, r31] Tryz.underlying112 ty_114.size zr_114 z z z z (el1X (encTerm_X _) (.agg _) z (el1X (encTerm_X _) (.agg _) z el0)) z) z <| ?_
        obtain ⟨r206, e207, H⟩ := ob H
        refine dr (p_c (api_givenOp_ok e207) ent_51 z z z) z <| dr (p_ldB (ds := (encTermX r29).map .data) ty_114 z z z z) z <| dr (p_bs (f := encTerm) [.tmp 395] [r29] Tryz.underlying112 ty_114.size zr_114 z z z z (el1X (encTerm_X _) (.agg _) z el0) z) z <| ?_
        obtain ⟨r208, e209, H⟩ := ob H
        refine dr (p_c (api_givenOp_ok e209) ent_51 z z z) z <| ?_
        obtain ⟨r210, e211, H⟩ := ob H
        refine dr (p_c (api_givenStore_ok e211) ent_53 z z z) z <| dr (p_bs (f := encMachEffect) [.tmp 398] [r210] Tryz.underlying59 ty_118.size zr_118 z z z z (el1 (.agg _) z el0) z) z <| ?_
        obtain ⟨r212, e213, H⟩ := ob H
        refine drh (p_cw (ids := [1, 8, 2, 46, 47]) (api_givenWide_1_ok e213) ent_46 z z z (rc z z (rc z rm (rc z (rtt (Tame.flat tmMachBank _)) (rc z rm (rc z z rn))))) (rc z z (rc z rm (rc z (rtt (Tame.flat tmMachBank _)) (rc z z (rc z rm rn))))) z ⟨z, ⟨z, ⟨z, ⟨z, ⟨z, q⟩⟩⟩⟩⟩ (by decide) z z z (oc z (oc om (oc (ott (Tame.flat tmMachBank _)) (oc om (oc z on))))) (oc z (oc om (oc (ott (Tame.flat tmMachBank _)) (oc z (oc om on))))) z) z <| ?_
        refine wd_nil ?_ (by kernel_rfl)
        refine e_n <| sgr z <| l (p_bs (f := eS) [.const (Value.string {data := #[101, 113]}), .const (Value.string {data := #[117, 108, 116]}), .const (Value.string {data := #[115, 108, 116]})] [(⟨#[101, 113]⟩ : ByteArray), (⟨#[117, 108, 116]⟩ : ByteArray), (⟨#[115, 108, 116]⟩ : ByteArray)] Tryz.underlying98 ty_9.size zr_9 z z z z (el1 (.one _) z (el1 (.one _) z (el1 (.one _) z el0))) z) z <| la z z <| ne <| ?_
        refine w_jn5 H (fun v214 v215 v216 v217 v218 => ⟨[(0, (.ptr 0 0)), (1, (.ptr 1 0)), (7, (.fn (.func 46) [] [(.ptr 1 0)])), (8, (.fn (.func 47) [] [])), (9, (.ptr 16 0)), (10, (.ptr 17 0)), (11, (.ptr 18 0)), (12, (.ptr 19 0)), (14, (.ptr 21 0)), (15, (.ptr 22 0)), (16, (.ptr 23 0)), (17, (.ptr 24 0)), (18, (.ptr 25 0)), (19, (.ptr 26 0)), (20, (.ptr 27 0))], [(0, (oC 27 [(aS ⟨#[]⟩), (aN .i64 0), (aN .i64 0), aNil, aNil, aNil, aNil])), (1, (oC 27 [(aS v214), (aN .i64 v215), (aN .i64 v216), (.row 8), (.row 2), (aL 2 encMachUnit v217), (.row 47)])), (2, (oT 97 2 tencMachBank v11)), (8, (oR 100 4 encMachReg v12)), (16, (oD 107 (encMachOperand r13))), (17, (oD 107 (encMachOperand r15))), (18, (oD 107 (encMachOperand r17))), (19, (oD 107 (encMachOperand r19))), (21, (oD 107 (encMachOperand r23))), (22, (oD 114 (encTermX r25))), (23, (oD 114 (encTermX r27))), (24, (oD 114 (encTermX r29))), (25, (oD 114 (encTermX r31))), (26, (oD 114 (encTermX r33))), (27, (oD 114 (encTermX r35))), (47, (oR 61 9 encMachInstr v218))]⟩) ?_ ?_
        · intro v214 v215 v216 v217 v218 H
          rw [api_givenWide_k4] at H
          refine wc_seq <| wc_draw [0, 0, 0, 4, 0, 0, 62, 0, 12, 396, 908, 0, 0, 8076, 16268, 32652, 65420, 131071] mixed z <| dm z z <| dr (p_ldB (ds := (encMachOperand r13).map .data) ty_107 z z z z) z <| dm z z <| ?_
          obtain ⟨r219, e220, H⟩ := ob H
          refine dr (p_cw (ids := []) (api_givenWide_2_ok e220) ent_47 z z z rn rn rna q List.nodup_nil z z z on on z) z <| dr (p_ldB (ds := (encMachOperand r15).map .data) ty_107 z z z z) z <| dr (p_ldB (ds := (encMachOperand r17).map .data) ty_107 z z z z) z <| dr (p_bs (f := encMachOperand) [.tmp 430, .tmp 432, .tmp 433, .tmp 434] [r13, r219, r15, r17] Tryz.underlying58 ty_107.size zr_107 z z z z (el1 (.agg _) z (el1 (.agg _) z (el1 (.agg _) z (el1 (.agg _) z el0)))) z) z <| dr (p_ldB (ds := (encTermX r33).map .data) ty_114 z z z z) z <| ?_
          obtain ⟨r221, e222, H⟩ := ob H
          refine dr (p_c (api_givenNum_ok e222) ent_54 z z z) z <| dr (p_bs (f := encTerm) [.tmp 436, .tmp 437] [r33, r221] Tryz.underlying112 ty_114.size zr_114 z z z z (el1X (encTerm_X _) (.agg _) z (el1X (encTerm_X _) (.agg _) z el0)) z) z <| ?_
          obtain ⟨r223, e224, H⟩ := ob H
          refine dr (p_c (api_givenOp_ok e224) ent_51 z z z) z <| dr (p_ldB (ds := (encTermX r27).map .data) ty_114 z z z z) z <| dr (p_ldB (ds := (encTermX r25).map .data) ty_114 z z z z) z <| dr (p_bs (f := encTerm) [.tmp 439, .tmp 440, .tmp 441] [r223, r27, r25] Tryz.underlying112 ty_114.size zr_114 z z z z (el1X (encTerm_X _) (.agg _) z (el1X (encTerm_X _) (.agg _) z (el1X (encTerm_X _) (.agg _) z el0))) z) z <| ?_
          obtain ⟨r225, e226, H⟩ := ob H
          refine dr (p_c (api_givenOp_ok e226) ent_51 z z z) z <| ?_
          obtain ⟨r227, e228, H⟩ := ob H
          refine dr (p_c (api_givenSet_ok e228) ent_50 z z z) z <| dr (p_bs (f := encMachEffect) [.tmp 444] [r227] Tryz.underlying59 ty_118.size zr_118 z z z z (el1 (.agg _) z el0) z) z <| ?_
          obtain ⟨r229, e230, H⟩ := ob H
          refine drh (p_cw (ids := [1, 8, 2, 47, 49]) (api_givenWide_1_ok e230) ent_46 z z z (rc z z (rc z rm (rc z (rtt (Tame.flat tmMachBank _)) (rc z rm (rc z z rn))))) (rc z z (rc z rm (rc z (rtt (Tame.flat tmMachBank _)) (rc z z (rc z rm rn))))) z ⟨z, ⟨z, ⟨z, ⟨z, ⟨z, q⟩⟩⟩⟩⟩ (by decide) z z z (oc z (oc om (oc (ott (Tame.flat tmMachBank _)) (oc om (oc z on))))) (oc z (oc om (oc (ott (Tame.flat tmMachBank _)) (oc z (oc om on))))) z) z <| ?_
          refine wd_nil ?_ (by kernel_rfl)
          refine e_n <| sgr z <| l (p_bd (cs := (encMachPiece (MachPiece.mk 8 7)).map .data) pl_110 zr_110 z ⟨q, ⟨q, q⟩⟩ z) z <| l (p_bd (cs := (encMachPiece (MachPiece.mk 0 8)).map .data) pl_110 zr_110 z ⟨q, ⟨q, q⟩⟩ z) z <| l (p_bs (f := encMachPiece) [.tmp 447, .tmp 448] [(MachPiece.mk 8 7), (MachPiece.mk 0 8)] Tryz.underlying105 ty_110.size zr_110 z z z z (el1 (.agg _) z (el1 (.agg _) z el0)) z) z <| ?_
          obtain ⟨r231, e232, H⟩ := ob H
          refine l (p_c (api_givenField_ok e232) ent_48 z z z) z <| lh (p_al 50 zr_107 z) z <| l0h (p_stA (ds := (encMachOperand r231).map .data) ty_107 z z z z z z) <| ne <| sgr z <| l (p_bd (cs := (encMachPiece (MachPiece.mk 0 24)).map .data) pl_110 zr_110 z ⟨q, ⟨q, q⟩⟩ z) z <| l (p_bs (f := encMachPiece) [.tmp 451] [(MachPiece.mk 0 24)] Tryz.underlying105 ty_110.size zr_110 z z z z (el1 (.agg _) z el0) z) z <| ?_
          obtain ⟨r233, e234, H⟩ := ob H
          refine l (p_c (api_givenField_ok e234) ent_48 z z z) z <| lh (p_al 51 zr_107 z) z <| l0h (p_stA (ds := (encMachOperand r233).map .data) ty_107 z z z z z z) <| ne <| sgr z <| ?_
          obtain ⟨r235, e236, H⟩ := ob H
          refine l (p_c (api_givenVar_ok e236) ent_49 z z z) z <| lh (p_al 52 zr_114 z) z <| l0h (p_stA (ds := (encTermX r235).map .data) ty_114 z z z z z z) <| ne <| wc_seq <| wc_draw [0, 0, 3, 7, 0, 31] mixed z <| dr (p_ldB (ds := (encTermX r25).map .data) ty_114 z z z z) z <| ?_
          obtain ⟨r237, e238, H⟩ := ob H
          refine dr (p_c (api_givenNum_ok e238) ent_54 z z z) z <| dr (p_bs (f := encTerm) [.tmp 455, .tmp 456] [r25, r237] Tryz.underlying112 ty_114.size zr_114 z z z z (el1X (encTerm_X _) (.agg _) z (el1X (encTerm_X _) (.agg _) z el0)) z) z <| ?_
          obtain ⟨r239, e240, H⟩ := ob H
          refine dr (p_c (api_givenOp_ok e240) ent_51 z z z) z <| drh (p_al 53 zr_114 z) z <| dr0h (p_stA (ds := (encTermX r239).map .data) ty_114 z z z z z z) <| ?_
          refine wd_nil ?_ (by kernel_rfl)
          refine e_n <| wc_seq <| wc_draw [0, 0, 0, 6, 0, 0, 48, 112, 255] mixed z <| dm z z <| dr (p_ldB (ds := (encMachOperand r15).map .data) ty_107 z z z z) z <| dr (p_ldB (ds := (encMachOperand r231).map .data) ty_107 z z z z) z <| dr (p_bs (f := encMachOperand) [.tmp 460, .tmp 461] [r15, r231] Tryz.underlying58 ty_107.size zr_107 z z z z (el1 (.agg _) z (el1 (.agg _) z el0)) z) z <| dr (p_ldB (ds := (encTermX r235).map .data) ty_114 z z z z) z <| dr (p_ldB (ds := (encTermX r239).map .data) ty_114 z z z z) z <| ?_
          obtain ⟨r241, e242, H⟩ := ob H
          refine dr (p_c (api_givenJump_ok e242) ent_55 z z z) z <| dr (p_bs (f := encMachEffect) [.tmp 465] [r241] Tryz.underlying59 ty_118.size zr_118 z z z z (el1 (.agg _) z el0) z) z <| ?_
          obtain ⟨r243, e244, H⟩ := ob H
          refine drh (p_cw (ids := [1, 8, 2, 49, 54]) (api_givenWide_1_ok e244) ent_46 z z z (rc z z (rc z rm (rc z (rtt (Tame.flat tmMachBank _)) (rc z rm (rc z z rn))))) (rc z z (rc z rm (rc z (rtt (Tame.flat tmMachBank _)) (rc z z (rc z rm rn))))) z ⟨z, ⟨z, ⟨z, ⟨z, ⟨z, q⟩⟩⟩⟩⟩ (by decide) z z z (oc z (oc om (oc (ott (Tame.flat tmMachBank _)) (oc om (oc z on))))) (oc z (oc om (oc (ott (Tame.flat tmMachBank _)) (oc z (oc om on))))) z) z <| ?_
          refine wd_nil ?_ (by kernel_rfl)
          refine e_n <| wc_seq <| wc_draw [0, 0, 0, 6, 0, 0, 32, 96, 240, 496, 1023] mixed z <| dm z z <| dr (p_ldB (ds := (encMachOperand r15).map .data) ty_107 z z z z) z <| dr (p_ldB (ds := (encMachOperand r231).map .data) ty_107 z z z z) z <| dr (p_bs (f := encMachOperand) [.tmp 469, .tmp 470] [r15, r231] Tryz.underlying58 ty_107.size zr_107 z z z z (el1 (.agg _) z (el1 (.agg _) z el0)) z) z <| dr (p_ldB (ds := (encTermX r235).map .data) ty_114 z z z z) z <| dr (p_ldB (ds := (encTermX r239).map .data) ty_114 z z z z) z <| dr (p_bs (f := encTerm) [.tmp 473] [r239] Tryz.underlying112 ty_114.size zr_114 z z z z (el1X (encTerm_X _) (.agg _) z el0) z) z <| ?_
          obtain ⟨r245, e246, H⟩ := ob H
          refine dr (p_c (api_givenOp_ok e246) ent_51 z z z) z <| ?_
          obtain ⟨r247, e248, H⟩ := ob H
          refine dr (p_c (api_givenJump_ok e248) ent_55 z z z) z <| dr (p_bs (f := encMachEffect) [.tmp 476] [r247] Tryz.underlying59 ty_118.size zr_118 z z z z (el1 (.agg _) z el0) z) z <| ?_
          obtain ⟨r249, e250, H⟩ := ob H
          refine drh (p_cw (ids := [1, 8, 2, 54, 55]) (api_givenWide_1_ok e250) ent_46 z z z (rc z z (rc z rm (rc z (rtt (Tame.flat tmMachBank _)) (rc z rm (rc z z rn))))) (rc z z (rc z rm (rc z (rtt (Tame.flat tmMachBank _)) (rc z z (rc z rm rn))))) z ⟨z, ⟨z, ⟨z, ⟨z, ⟨z, q⟩⟩⟩⟩⟩ (by decide) z z z (oc z (oc om (oc (ott (Tame.flat tmMachBank _)) (oc om (oc z on))))) (oc z (oc om (oc (ott (Tame.flat tmMachBank _)) (oc z (oc om on))))) z) z <| ?_
          refine wd_nil ?_ (by kernel_rfl)
          refine e_n <| wc_seq <| wc_draw [0, 0, 2, 0, 0, 24, 56, 127] mixed z <| dm z z <| dr (p_ldB (ds := (encMachOperand r233).map .data) ty_107 z z z z) z <| dr (p_bs (f := encMachOperand) [.tmp 480] [r233] Tryz.underlying58 ty_107.size zr_107 z z z z (el1 (.agg _) z el0) z) z <| dr (p_ldB (ds := (encTermX r235).map .data) ty_114 z z z z) z <| dr (p_bd (cs := [(aN .u8 0), (aN .i64 0), (aN .u64 0), (aS ⟨#[]⟩), (aN .i64 0), aNil]) pl_114 zr_114 z q z) z <| ?_
          obtain ⟨r251, e252, H⟩ := ob H
          refine dr (p_cs (api_givenJump_ok e252) ent_55 z ⟨sr, ⟨sg ⟨sr, ⟨sr, ⟨sr, ⟨sr, ⟨sr, ⟨sn, q⟩⟩⟩⟩⟩⟩, q⟩⟩ z z) z <| dr (p_bs (f := encMachEffect) [.tmp 484] [r251] Tryz.underlying59 ty_118.size zr_118 z z z z (el1 (.agg _) z el0) z) z <| ?_
          obtain ⟨r253, e254, H⟩ := ob H
          refine drh (p_cw (ids := [1, 8, 2, 55, 56]) (api_givenWide_1_ok e254) ent_46 z z z (rc z z (rc z rm (rc z (rtt (Tame.flat tmMachBank _)) (rc z rm (rc z z rn))))) (rc z z (rc z rm (rc z (rtt (Tame.flat tmMachBank _)) (rc z z (rc z rm rn))))) z ⟨z, ⟨z, ⟨z, ⟨z, ⟨z, q⟩⟩⟩⟩⟩ (by decide) z z z (oc z (oc om (oc (ott (Tame.flat tmMachBank _)) (oc om (oc z on))))) (oc z (oc om (oc (ott (Tame.flat tmMachBank _)) (oc z (oc om on))))) z) z <| ?_
          refine wd_nil ?_ (by kernel_rfl)
          refine e_n <| wc_seq <| wc_draw [0, 0, 2, 0, 0, 24, 56, 120, 0, 0, 1016, 2040, 4095] mixed z <| dm z z <| dr (p_ldB (ds := (encMachOperand r233).map .data) ty_107 z z z z) z <| dr (p_bs (f := encMachOperand) [.tmp 488] [r233] Tryz.underlying58 ty_107.size zr_107 z z z z (el1 (.agg _) z el0) z) z <| dr (p_ldB (ds := (encTermX r35).map .data) ty_114 z z z z) z <| ?_
          obtain ⟨r255, e256, H⟩ := ob H
          refine dr (p_c (api_givenNum_ok e256) ent_54 z z z) z <| dr (p_bs (f := encTerm) [.tmp 490, .tmp 491] [r35, r255] Tryz.underlying112 ty_114.size zr_114 z z z z (el1X (encTerm_X _) (.agg _) z (el1X (encTerm_X _) (.agg _) z el0)) z) z <| ?_
          obtain ⟨r257, e258, H⟩ := ob H
          refine dr (p_c (api_givenOp_ok e258) ent_51 z z z) z <| ?_
          obtain ⟨r259, e260, H⟩ := ob H
          refine dr (p_c (api_givenFixed_ok e260) ent_56 z z z) z <| dr (p_ldB (ds := (encTermX r235).map .data) ty_114 z z z z) z <| dr (p_bd (cs := [(aN .u8 0), (aN .i64 0), (aN .u64 0), (aS ⟨#[]⟩), (aN .i64 0), aNil]) pl_114 zr_114 z q z) z <| ?_
          obtain ⟨r261, e262, H⟩ := ob H
          refine dr (p_cs (api_givenJump_ok e262) ent_55 z ⟨sr, ⟨sg ⟨sr, ⟨sr, ⟨sr, ⟨sr, ⟨sr, ⟨sn, q⟩⟩⟩⟩⟩⟩, q⟩⟩ z z) z <| dr (p_bs (f := encMachEffect) [.tmp 494, .tmp 497] [r259, r261] Tryz.underlying59 ty_118.size zr_118 z z z z (el1 (.agg _) z (el1 (.agg _) z el0)) z) z <| ?_
          obtain ⟨r263, e264, H⟩ := ob H
          refine drh (p_cw (ids := [1, 8, 2, 56, 57]) (api_givenWide_1_ok e264) ent_46 z z z (rc z z (rc z rm (rc z (rtt (Tame.flat tmMachBank _)) (rc z rm (rc z z rn))))) (rc z z (rc z rm (rc z (rtt (Tame.flat tmMachBank _)) (rc z z (rc z rm rn))))) z ⟨z, ⟨z, ⟨z, ⟨z, ⟨z, q⟩⟩⟩⟩⟩ (by decide) z z z (oc z (oc om (oc (ott (Tame.flat tmMachBank _)) (oc om (oc z on))))) (oc z (oc om (oc (ott (Tame.flat tmMachBank _)) (oc z (oc om on))))) z) z <| ?_
          refine wd_nil ?_ (by kernel_rfl)
          refine e_n <| wc_seq <| wc_draw [0, 0, 2, 0, 0, 24, 56, 127] mixed z <| dm z z <| dr (p_ldB (ds := (encMachOperand r15).map .data) ty_107 z z z z) z <| dr (p_bs (f := encMachOperand) [.tmp 501] [r15] Tryz.underlying58 ty_107.size zr_107 z z z z (el1 (.agg _) z el0) z) z <| dr (p_ldB (ds := (encTermX r25).map .data) ty_114 z z z z) z <| dr (p_bd (cs := [(aN .u8 0), (aN .i64 0), (aN .u64 0), (aS ⟨#[]⟩), (aN .i64 0), aNil]) pl_114 zr_114 z q z) z <| ?_
          obtain ⟨r265, e266, H⟩ := ob H
          refine dr (p_cs (api_givenJump_ok e266) ent_55 z ⟨sr, ⟨sg ⟨sr, ⟨sr, ⟨sr, ⟨sr, ⟨sr, ⟨sn, q⟩⟩⟩⟩⟩⟩, q⟩⟩ z z) z <| dr (p_bs (f := encMachEffect) [.tmp 505] [r265] Tryz.underlying59 ty_118.size zr_118 z z z z (el1 (.agg _) z el0) z) z <| ?_
          obtain ⟨r267, e268, H⟩ := ob H
          refine drh (p_cw (ids := [1, 8, 2, 57, 58]) (api_givenWide_1_ok e268) ent_46 z z z (rc z z (rc z rm (rc z (rtt (Tame.flat tmMachBank _)) (rc z rm (rc z z rn))))) (rc z z (rc z rm (rc z (rtt (Tame.flat tmMachBank _)) (rc z z (rc z rm rn))))) z ⟨z, ⟨z, ⟨z, ⟨z, ⟨z, q⟩⟩⟩⟩⟩ (by decide) z z z (oc z (oc om (oc (ott (Tame.flat tmMachBank _)) (oc om (oc z on))))) (oc z (oc om (oc (ott (Tame.flat tmMachBank _)) (oc z (oc om on))))) z) z <| ?_
          refine wd_nil ?_ (by kernel_rfl)
          refine e_n <| wc_seq <| wc_draw [0, 0, 2, 0, 8, 24, 63] mixed z <| dm z z <| dr (p_ldB (ds := (encMachOperand r19).map .data) ty_107 z z z z) z <| dr (p_bs (f := encMachOperand) [.tmp 509] [r19] Tryz.underlying58 ty_107.size zr_107 z z z z (el1 (.agg _) z el0) z) z <| dr (p_ldB (ds := (encTermX r31).map .data) ty_114 z z z z) z <| ?_
          obtain ⟨r269, e270, H⟩ := ob H
          refine dr (p_c (api_givenTrap_ok e270) ent_57 z z z) z <| dr (p_bs (f := encMachEffect) [.tmp 512] [r269] Tryz.underlying59 ty_118.size zr_118 z z z z (el1 (.agg _) z el0) z) z <| ?_
          obtain ⟨r271, e272, H⟩ := ob H
          refine drh (p_cw (ids := [1, 8, 2, 58, 59]) (api_givenWide_1_ok e272) ent_46 z z z (rc z z (rc z rm (rc z (rtt (Tame.flat tmMachBank _)) (rc z rm (rc z z rn))))) (rc z z (rc z rm (rc z (rtt (Tame.flat tmMachBank _)) (rc z z (rc z rm rn))))) z ⟨z, ⟨z, ⟨z, ⟨z, ⟨z, q⟩⟩⟩⟩⟩ (by decide) z z z (oc z (oc om (oc (ott (Tame.flat tmMachBank _)) (oc om (oc z on))))) (oc z (oc om (oc (ott (Tame.flat tmMachBank _)) (oc z (oc om on))))) z) z <| ?_
          refine wd_nil ?_ (by kernel_rfl)
          refine e_n <| wc_seq <| wc_draw [0, 0, 2, 0, 0, 24, 56, 120, 248, 511] mixed z <| dm z z <| dr (p_ldB (ds := (encMachOperand r15).map .data) ty_107 z z z z) z <| dr (p_bs (f := encMachOperand) [.tmp 516] [r15] Tryz.underlying58 ty_107.size zr_107 z z z z (el1 (.agg _) z el0) z) z <| ?_
          obtain ⟨r273, e274, H⟩ := ob H
          refine dr (p_c (api_givenNum_ok e274) ent_54 z z z) z <| dr (p_ldB (ds := (encTermX r25).map .data) ty_114 z z z z) z <| dr (p_bs (f := encTerm) [.tmp 518, .tmp 519] [r273, r25] Tryz.underlying112 ty_114.size zr_114 z z z z (el1X (encTerm_X _) (.agg _) z (el1X (encTerm_X _) (.agg _) z el0)) z) z <| ?_
          obtain ⟨r275, e276, H⟩ := ob H
          refine dr (p_c (api_givenOp_ok e276) ent_51 z z z) z <| ?_
          obtain ⟨r277, e278, H⟩ := ob H
          refine dr (p_c (api_givenTrap_ok e278) ent_57 z z z) z <| dr (p_bs (f := encMachEffect) [.tmp 522] [r277] Tryz.underlying59 ty_118.size zr_118 z z z z (el1 (.agg _) z el0) z) z <| ?_
          obtain ⟨r279, e280, H⟩ := ob H
          refine drh (p_cw (ids := [1, 8, 2, 59, 60]) (api_givenWide_1_ok e280) ent_46 z z z (rc z z (rc z rm (rc z (rtt (Tame.flat tmMachBank _)) (rc z rm (rc z z rn))))) (rc z z (rc z rm (rc z (rtt (Tame.flat tmMachBank _)) (rc z z (rc z rm rn))))) z ⟨z, ⟨z, ⟨z, ⟨z, ⟨z, q⟩⟩⟩⟩⟩ (by decide) z z z (oc z (oc om (oc (ott (Tame.flat tmMachBank _)) (oc om (oc z on))))) (oc z (oc om (oc (ott (Tame.flat tmMachBank _)) (oc z (oc om on))))) z) z <| ?_
          refine wd_nil ?_ (by kernel_rfl)
          refine e_n <| wc_seq <| wc_draw [0, 0, 2, 0, 8, 24, 63] mixed z <| dm z z <| dr (p_ldB (ds := (encMachOperand r15).map .data) ty_107 z z z z) z <| dr (p_bs (f := encMachOperand) [.tmp 526] [r15] Tryz.underlying58 ty_107.size zr_107 z z z z (el1 (.agg _) z el0) z) z <| dr (p_ldB (ds := (encTermX r25).map .data) ty_114 z z z z) z <| ?_
          obtain ⟨r281, e282, H⟩ := ob H
          refine dr (p_c (api_givenTrap_ok e282) ent_57 z z z) z <| dr (p_bs (f := encMachEffect) [.tmp 529] [r281] Tryz.underlying59 ty_118.size zr_118 z z z z (el1 (.agg _) z el0) z) z <| ?_
          obtain ⟨r283, e284, H⟩ := ob H
          refine drh (p_cw (ids := [1, 8, 2, 60, 61]) (api_givenWide_1_ok e284) ent_46 z z z (rc z z (rc z rm (rc z (rtt (Tame.flat tmMachBank _)) (rc z rm (rc z z rn))))) (rc z z (rc z rm (rc z (rtt (Tame.flat tmMachBank _)) (rc z z (rc z rm rn))))) z ⟨z, ⟨z, ⟨z, ⟨z, ⟨z, q⟩⟩⟩⟩⟩ (by decide) z z z (oc z (oc om (oc (ott (Tame.flat tmMachBank _)) (oc om (oc z on))))) (oc z (oc om (oc (ott (Tame.flat tmMachBank _)) (oc z (oc om on))))) z) z <| ?_
          refine wd_nil ?_ (by kernel_rfl)
          refine e_n <| sgr z <| lm z z <| ?_
          obtain ⟨r285, e286, H⟩ := ob H
          refine lh (p_cw (ids := [1, 8, 2, 61, 62]) (FnOk.sub (us := [(aS (⟨#[110, 111, 112]⟩ : ByteArray)), (aN .i64 0), (aN .i64 1), (aN .i64 1), (aN .i64 0), aNil, aNil, (.ptr 0 0)]) (api_givenWide_1_ok e286) ⟨sr, ⟨sr, ⟨sr, ⟨sr, ⟨sr, ⟨sn, ⟨sn, ⟨sr, q⟩⟩⟩⟩⟩⟩⟩⟩) ent_46 z z z (rc z z (rc z rm (rc z (rtt (Tame.flat tmMachBank _)) (rc z rm (rc z z rn))))) (rc z z (rc z rm (rc z (rtt (Tame.flat tmMachBank _)) (rc z z (rc z rm rn))))) z ⟨z, ⟨z, ⟨z, ⟨z, ⟨z, q⟩⟩⟩⟩⟩ (by decide) z z z (oc z (oc om (oc (ott (Tame.flat tmMachBank _)) (oc om (oc z on))))) (oc z (oc om (oc (ott (Tame.flat tmMachBank _)) (oc z (oc om on))))) z) z <| ne <| wc_seq <| wc_draw [0, 0, 2, 0, 14, 0, 32, 102, 230, 486, 1023] mixed z <| dm z z <| dm z z <| ?_
          obtain ⟨r287, e288, H⟩ := ob H
          refine dr (p_cw (ids := []) (api_givenWide_2_ok e288) ent_47 z z z rn rn rna q List.nodup_nil z z z on on z) z <| dr (p_ldB (ds := (encMachOperand r15).map .data) ty_107 z z z z) z <| dr (p_bs (f := encMachOperand) [.tmp 536, .tmp 537] [r287, r15] Tryz.underlying58 ty_107.size zr_107 z z z z (el1 (.agg _) z (el1 (.agg _) z el0)) z) z <| dr (p_ldB (ds := (encTermX r25).map .data) ty_114 z z z z) z <| dr (p_bs (f := encTerm) [.tmp 539] [r25] Tryz.underlying112 ty_114.size zr_114 z z z z (el1X (encTerm_X _) (.agg _) z el0) z) z <| ?_
          obtain ⟨r289, e290, H⟩ := ob H
          refine dr (p_c (api_givenOp_ok e290) ent_51 z z z) z <| ?_
          obtain ⟨r291, e292, H⟩ := ob H
          refine dr (p_c (api_givenSet_ok e292) ent_50 z z z) z <| dr (p_bs (f := encMachEffect) [.tmp 542] [r291] Tryz.underlying59 ty_118.size zr_118 z z z z (el1 (.agg _) z el0) z) z <| ?_
          obtain ⟨r293, e294, H⟩ := ob H
          refine drh (p_cw (ids := [1, 8, 2, 62, 63]) (api_givenWide_1_ok e294) ent_46 z z z (rc z z (rc z rm (rc z (rtt (Tame.flat tmMachBank _)) (rc z rm (rc z z rn))))) (rc z z (rc z rm (rc z (rtt (Tame.flat tmMachBank _)) (rc z z (rc z rm rn))))) z ⟨z, ⟨z, ⟨z, ⟨z, ⟨z, q⟩⟩⟩⟩⟩ (by decide) z z z (oc z (oc om (oc (ott (Tame.flat tmMachBank _)) (oc om (oc z on))))) (oc z (oc om (oc (ott (Tame.flat tmMachBank _)) (oc z (oc om on))))) z) z <| ?_
          refine wd_nil ?_ (by kernel_rfl)
          refine e_n <| wc_seq <| wc_draw [0, 0, 0, 0, 14, 0, 0, 96, 224, 0, 512, 2016, 4064, 8160, 16383] mixed z <| dm z z <| dr (p_ldB (ds := (encMachOperand r13).map .data) ty_107 z z z z) z <| dr (p_ldB (ds := (encMachOperand r15).map .data) ty_107 z z z z) z <| dr (p_ldB (ds := (encMachOperand r23).map .data) ty_107 z z z z) z <| dr (p_bs (f := encMachOperand) [.tmp 546, .tmp 547, .tmp 548] [r13, r15, r23] Tryz.underlying58 ty_107.size zr_107 z z z z (el1 (.agg _) z (el1 (.agg _) z (el1 (.agg _) z el0))) z) z <| dr (p_ldB (ds := (encTermX r25).map .data) ty_114 z z z z) z <| dr (p_ldB (ds := (encTermX r31).map .data) ty_114 z z z z) z <| dr (p_bs (f := encTerm) [.tmp 550, .tmp 551] [r25, r31] Tryz.underlying112 ty_114.size zr_114 z z z z (el1X (encTerm_X _) (.agg _) z (el1X (encTerm_X _) (.agg _) z el0)) z) z <| ?_
          obtain ⟨r295, e296, H⟩ := ob H
          refine dr (p_c (api_givenOp_ok e296) ent_51 z z z) z <| dr (p_ldB (ds := (encTermX r29).map .data) ty_114 z z z z) z <| dr (p_bs (f := encTerm) [.tmp 554] [r29] Tryz.underlying112 ty_114.size zr_114 z z z z (el1X (encTerm_X _) (.agg _) z el0) z) z <| ?_
          obtain ⟨r297, e298, H⟩ := ob H
          refine dr (p_c (api_givenOp_ok e298) ent_51 z z z) z <| ?_
          obtain ⟨r299, e300, H⟩ := ob H
          refine dr (p_c (api_givenStore_ok e300) ent_53 z z z) z <| dr (p_bs (f := encMachEffect) [.tmp 557] [r299] Tryz.underlying59 ty_118.size zr_118 z z z z (el1 (.agg _) z el0) z) z <| ?_
          obtain ⟨r301, e302, H⟩ := ob H
          refine drh (p_cw (ids := [1, 8, 2, 63, 64]) (api_givenWide_1_ok e302) ent_46 z z z (rc z z (rc z rm (rc z (rtt (Tame.flat tmMachBank _)) (rc z rm (rc z z rn))))) (rc z z (rc z rm (rc z (rtt (Tame.flat tmMachBank _)) (rc z z (rc z rm rn))))) z ⟨z, ⟨z, ⟨z, ⟨z, ⟨z, q⟩⟩⟩⟩⟩ (by decide) z z z (oc z (oc om (oc (ott (Tame.flat tmMachBank _)) (oc om (oc z on))))) (oc z (oc om (oc (ott (Tame.flat tmMachBank _)) (oc z (oc om on))))) z) z <| ?_
          refine wd_nil ?_ (by kernel_rfl)
          refine e_n <| sgr z <| l (p_ldB (ds := [(aS r301.2.1), (aN .i64 r301.2.2.1), (aN .i64 r301.2.2.2.1), (.row 8), (.row 2), (aL 2 encMachUnit r301.2.2.2.2), (.row 64)]) ty_27 z z z z) z <| l0h (p_stA (ds := [(aS r301.2.1), (aN .i64 r301.2.2.1), (aN .i64 r301.2.2.2.1), (.row 8), (.row 2), (aL 2 encMachUnit r301.2.2.2.2), (.row 64)]) ty_27 z z z z z z) <| ne <| wc_ent (fzc (j := 0) (i := 3) z z z z (fun _ => z)) <| wc_ent (fztc (j := 0) (i := 4) z z z z .tree (FrC.tree (fun _ => z) frMachBank)) <| wc_ent (fzc (j := 0) (i := 6) z z z z (fun _ => z)) <| wc_ret <| ?_
          obtain rfl := sm H
          exact fin (Or.inr z) (rs1 (rva (ds := (encMachine (Machine.mk r301.2.1 r301.2.2.1 r301.2.2.2.1 v12 v11 r301.2.2.2.2 r301.1)).map .data) ty_27 z z z z) rs0) (re [] (.adat) z h0)
        intro H
        refine sgr z <| l (p_bs (f := (eN .u8)) [.const (Value.int IntKind.u8 16), .const (Value.int IntKind.u8 17), .const (Value.int IntKind.u8 18)] [16, 17, 18] Tryz.underlying116 ty_5.size zr_5 z z z z (el1 (.one _) z (el1 (.one _) z (el1 (.one _) z el0))) z) z <| l (p_lenL Tryz.underlying116 z) z <| lm z z <| ne <| wc_block <| w_lp6 H (fun v303 v304 v305 v306 v307 v308 => ⟨[(0, (.ptr 0 0)), (1, (.ptr 1 0)), (7, (.fn (.func 46) [] [(.ptr 1 0)])), (8, (.fn (.func 47) [] [])), (9, (.ptr 16 0)), (10, (.ptr 17 0)), (11, (.ptr 18 0)), (12, (.ptr 19 0)), (14, (.ptr 21 0)), (15, (.ptr 22 0)), (16, (.ptr 23 0)), (17, (.ptr 24 0)), (18, (.ptr 25 0)), (19, (.ptr 26 0)), (20, (.ptr 27 0)), (21, (aL 1 eS ([(⟨#[101, 113]⟩ : ByteArray), (⟨#[117, 108, 116]⟩ : ByteArray), (⟨#[115, 108, 116]⟩ : ByteArray)]))), (402, (aL 1 (eN .u8) [16, 17, 18])), (403, (aN .i64 ([16, 17, 18].length : Int))), (404, (aN .i64 v303))], [(0, (oC 27 [(aS ⟨#[]⟩), (aN .i64 0), (aN .i64 0), aNil, aNil, aNil, aNil])), (1, (oC 27 [(aS v304), (aN .i64 v305), (aN .i64 v306), (.row 8), (.row 2), (aL 2 encMachUnit v307), (.row 47)])), (2, (oT 97 2 tencMachBank v11)), (8, (oR 100 4 encMachReg v12)), (16, (oD 107 (encMachOperand r13))), (17, (oD 107 (encMachOperand r15))), (18, (oD 107 (encMachOperand r17))), (19, (oD 107 (encMachOperand r19))), (21, (oD 107 (encMachOperand r23))), (22, (oD 114 (encTermX r25))), (23, (oD 114 (encTermX r27))), (24, (oD 114 (encTermX r29))), (25, (oD 114 (encTermX r31))), (26, (oD 114 (encTermX r33))), (27, (oD 114 (encTermX r35))), (47, (oR 61 9 encMachInstr v308))]⟩) (en [(0, 0), (1, 1), (2, 2), (8, 8), (16, 16), (17, 17), (18, 18), (19, 19), (21, 21), (22, 22), (23, 23), (24, 24), (25, 25), (26, 26), (27, 27), (47, 47)] (ws z z z (ws z z z (ws z z z (ws z z z (ws z z z (ws z z z (ws z z z (ws z z z (ws z z z (ws z z z (ws z z z (ws z z z (ws z z z (ws z z z (ws z z z (wd z (wd z (wd z (wd z w0))))))))))))))))))) z (hs z z z (hs z z z (ht (Tame.flat tmMachBank _) z (hr z (hc z (hc z (hc z (hc z (hc z (hc z (hc z (hc z (hc z (hc z (hc z (hr z h0))))))))))))))))) <| ?_
        intro n5 v303 v304 v305 v306 v307 v308 H
        rw [api_givenWide_b5] at H
        refine sgr z <| l (p_lss z z) z <| ne <| wc_seq <| ?_
        rcases cn H with ⟨b309, H⟩ | ⟨b309, H⟩
        · refine c_t z b309 ?_
          refine se <| wc_seq <| wc_block <| sgr z <| lm z z <| ?_
          obtain ⟨r310, e311, H⟩ := ob H
          refine l (p_ixL Tryz.underlying116 ty_5.size z z e311) z <| l (p_ldP ty_5 z z) z <| la z z <| la z z <| ne <| wc_draw [0, 0, 0, 6, 14, 0, 0, 0, 224, 0, 0, 0, 3072, 7680, 15872, 32256, 65024, 130560, 262143] mixed z <| dm z z <| dm z z <| dm z z <| ?_
          obtain ⟨r312, e313, H⟩ := ob H
          refine dr (p_ixL Tryz.underlying98 ty_9.size z z e313) z <| dr (p_ldP ty_9 z z) z <| dr (p_ldB (ds := (encMachOperand r13).map .data) ty_107 z z z z) z <| dr (p_ldB (ds := (encMachOperand r15).map .data) ty_107 z z z z) z <| dr (p_ldB (ds := (encMachOperand r17).map .data) ty_107 z z z z) z <| dr (p_bs (f := encMachOperand) [.tmp 414, .tmp 415, .tmp 416] [r13, r15, r17] Tryz.underlying58 ty_107.size zr_107 z z z z (el1 (.agg _) z (el1 (.agg _) z (el1 (.agg _) z el0))) z) z <| dm z z <| dr (p_ldB (ds := (encTermX r25).map .data) ty_114 z z z z) z <| dr (p_ldB (ds := (encTermX r27).map .data) ty_114 z z z z) z <| dr (p_bs (f := encTerm) [.tmp 419, .tmp 420] [r25, r27] Tryz.underlying112 ty_114.size zr_114 z z z z (el1X (encTerm_X _) (.agg _) z (el1X (encTerm_X _) (.agg _) z el0)) z) z <| ?_
          obtain ⟨r314, e315, H⟩ := ob H
          refine dr (p_c (api_givenOp_ok e315) ent_51 z z z) z <| dr (p_bs (f := encTerm) [.tmp 422] [r314] Tryz.underlying112 ty_114.size zr_114 z z z z (el1X (encTerm_X _) (.agg _) z el0) z) z <| ?_
          obtain ⟨r316, e317, H⟩ := ob H
          refine dr (p_c (api_givenOp_ok e317) ent_51 z z z) z <| ?_
          obtain ⟨r318, e319, H⟩ := ob H
          refine dr (p_c (api_givenSet_ok e319) ent_50 z z z) z <| dr (p_bs (f := encMachEffect) [.tmp 425] [r318] Tryz.underlying59 ty_118.size zr_118 z z z z (el1 (.agg _) z el0) z) z <| ?_
          obtain ⟨r320, e321, H⟩ := ob H
          refine drh (p_cw (ids := [1, 8, 2, 47, 49]) (api_givenWide_1_ok e321) ent_46 z z z (rc z z (rc z rm (rc z (rtt (Tame.flat tmMachBank _)) (rc z rm (rc z z rn))))) (rc z z (rc z rm (rc z (rtt (Tame.flat tmMachBank _)) (rc z z (rc z rm rn))))) z ⟨z, ⟨z, ⟨z, ⟨z, ⟨z, q⟩⟩⟩⟩⟩ (by decide) z z z (oc z (oc om (oc (ott (Tame.flat tmMachBank _)) (oc om (oc z on))))) (oc z (oc om (oc (ott (Tame.flat tmMachBank _)) (oc z (oc om on))))) z) z <| ?_
          refine wd_nil ?_ (by kernel_rfl)
          refine e_bn (e_n ?_)
          refine wc_region z <| l (p_add z z) z <| lm z z <| ne <| ?_
          exact ⟨w64 (v303 + 1), r320.2.1, r320.2.2.1, r320.2.2.2.1, r320.2.2.2.2, r320.1, H, en [(0, 0), (1, 1), (2, 2), (8, 8), (16, 16), (17, 17), (18, 18), (19, 19), (21, 21), (22, 22), (23, 23), (24, 24), (25, 25), (26, 26), (27, 27), (49, 47)] (ws z z z (ws z z z (ws z z z (ws z z z (ws z z z (ws z z z (ws z z z (ws z z z (ws z z z (ws z z z (ws z z z (ws z z z (ws z z z (ws z z z (ws z z z (wd z (wd z (wd z (wd z w0))))))))))))))))))) z (hs z z z (hs z z z (ht (Tame.flat tmMachBank _) z (hr z (hc z (hc z (hc z (hc z (hc z (hc z (hc z (hc z (hc z (hc z (hc z (hr z h0))))))))))))))))⟩
        refine c_f z b309 <| wc_exit <| ?_
        refine e_te (e_te (e_h (e_n ?_)))
        exact ⟨v304, v305, v306, v307, v308, H, en [(0, 0), (1, 1), (2, 2), (8, 8), (16, 16), (17, 17), (18, 18), (19, 19), (21, 21), (22, 22), (23, 23), (24, 24), (25, 25), (26, 26), (27, 27), (47, 47)] (ws z z z (ws z z z (ws z z z (ws z z z (ws z z z (ws z z z (ws z z z (ws z z z (ws z z z (ws z z z (ws z z z (ws z z z (ws z z z (ws z z z (ws z z z w0))))))))))))))) z (hs z z z (hs z z z (ht (Tame.flat tmMachBank _) z (hr z (hc z (hc z (hc z (hc z (hc z (hc z (hc z (hc z (hc z (hc z (hc z (hr z h0))))))))))))))))⟩
      intro H
      refine sgr z <| l (p_bs (f := (eN .u8)) [.const (Value.int IntKind.u8 5), .const (Value.int IntKind.u8 6), .const (Value.int IntKind.u8 8), .const (Value.int IntKind.u8 9), .const (Value.int IntKind.u8 10), .const (Value.int IntKind.u8 11), .const (Value.int IntKind.u8 12), .const (Value.int IntKind.u8 13)] [5, 6, 8, 9, 10, 11, 12, 13] Tryz.underlying116 ty_5.size zr_5 z z z z (el1 (.one _) z (el1 (.one _) z (el1 (.one _) z (el1 (.one _) z (el1 (.one _) z (el1 (.one _) z (el1 (.one _) z (el1 (.one _) z el0)))))))) z) z <| l (p_lenL Tryz.underlying116 z) z <| lm z z <| ne <| wc_block <| w_lp6 H (fun v322 v323 v324 v325 v326 v327 => ⟨[(0, (.ptr 0 0)), (1, (.ptr 1 0)), (7, (.fn (.func 46) [] [(.ptr 1 0)])), (8, (.fn (.func 47) [] [])), (9, (.ptr 16 0)), (10, (.ptr 17 0)), (11, (.ptr 18 0)), (12, (.ptr 19 0)), (13, (.ptr 20 0)), (14, (.ptr 21 0)), (15, (.ptr 22 0)), (16, (.ptr 23 0)), (17, (.ptr 24 0)), (18, (.ptr 25 0)), (19, (.ptr 26 0)), (20, (.ptr 27 0)), (21, (aL 1 eS ([(⟨#[97, 100, 100]⟩ : ByteArray), (⟨#[115, 117, 98]⟩ : ByteArray), (⟨#[97, 110, 100]⟩ : ByteArray), (⟨#[111, 114]⟩ : ByteArray), (⟨#[120, 111, 114]⟩ : ByteArray), (⟨#[115, 104, 108]⟩ : ByteArray), (⟨#[115, 104, 114]⟩ : ByteArray), (⟨#[115, 97, 114]⟩ : ByteArray)]))), (128, (aL 1 (eN .u8) [5, 6, 8, 9, 10, 11, 12, 13])), (129, (aN .i64 ([5, 6, 8, 9, 10, 11, 12, 13].length : Int))), (130, (aN .i64 v322))], [(0, (oC 27 [(aS ⟨#[]⟩), (aN .i64 0), (aN .i64 0), aNil, aNil, aNil, aNil])), (1, (oC 27 [(aS v323), (aN .i64 v324), (aN .i64 v325), (.row 8), (.row 2), (aL 2 encMachUnit v326), (.row 15)])), (2, (oT 97 2 tencMachBank v11)), (8, (oR 100 4 encMachReg v12)), (15, (oR 61 9 encMachInstr v327)), (16, (oD 107 (encMachOperand r13))), (17, (oD 107 (encMachOperand r15))), (18, (oD 107 (encMachOperand r17))), (19, (oD 107 (encMachOperand r19))), (20, (oD 107 (encMachOperand r21))), (21, (oD 107 (encMachOperand r23))), (22, (oD 114 (encTermX r25))), (23, (oD 114 (encTermX r27))), (24, (oD 114 (encTermX r29))), (25, (oD 114 (encTermX r31))), (26, (oD 114 (encTermX r33))), (27, (oD 114 (encTermX r35)))]⟩) (en [(0, 0), (1, 1), (2, 2), (8, 8), (15, 15), (16, 16), (17, 17), (18, 18), (19, 19), (20, 20), (21, 21), (22, 22), (23, 23), (24, 24), (25, 25), (26, 26), (27, 27)] (ws z z z (ws z z z (ws z z z (ws z z z (ws z z z (ws z z z (ws z z z (ws z z z (ws z z z (ws z z z (ws z z z (ws z z z (ws z z z (ws z z z (ws z z z (ws z z z (wd z (wd z (wd z (wd z w0)))))))))))))))))))) z (hs z z z (hs z z z (ht (Tame.flat tmMachBank _) z (hr z (hr z (hc z (hc z (hc z (hc z (hc z (hc z (hc z (hc z (hc z (hc z (hc z (hc z h0)))))))))))))))))) <| ?_
      intro n6 v322 v323 v324 v325 v326 v327 H
      rw [api_givenWide_b6] at H
      refine sgr z <| l (p_lss z z) z <| ne <| wc_seq <| ?_
      rcases cn H with ⟨b328, H⟩ | ⟨b328, H⟩
      · refine c_t z b328 ?_
        refine se <| wc_seq <| wc_block <| sgr z <| lm z z <| ?_
        obtain ⟨r329, e330, H⟩ := ob H
        refine l (p_ixL Tryz.underlying116 ty_5.size z z e330) z <| l (p_ldP ty_5 z z) z <| la z z <| la z z <| ne <| wc_draw [0, 0, 0, 6, 14, 0, 0, 0, 224, 0, 0, 0, 3072, 7680, 15872, 32256, 65535] mixed z <| dm z z <| dm z z <| dm z z <| ?_
        obtain ⟨r331, e332, H⟩ := ob H
        refine dr (p_ixL Tryz.underlying98 ty_9.size z z e332) z <| dr (p_ldP ty_9 z z) z <| dr (p_ldB (ds := (encMachOperand r13).map .data) ty_107 z z z z) z <| dr (p_ldB (ds := (encMachOperand r15).map .data) ty_107 z z z z) z <| dr (p_ldB (ds := (encMachOperand r17).map .data) ty_107 z z z z) z <| dr (p_bs (f := encMachOperand) [.tmp 140, .tmp 141, .tmp 142] [r13, r15, r17] Tryz.underlying58 ty_107.size zr_107 z z z z (el1 (.agg _) z (el1 (.agg _) z (el1 (.agg _) z el0))) z) z <| dm z z <| dr (p_ldB (ds := (encTermX r25).map .data) ty_114 z z z z) z <| dr (p_ldB (ds := (encTermX r27).map .data) ty_114 z z z z) z <| dr (p_bs (f := encTerm) [.tmp 145, .tmp 146] [r25, r27] Tryz.underlying112 ty_114.size zr_114 z z z z (el1X (encTerm_X _) (.agg _) z (el1X (encTerm_X _) (.agg _) z el0)) z) z <| ?_
        obtain ⟨r333, e334, H⟩ := ob H
        refine dr (p_c (api_givenOp_ok e334) ent_51 z z z) z <| ?_
        obtain ⟨r335, e336, H⟩ := ob H
        refine dr (p_c (api_givenSet_ok e336) ent_50 z z z) z <| dr (p_bs (f := encMachEffect) [.tmp 149] [r335] Tryz.underlying59 ty_118.size zr_118 z z z z (el1 (.agg _) z el0) z) z <| ?_
        obtain ⟨r337, e338, H⟩ := ob H
        refine drh (p_cw (ids := [1, 8, 2, 15, 29]) (api_givenWide_1_ok e338) ent_46 z z z (rc z z (rc z rm (rc z (rtt (Tame.flat tmMachBank _)) (rc z rm (rc z z rn))))) (rc z z (rc z rm (rc z (rtt (Tame.flat tmMachBank _)) (rc z z (rc z rm rn))))) z ⟨z, ⟨z, ⟨z, ⟨z, ⟨z, q⟩⟩⟩⟩⟩ (by decide) z z z (oc z (oc om (oc (ott (Tame.flat tmMachBank _)) (oc om (oc z on))))) (oc z (oc om (oc (ott (Tame.flat tmMachBank _)) (oc z (oc om on))))) z) z <| ?_
        refine wd_nil ?_ (by kernel_rfl)
        refine e_bn (e_n ?_)
        refine wc_region z <| l (p_add z z) z <| lm z z <| ne <| ?_
        exact ⟨w64 (v322 + 1), r337.2.1, r337.2.2.1, r337.2.2.2.1, r337.2.2.2.2, r337.1, H, en [(0, 0), (1, 1), (2, 2), (8, 8), (29, 15), (16, 16), (17, 17), (18, 18), (19, 19), (20, 20), (21, 21), (22, 22), (23, 23), (24, 24), (25, 25), (26, 26), (27, 27)] (ws z z z (ws z z z (ws z z z (ws z z z (ws z z z (ws z z z (ws z z z (ws z z z (ws z z z (ws z z z (ws z z z (ws z z z (ws z z z (ws z z z (ws z z z (ws z z z (wd z (wd z (wd z (wd z w0)))))))))))))))))))) z (hs z z z (hs z z z (ht (Tame.flat tmMachBank _) z (hr z (hr z (hc z (hc z (hc z (hc z (hc z (hc z (hc z (hc z (hc z (hc z (hc z (hc z h0)))))))))))))))))⟩
      refine c_f z b328 <| wc_exit <| ?_
      refine e_te (e_te (e_h (e_n ?_)))
      exact ⟨v323, v324, v325, v326, v327, H, en [(0, 0), (1, 1), (2, 2), (8, 8), (15, 15), (16, 16), (17, 17), (18, 18), (19, 19), (20, 20), (21, 21), (22, 22), (23, 23), (24, 24), (25, 25), (26, 26), (27, 27)] (ws z z z (ws z z z (ws z z z (ws z z z (ws z z z (ws z z z (ws z z z (ws z z z (ws z z z (ws z z z (ws z z z (ws z z z (ws z z z (ws z z z (ws z z z (ws z z z w0)))))))))))))))) z (hs z z z (hs z z z (ht (Tame.flat tmMachBank _) z (hr z (hr z (hc z (hc z (hc z (hc z (hc z (hc z (hc z (hc z (hc z (hc z (hc z (hc z h0)))))))))))))))))⟩
    intro H
    refine sgr z <| ?_
    obtain ⟨r339, e340, H⟩ := ob H
    refine lh (p_ch (ids := [9]) (api_givenNames_ok e340) ent_45 z z (rc z z rn) (rc z rm rn) z ⟨z, q⟩ (by decide) z z z (oc z on) (oc om on) z) z <| ?_
    obtain ⟨r341, e342, H⟩ := ob H
    refine lh (p_ch (ids := [10]) (api_givenNames_ok e342) ent_45 z z (rc z z rn) (rc z rm rn) z ⟨z, q⟩ (by decide) z z z (oc z on) (oc om on) z) z <| wl_ent (fzt (ds := [65]) ⟨z, q⟩ z .row (FrC.row (fun _ => z))) <| ?_
    obtain ⟨e343, H⟩ := as_ H
    refine lh (p_apA 11 Tryz.underlying98 el_9 z z z z e343) z <| l (p_lenR Tryz.underlying98 z z) z <| lm z z <| ne <| wc_block <| w_lp7 H (fun v344 v345 v346 v347 v348 v349 v350 => ⟨[(0, (.ptr 0 0)), (1, (.ptr 1 0)), (2, (.row 2)), (66, (.row 11)), (67, (aN .i64 (((r339 ++ r341).length : Int)))), (68, (aN .i64 v344))], [(0, (oC 27 [(aS ⟨#[]⟩), (aN .i64 0), (aN .i64 0), aNil, aNil, aNil, aNil])), (1, (oC 27 [(aS v345), (aN .i64 v346), (aN .i64 v347), (.row 8), aNil, (aL 2 encMachUnit v348), aNil])), (2, (oT 97 2 tencMachBank v349)), (8, (oR 100 4 encMachReg v350)), (11, (oR 9 1 eS (r339 ++ r341)))]⟩) (en [(0, 0), (1, 1), (2, 2), (8, 8), (11, 11)] (ws z z z (ws z z z (ws z z z (ws z z z (wd z (wd z w0)))))) z (hs z z z (hs z z z (ht (Tame.flat tmMachBank _) z (hr z (hr z h0)))))) <| ?_
    intro n7 v344 v345 v346 v347 v348 v349 v350 H
    rw [api_givenWide_b7] at H
    refine sgr z <| l (p_lss z z) z <| ne <| wc_seq <| ?_
    rcases cn H with ⟨b351, H⟩ | ⟨b351, H⟩
    · refine c_t z b351 ?_
      refine se <| wc_seq <| wc_block <| sgr z <| lm z z <| ?_
      obtain ⟨r352, e353, H⟩ := ob H
      refine l (p_ixR Tryz.underlying98 ty_9.size z z z e353) z <| l (p_ldR (n := v344) (j := 0) (sz := 1) (k := 11) (r := r352) (f := eS) (fun _ => z) ty_9 z z e353 z) z <| la z z <| la z z <| ne <| sgr z <| l (p_fd fld_27_3 z) z <| l (p_ld ty_22 z z z) z <| lm z z <| lm z z <| l (p_rem z z z) z <| lm z z <| l (p_quo z z z) z <| l (p_mul z z) z <| l (p_bd (cs := (encMachReg ((MachReg.mk r352 16 (Int.tmod v344 8) (w64 (16 * (w64 (Int.tdiv v344 8))))))).map .data) pl_100 zr_100 z ⟨q, ⟨q, ⟨q, ⟨q, q⟩⟩⟩⟩ z) z <| l (p_bs (f := encMachReg) [.tmp 81] [(MachReg.mk r352 16 (Int.tmod v344 8) (w64 (16 * (w64 (Int.tdiv v344 8)))))] Tryz.underlying22 ty_100.size zr_100 z z z z (el1 (.agg _) z el0) z) z <| ?_
      obtain ⟨e354, H⟩ := as_ H
      refine lh (p_apA 15 Tryz.underlying22 el_100 z z z z e354) z <| l (p_fd fld_27_3 z) z <| l0h (p_st ty_22 z z z q z z) <| ne <| wc_region z <| lm z z <| lm z z <| l (p_quo z z z) z <| l (p_add z z) z <| lm z z <| lm z z <| l (p_quo z z z) z <| l (p_add z z) z <| ?_
      obtain ⟨r355, e356, H⟩ := ob H
      refine wl_ent (opn (k := 2) (B := [.av (aS r355.Name), wR 3 1 (eN .i64) r355.Regs]) e356 z z) <| wl_ent (foc (k := 2) 16 1 z z .row z) <| l (p_ixE (l := v349) Tryz.underlying23 ty_97.size z z e356 z) z <| l (p_fdR fld_97_1 z) z <| l (p_ldE (n := (w64 (1 + (w64 (Int.tdiv v344 8))))) (j := 1) (sz := 2) (k := 2) (fun _ => z) ty_29 z (tk e356) z z) z <| lm z z <| l (p_add z z) z <| l (p_bs (f := (eN .i64)) [.tmp 97] [w64 (8 + v344)] Tryz.underlying29 ty_3.size zr_3 z z z z (el1 (.one _) z el0) z) z <| ?_
      obtain ⟨e357, H⟩ := as_ H
      refine lh (p_apA 17 Tryz.underlying29 el_3 z z z z e357) z <| l (p_ixE (l := v349) Tryz.underlying23 ty_97.size z z e356 z) z <| l (p_fdR fld_97_1 z) z <| l0h (p_stE (n := (w64 (1 + (w64 (Int.tdiv v344 8))))) (j := 1) (sz := 2) (k := 2) (fun _ => z) ty_29 (.inr z) z z (tk e356) z q z z z) <| wl_nil <| ?_
      refine e_bn (e_n ?_)
      refine wc_region z <| l (p_add z z) z <| lm z z <| ne <| ?_
      exact ⟨w64 (v344 + 1), v345, v346, v347, v348, v349.set (w64 (1 + (w64 (Int.tdiv v344 8)))).toNat ((MachBank.mk r355.Name (r355.Regs ++ [w64 (8 + v344)]))), v350 ++ [(MachReg.mk r352 16 (Int.tmod v344 8) (w64 (16 * (w64 (Int.tdiv v344 8)))))], H, Ent.trans (absb (k := 2) 17 1 z z z .row z) (Ent.trans (cls (k := 2) (r' := (MachBank.mk r355.Name (r355.Regs ++ [w64 (8 + v344)]))) e356 z z) (en [(0, 0), (1, 1), (2, 2), (15, 8), (11, 11)] (ws z z z (ws z z z (ws z z z (ws z z z (wd z (wd z w0)))))) z (hs z z z (hs z z z (ht (Tame.flat tmMachBank _) z (hr z (hr z h0)))))))⟩
    refine c_f z b351 <| wc_exit <| ?_
    refine e_te (e_te (e_h (e_n ?_)))
    exact ⟨v345, v346, v347, v348, v349, v350, H, en [(0, 0), (1, 1), (2, 2), (8, 8)] (ws z z z (ws z z z (ws z z z w0))) z (hs z z z (hs z z z (ht (Tame.flat tmMachBank _) z (hr z h0))))⟩
  intro H
  refine sgr z <| ?_
  obtain ⟨r358, e359, H⟩ := ob H
  refine lh (p_ch (ids := [3]) (api_givenNames_ok e359) ent_45 z z (rc z z rn) (rc z rm rn) z ⟨z, q⟩ (by decide) z z z (oc z on) (oc om on) z) z <| l (p_lenR Tryz.underlying98 z z) z <| lm z z <| ne <| wc_block <| w_lp7 H (fun v360 v361 v362 v363 v364 v365 v366 => ⟨[(0, (.ptr 0 0)), (1, (.ptr 1 0)), (2, (.row 2)), (39, (.row 3)), (40, (aN .i64 (r358.length : Int))), (41, (aN .i64 v360))], [(0, (oC 27 [(aS ⟨#[]⟩), (aN .i64 0), (aN .i64 0), aNil, aNil, aNil, aNil])), (1, (oC 27 [(aS v361), (aN .i64 v362), (aN .i64 v363), (.row 8), aNil, (aL 2 encMachUnit v364), aNil])), (2, (oT 97 2 tencMachBank v365)), (3, (oR 9 1 eS r358)), (8, (oR 100 4 encMachReg v366))]⟩) (Ent.trans (nrc (j := 1) (i := 3) (f := encMachReg) (sz := 4) (e := 100) 4 z z z) (en [(0, 0), (1, 1), (2, 2), (3, 3), (4, 8)] (ws z z z (ws z z z (ws z z z (ws z z z (wd z (wd z w0)))))) z (hs z z z (hs z z z (ht (Tame.flat tmMachBank _) z (hr z (hr z h0))))))) <| ?_
  intro n8 v360 v361 v362 v363 v364 v365 v366 H
  rw [api_givenWide_b8] at H
  refine sgr z <| l (p_lss z z) z <| ne <| wc_seq <| ?_
  rcases cn H with ⟨b367, H⟩ | ⟨b367, H⟩
  · refine c_t z b367 ?_
    refine se <| wc_seq <| wc_block <| sgr z <| lm z z <| ?_
    obtain ⟨r368, e369, H⟩ := ob H
    refine l (p_ixR Tryz.underlying98 ty_9.size z z z e369) z <| l (p_ldR (n := v360) (j := 0) (sz := 1) (k := 3) (r := r368) (f := eS) (fun _ => z) ty_9 z z e369 z) z <| la z z <| la z z <| ne <| sgr z <| l (p_fd fld_27_3 z) z <| l (p_ld ty_22 z z z) z <| lm z z <| l (p_bd (cs := (encMachReg ((MachReg.mk r368 32 (-1) 0))).map .data) pl_100 zr_100 z ⟨q, ⟨q, ⟨q, q⟩⟩⟩ z) z <| l (p_bs (f := encMachReg) [.tmp 49] [(MachReg.mk r368 32 (-1) 0)] Tryz.underlying22 ty_100.size zr_100 z z z z (el1 (.agg _) z el0) z) z <| ?_
    obtain ⟨e370, H⟩ := as_ H
    refine lh (p_apA 9 Tryz.underlying22 el_100 z z z z e370) z <| l (p_fd fld_27_3 z) z <| l0h (p_st ty_22 z z z q z z) <| ne <| wc_region z <| lm z z <| lm z z <| ?_
    obtain ⟨r371, e372, H⟩ := ob H
    refine wl_ent (opn (k := 2) (B := [.av (aS r371.Name), wR 3 1 (eN .i64) r371.Regs]) e372 z z) <| wl_ent (foc (k := 2) 10 1 z z .row z) <| l (p_ixE (l := v365) Tryz.underlying23 ty_97.size z z e372 z) z <| l (p_fdR fld_97_1 z) z <| l (p_ldE (n := 0) (j := 1) (sz := 2) (k := 2) (fun _ => z) ty_29 z (tk e372) z z) z <| lm z z <| l (p_bs (f := (eN .i64)) [.tmp 58] [v360] Tryz.underlying29 ty_3.size zr_3 z z z z (el1 (.one _) z el0) z) z <| ?_
    obtain ⟨e373, H⟩ := as_ H
    refine lh (p_apA 11 Tryz.underlying29 el_3 z z z z e373) z <| l (p_ixE (l := v365) Tryz.underlying23 ty_97.size z z e372 z) z <| l (p_fdR fld_97_1 z) z <| l0h (p_stE (n := 0) (j := 1) (sz := 2) (k := 2) (fun _ => z) ty_29 (.inr z) z z (tk e372) z q z z z) <| wl_nil <| ?_
    refine e_bn (e_n ?_)
    refine wc_region z <| l (p_add z z) z <| lm z z <| ne <| ?_
    exact ⟨w64 (v360 + 1), v361, v362, v363, v364, v365.set (0 : Int).toNat ((MachBank.mk r371.Name (r371.Regs ++ [v360]))), v366 ++ [(MachReg.mk r368 32 (-1) 0)], H, Ent.trans (absb (k := 2) 11 1 z z z .row z) (Ent.trans (cls (k := 2) (r' := (MachBank.mk r371.Name (r371.Regs ++ [v360]))) e372 z z) (en [(0, 0), (1, 1), (2, 2), (3, 3), (9, 8)] (ws z z z (ws z z z (ws z z z (ws z z z (wd z (wd z w0)))))) z (hs z z z (hs z z z (ht (Tame.flat tmMachBank _) z (hr z (hr z h0)))))))⟩
  refine c_f z b367 <| wc_exit <| ?_
  refine e_te (e_te (e_h (e_n ?_)))
  exact ⟨v361, v362, v363, v364, v365, v366, H, en [(0, 0), (1, 1), (2, 2), (8, 8)] (ws z z z (ws z z z (ws z z z w0))) z (hs z z z (hs z z z (ht (Tame.flat tmMachBank _) z (hr z h0))))⟩

def api_givenRisc_1 (x0 : ByteArray) (x1 : Int) (x2 : Int) (x3 : Int) (x4 : Int) (x5 : List MachOperand) (x6 : List MachEffect) (x7 : ByteArray) (x8 : Int) (x9 : Int) (x10 : List MachReg) (x11 : List MachBank) (x12 : List MachUnit) (x13 : List MachInstr) : Option ((List MachInstr) × ByteArray × Int × Int × (List MachBank) × (List MachUnit)) :=
  asr (roomy (x13.length + [(MachInstr.mk x0 4227858432 (sShl .u64 (IntKind.wrap .u64 (x13.length : Int)) 26) x5 x6 x1 x2 x3 x4)].length) 112) <|
  some ((x13 ++ [(MachInstr.mk x0 4227858432 (sShl .u64 (IntKind.wrap .u64 (x13.length : Int)) 26) x5 x6 x1 x2 x3 x4)], x7, x8, x9, x11, x12))
theorem api_givenRisc_1_ok {x0 : ByteArray} {x1 : Int} {x2 : Int} {x3 : Int} {x4 : Int} {x5 : List MachOperand} {x6 : List MachEffect} {x7 : ByteArray} {x8 : Int} {x9 : Int} {x10 : List MachReg} {x11 : List MachBank} {x12 : List MachUnit} {x13 : List MachInstr} {R : (List MachInstr) × ByteArray × Int × Int × (List MachBank) × (List MachUnit)} (H : api_givenRisc_1 x0 x1 x2 x3 x4 x5 x6 x7 x8 x9 x10 x11 x12 x13 = some R) : FnOk Tryz.prog K0 58 [(aS x0), (aN .i64 x1), (aN .i64 x2), (aN .i64 x3), (aN .i64 x4), (aL 6 encMachOperand x5), (aL 21 encMachEffect x6), (.ptr 0 0)] [(0, (oC 27 [(aS x7), (aN .i64 x8), (aN .i64 x9), (.row 1), (aL 2 encMachBank x11), (aL 2 encMachUnit x12), (.row 2)])), (1, (oR 100 4 encMachReg x10)), (2, (oR 61 9 encMachInstr x13)), (3, .fresh)] (.tup []) [(0, (oC 27 [(aS R.2.1), (aN .i64 R.2.2.1), (aN .i64 R.2.2.2.1), (.row 1), (aL 2 encMachBank R.2.2.2.2.1), (aL 2 encMachUnit R.2.2.2.2.2), (.row 3)])), (1, (oR 100 4 encMachReg x10)), (2, .dead), (3, (oR 61 9 encMachInstr R.1))] := by
  refine fn_w (nt := 37) (np := 3) Tryz.func58 z z (by simp) (np_of2 z) <| ?_
  unfold api_givenRisc_1 at H
  refine sgr z <| l (p_fd fld_27_6 z) z <| l (p_ld ty_25 z z z) z <| l (p_lenR Tryz.underlying25 z z) z <| la z z <| ne <| sgr z <| lm z z <| lm z z <| l (p_cv Tryz.underlying3 Tryz.underlying57 z) z <| l (p_shl z z z) z <| lm z z <| lm z z <| lm z z <| lm z z <| lm z z <| lm z z <| l (p_bd (cs := (encMachInstr ((MachInstr.mk x0 4227858432 (sShl .u64 (IntKind.wrap .u64 (x13.length : Int)) 26) x5 x6 x1 x2 x3 x4))).map .data) pl_61 zr_61 z ⟨q, ⟨q, ⟨q, ⟨q, ⟨q, ⟨q, ⟨q, ⟨q, ⟨q, q⟩⟩⟩⟩⟩⟩⟩⟩⟩ z) z <| lh (p_al 4 zr_61 z) z <| l0h (p_stA (ds := (encMachInstr ((MachInstr.mk x0 4227858432 (sShl .u64 (IntKind.wrap .u64 (x13.length : Int)) 26) x5 x6 x1 x2 x3 x4))).map .data) ty_61 z z z z z z) <| ne <| wc_region z <| l (p_fd fld_27_6 z) z <| l (p_ld ty_25 z z z) z <| l (p_ldB (ds := (encMachInstr ((MachInstr.mk x0 4227858432 (sShl .u64 (IntKind.wrap .u64 (x13.length : Int)) 26) x5 x6 x1 x2 x3 x4))).map .data) ty_61 z z z z) z <| l (p_bs (f := encMachInstr) [.tmp 33] [(MachInstr.mk x0 4227858432 (sShl .u64 (IntKind.wrap .u64 (x13.length : Int)) 26) x5 x6 x1 x2 x3 x4)] Tryz.underlying25 ty_61.size zr_61 z z z z (el1 (.agg _) z el0) z) z <| ?_
  obtain ⟨e1, H⟩ := as_ H
  refine lh (p_apA 5 Tryz.underlying25 el_61 z z z z e1) z <| l (p_fd fld_27_6 z) z <| l0h (p_st ty_25 z z z q z z) <| wl_nil <| ?_
  obtain rfl := sm H
  exact fin (Or.inl z) rs0 (re2 [(0, 0), (1, 1), (2, 2), (5, 3)] q z (hs z z z (hr z (hx (hr z h0)))))

def api_givenRisc_2 (x0 : Term) : Option Term :=
  (api_givenOp 22 32 [x0]).bind fun r1 =>
  some r1
theorem api_givenRisc_2_ok {x0 : Term} {R : Term} (H : api_givenRisc_2 x0 = some R) : FnOk Tryz.prog K0 59 [(aA (encTermX x0))] [] (aA (encTermX R)) [] := by
  refine fn_w (nt := 6) (np := 0) Tryz.func59 z z (by simp) (np_of2 z) <| ?_
  unfold api_givenRisc_2 at H
  refine sgr z <| lh (p_bx 0 z q z) z <| lh (p_al 1 zr_114 z) z <| ne <| sgr z <| l (p_ldB (ds := (encTermX x0).map .data) ty_114 z z z z) z <| l (p_bs (f := encTerm) [.tmp 3] [x0] Tryz.underlying112 ty_114.size zr_114 z z z z (el1X (encTerm_X _) (.agg _) z el0) z) z <| ?_
  obtain ⟨r1, e2, H⟩ := ob H
  refine l (p_c (api_givenOp_ok e2) ent_51 z z z) z <| l0h (p_stA (ds := (encTermX r1).map .data) ty_114 z z z z z z) <| ne <| wc_ret <| ?_
  obtain rfl := sm H
  exact fin (Or.inr z) (rs1 (rva (ds := (encTermX r1).map .data) ty_114 z z z z) rs0) (re [] (.adat) z h0)

def api_givenRisc_k5 (v6 : List MachReg) (r8 : MachOperand) (r10 : MachOperand) (r12 : MachOperand) (r14 : MachOperand) (r16 : MachOperand) (r20 : Term) (r22 : Term) (r26 : Term) (r28 : Term) : ByteArray × Int × Int × (List MachBank) × (List MachUnit) × (List MachInstr) → Option Machine
  | (v126, v127, v128, v129, v130, v131) =>
    (api_givenField (⟨#[116, 111]⟩ : ByteArray) 4 0 0 [(MachPiece.mk 0 14)]).bind fun r132 =>
    (api_givenField (⟨#[116, 111]⟩ : ByteArray) 4 0 0 [(MachPiece.mk 0 26)]).bind fun r134 =>
    (api_givenVar (⟨#[116, 111]⟩ : ByteArray) 32).bind fun r136 =>
    (api_givenOp 16 1 [r20, r22]).bind fun r138 =>
    (api_givenJump r136 r138).bind fun r140 =>
    (api_givenRisc_1 (⟨#[98, 101, 113]⟩ : ByteArray) 0 1 1 1 [r10, r12, r132] [r140] v126 v127 v128 v6 v129 v130 v131).bind fun r142 =>
    (api_givenOp 16 1 [r20, r22]).bind fun r144 =>
    (api_givenOp 3 1 [r144]).bind fun r146 =>
    (api_givenJump r136 r146).bind fun r148 =>
    (api_givenRisc_1 (⟨#[98, 110, 101]⟩ : ByteArray) 0 1 1 1 [r10, r12, r132] [r148] r142.2.1 r142.2.2.1 r142.2.2.2.1 v6 r142.2.2.2.2.1 r142.2.2.2.2.2 r142.1).bind fun r150 =>
    (api_givenOp 18 1 [r20, r22]).bind fun r152 =>
    (api_givenJump r136 r152).bind fun r154 =>
    (api_givenRisc_1 (⟨#[98, 108, 116]⟩ : ByteArray) 0 1 1 1 [r10, r12, r132] [r154] r150.2.1 r150.2.2.1 r150.2.2.2.1 v6 r150.2.2.2.2.1 r150.2.2.2.2.2 r150.1).bind fun r156 =>
    (api_givenJump r136 ((Term.mk 0 0 0 ⟨#[]⟩ 0 ([] : List Term)))).bind fun r158 =>
    (api_givenRisc_1 (⟨#[106, 117, 109, 112]⟩ : ByteArray) 0 1 1 1 [r134] [r158] r156.2.1 r156.2.2.1 r156.2.2.2.1 v6 r156.2.2.2.2.1 r156.2.2.2.2.2 r156.1).bind fun r160 =>
    (api_givenNum 32 8).bind fun r162 =>
    (api_givenOp 5 32 [r28, r162]).bind fun r164 =>
    (api_givenFixed 15 r164).bind fun r166 =>
    (api_givenJump r136 ((Term.mk 0 0 0 ⟨#[]⟩ 0 ([] : List Term)))).bind fun r168 =>
    (api_givenRisc_1 (⟨#[99, 97, 108, 108]⟩ : ByteArray) 0 1 1 1 [r134] [r166, r168] r160.2.1 r160.2.2.1 r160.2.2.2.1 v6 r160.2.2.2.2.1 r160.2.2.2.2.2 r160.1).bind fun r170 =>
    (api_givenJump r20 ((Term.mk 0 0 0 ⟨#[]⟩ 0 ([] : List Term)))).bind fun r172 =>
    (api_givenRisc_1 (⟨#[106, 114]⟩ : ByteArray) 0 1 1 1 [r10] [r172] r170.2.1 r170.2.2.1 r170.2.2.2.1 v6 r170.2.2.2.2.1 r170.2.2.2.2.2 r170.1).bind fun r174 =>
    (api_givenTrap r26).bind fun r176 =>
    (api_givenRisc_1 (⟨#[116, 114, 97, 112]⟩ : ByteArray) 0 1 1 0 [r16] [r176] r174.2.1 r174.2.2.1 r174.2.2.2.1 v6 r174.2.2.2.2.1 r174.2.2.2.2.2 r174.1).bind fun r178 =>
    (api_givenNum 1 1).bind fun r180 =>
    (api_givenOp 20 33 [r180, r20]).bind fun r182 =>
    (api_givenTrap r182).bind fun r184 =>
    (api_givenRisc_1 (⟨#[116, 101, 108, 108]⟩ : ByteArray) 0 1 1 0 [r10] [r184] r178.2.1 r178.2.2.1 r178.2.2.2.1 v6 r178.2.2.2.2.1 r178.2.2.2.2.2 r178.1).bind fun r186 =>
    (api_givenTrap r20).bind fun r188 =>
    (api_givenRisc_1 (⟨#[104, 97, 108, 116]⟩ : ByteArray) 0 1 1 0 [r10] [r188] r186.2.1 r186.2.2.1 r186.2.2.2.1 v6 r186.2.2.2.2.1 r186.2.2.2.2.2 r186.1).bind fun r190 =>
    (api_givenRisc_1 (⟨#[110, 111, 112]⟩ : ByteArray) 0 1 1 0 ([] : List MachOperand) ([] : List MachEffect) r190.2.1 r190.2.2.1 r190.2.2.2.1 v6 r190.2.2.2.2.1 r190.2.2.2.2.2 r190.1).bind fun r192 =>
    (api_givenSet 0 r26).bind fun r194 =>
    (api_givenRisc_1 (⟨#[108, 105]⟩ : ByteArray) 0 1 1 0 [r8, r14] [r194] r192.2.1 r192.2.2.1 r192.2.2.2.1 v6 r192.2.2.2.2.1 r192.2.2.2.2.2 r192.1).bind fun r196 =>
    some (Machine.mk r196.2.1 r196.2.2.1 r196.2.2.2.1 v6 r196.2.2.2.2.1 r196.2.2.2.2.2 r196.1)
def api_givenRisc_b6 (v6 : List MachReg) (r8 : MachOperand) (r10 : MachOperand) (r12 : MachOperand) (r20 : Term) (r22 : Term) (k5 : ByteArray × Int × Int × (List MachBank) × (List MachUnit) × (List MachInstr) → Option Machine) (rec6 : Int × ByteArray × Int × Int × (List MachBank) × (List MachUnit) × (List MachInstr) → Option Machine) : Int × ByteArray × Int × Int × (List MachBank) × (List MachUnit) × (List MachInstr) → Option Machine
  | (v198, v199, v200, v201, v202, v203, v204) =>
    bif decide (v198 < ([16, 17, 18].length : Int)) then
      (ix [16, 17, 18] v198).bind fun r206 =>
      (ix ([(⟨#[101, 113]⟩ : ByteArray), (⟨#[117, 108, 116]⟩ : ByteArray), (⟨#[115, 108, 116]⟩ : ByteArray)]) v198).bind fun r208 =>
      (api_givenOp r206 1 [r20, r22]).bind fun r210 =>
      (api_givenRisc_2 r210).bind fun r212 =>
      (api_givenSet 0 r212).bind fun r214 =>
      (api_givenRisc_1 r208 0 1 1 0 [r8, r10, r12] [r214] v199 v200 v201 v6 v202 v203 v204).bind fun r216 =>
      rec6 ((w64 (v198 + 1), r216.2.1, r216.2.2.1, r216.2.2.2.1, r216.2.2.2.2.1, r216.2.2.2.2.2, r216.1))
    else
      k5 (v199, v200, v201, v202, v203, v204)
def api_givenRisc_k4 (v6 : List MachReg) (r8 : MachOperand) (r10 : MachOperand) (r12 : MachOperand) (r14 : MachOperand) (r16 : MachOperand) (r20 : Term) (r22 : Term) (r24 : Term) (r26 : Term) (r28 : Term) (r30 : Term) : ByteArray × Int × Int × (List MachBank) × (List MachUnit) × (List MachInstr) → Option Machine
  | (v66, v67, v68, v69, v70, v71) =>
    (api_givenNum 32 16).bind fun r72 =>
    (api_givenOp 11 32 [r26, r72]).bind fun r74 =>
    (api_givenSet 0 r74).bind fun r76 =>
    (api_givenRisc_1 (⟨#[108, 117, 105]⟩ : ByteArray) 0 1 1 0 [r8, r16] [r76] v66 v67 v68 v6 v69 v70 v71).bind fun r78 =>
    (api_givenOp 24 32 [r30]).bind fun r80 =>
    (api_givenSet 0 r80).bind fun r82 =>
    (api_givenRisc_1 (⟨#[108, 119]⟩ : ByteArray) 1 1 2 0 [r8, r10, r14] [r82] r78.2.1 r78.2.2.1 r78.2.2.2.1 v6 r78.2.2.2.2.1 r78.2.2.2.2.2 r78.1).bind fun r84 =>
    (api_givenOp 24 8 [r30]).bind fun r86 =>
    (api_givenOp 23 32 [r86]).bind fun r88 =>
    (api_givenSet 0 r88).bind fun r90 =>
    (api_givenRisc_1 (⟨#[108, 98]⟩ : ByteArray) 1 1 2 0 [r8, r10, r14] [r90] r84.2.1 r84.2.2.1 r84.2.2.2.1 v6 r84.2.2.2.2.1 r84.2.2.2.2.2 r84.1).bind fun r92 =>
    (api_givenOp 24 8 [r30]).bind fun r94 =>
    (api_givenRisc_2 r94).bind fun r96 =>
    (api_givenSet 0 r96).bind fun r98 =>
    (api_givenRisc_1 (⟨#[108, 98, 117]⟩ : ByteArray) 1 1 2 0 [r8, r10, r14] [r98] r92.2.1 r92.2.2.1 r92.2.2.2.1 v6 r92.2.2.2.2.1 r92.2.2.2.2.2 r92.1).bind fun r100 =>
    (api_givenOp 24 16 [r30]).bind fun r102 =>
    (api_givenRisc_2 r102).bind fun r104 =>
    (api_givenSet 0 r104).bind fun r106 =>
    (api_givenRisc_1 (⟨#[108, 104, 117]⟩ : ByteArray) 1 1 2 0 [r8, r10, r14] [r106] r100.2.1 r100.2.2.1 r100.2.2.2.1 v6 r100.2.2.2.2.1 r100.2.2.2.2.2 r100.1).bind fun r108 =>
    (api_givenStore r30 r24).bind fun r110 =>
    (api_givenRisc_1 (⟨#[115, 119]⟩ : ByteArray) 1 1 1 0 [r8, r10, r14] [r110] r108.2.1 r108.2.2.1 r108.2.2.2.1 v6 r108.2.2.2.2.1 r108.2.2.2.2.2 r108.1).bind fun r112 =>
    (api_givenOp 21 16 [r24]).bind fun r114 =>
    (api_givenStore r30 r114).bind fun r116 =>
    (api_givenRisc_1 (⟨#[115, 104]⟩ : ByteArray) 1 1 1 0 [r8, r10, r14] [r116] r112.2.1 r112.2.2.1 r112.2.2.2.1 v6 r112.2.2.2.2.1 r112.2.2.2.2.2 r112.1).bind fun r118 =>
    (api_givenOp 21 8 [r24]).bind fun r120 =>
    (api_givenStore r30 r120).bind fun r122 =>
    (api_givenRisc_1 (⟨#[115, 98]⟩ : ByteArray) 1 1 1 0 [r8, r10, r14] [r122] r118.2.1 r118.2.2.1 r118.2.2.2.1 v6 r118.2.2.2.2.1 r118.2.2.2.2.2 r118.1).bind fun r124 =>
    jn (api_givenRisc_k5 v6 r8 r10 r12 r14 r16 r20 r22 r26 r28) fun k5 =>
    lp (api_givenRisc_b6 v6 r8 r10 r12 r20 r22 k5) ([16, 17, 18].length + 1) (0, r124.2.1, r124.2.2.1, r124.2.2.2.1, r124.2.2.2.2.1, r124.2.2.2.2.2, r124.1)
def api_givenRisc_b7 (v6 : List MachReg) (r8 : MachOperand) (r10 : MachOperand) (r18 : MachOperand) (r20 : Term) (r26 : Term) (k4 : ByteArray × Int × Int × (List MachBank) × (List MachUnit) × (List MachInstr) → Option Machine) (rec7 : Int × ByteArray × Int × Int × (List MachBank) × (List MachUnit) × (List MachInstr) → Option Machine) : Int × ByteArray × Int × Int × (List MachBank) × (List MachUnit) × (List MachInstr) → Option Machine
  | (v218, v219, v220, v221, v222, v223, v224) =>
    bif decide (v218 < ([11, 12, 13].length : Int)) then
      (ix [11, 12, 13] v218).bind fun r226 =>
      (ix ([(⟨#[115, 104, 108, 105]⟩ : ByteArray), (⟨#[115, 104, 114, 105]⟩ : ByteArray), (⟨#[115, 97, 114, 105]⟩ : ByteArray)]) v218).bind fun r228 =>
      (api_givenOp r226 32 [r20, r26]).bind fun r230 =>
      (api_givenSet 0 r230).bind fun r232 =>
      (api_givenRisc_1 r228 0 1 1 0 [r8, r10, r18] [r232] v219 v220 v221 v6 v222 v223 v224).bind fun r234 =>
      rec7 ((w64 (v218 + 1), r234.2.1, r234.2.2.1, r234.2.2.2.1, r234.2.2.2.2.1, r234.2.2.2.2.2, r234.1))
    else
      k4 (v219, v220, v221, v222, v223, v224)
def api_givenRisc_k3 (v6 : List MachReg) (r8 : MachOperand) (r10 : MachOperand) (r12 : MachOperand) (r14 : MachOperand) (r16 : MachOperand) (r18 : MachOperand) (r20 : Term) (r22 : Term) (r24 : Term) (r26 : Term) (r28 : Term) (r30 : Term) : ByteArray × Int × Int × (List MachBank) × (List MachUnit) × (List MachInstr) → Option Machine
  | (v60, v61, v62, v63, v64, v65) =>
    jn (api_givenRisc_k4 v6 r8 r10 r12 r14 r16 r20 r22 r24 r26 r28 r30) fun k4 =>
    lp (api_givenRisc_b7 v6 r8 r10 r18 r20 r26 k4) ([11, 12, 13].length + 1) (0, v60, v61, v62, v63, v64, v65)
def api_givenRisc_b8 (v6 : List MachReg) (r8 : MachOperand) (r10 : MachOperand) (r16 : MachOperand) (r20 : Term) (r26 : Term) (k3 : ByteArray × Int × Int × (List MachBank) × (List MachUnit) × (List MachInstr) → Option Machine) (rec8 : Int × ByteArray × Int × Int × (List MachBank) × (List MachUnit) × (List MachInstr) → Option Machine) : Int × ByteArray × Int × Int × (List MachBank) × (List MachUnit) × (List MachInstr) → Option Machine
  | (v236, v237, v238, v239, v240, v241, v242) =>
    bif decide (v236 < ([8, 9, 10].length : Int)) then
      (ix [8, 9, 10] v236).bind fun r244 =>
      (ix ([(⟨#[97, 110, 100, 105]⟩ : ByteArray), (⟨#[111, 114, 105]⟩ : ByteArray), (⟨#[120, 111, 114, 105]⟩ : ByteArray)]) v236).bind fun r246 =>
      (api_givenOp r244 32 [r20, r26]).bind fun r248 =>
      (api_givenSet 0 r248).bind fun r250 =>
      (api_givenRisc_1 r246 0 1 1 0 [r8, r10, r16] [r250] v237 v238 v239 v6 v240 v241 v242).bind fun r252 =>
      rec8 ((w64 (v236 + 1), r252.2.1, r252.2.2.1, r252.2.2.2.1, r252.2.2.2.2.1, r252.2.2.2.2.2, r252.1))
    else
      k3 (v237, v238, v239, v240, v241, v242)
def api_givenRisc_k2 (v6 : List MachReg) (r8 : MachOperand) (r10 : MachOperand) (r12 : MachOperand) (r14 : MachOperand) (r16 : MachOperand) (r18 : MachOperand) (r20 : Term) (r22 : Term) (r24 : Term) (r26 : Term) (r28 : Term) (r30 : Term) : ByteArray × Int × Int × (List MachBank) × (List MachUnit) × (List MachInstr) → Option Machine
  | (v32, v33, v34, v35, v36, v37) =>
    (api_givenOp 7 32 [r20, r22]).bind fun r38 =>
    (api_givenSet 0 r38).bind fun r40 =>
    (api_givenRisc_1 (⟨#[109, 117, 108]⟩ : ByteArray) 2 1 4 0 [r8, r10, r12] [r40] v32 v33 v34 v6 v35 v36 v37).bind fun r42 =>
    (api_givenOp 14 32 [r20, r22]).bind fun r44 =>
    (api_givenSet 0 r44).bind fun r46 =>
    (api_givenRisc_1 (⟨#[117, 100, 105, 118]⟩ : ByteArray) 2 8 8 0 [r8, r10, r12] [r46] r42.2.1 r42.2.2.1 r42.2.2.2.1 v6 r42.2.2.2.2.1 r42.2.2.2.2.2 r42.1).bind fun r48 =>
    (api_givenOp 15 32 [r20, r22]).bind fun r50 =>
    (api_givenSet 0 r50).bind fun r52 =>
    (api_givenRisc_1 (⟨#[117, 114, 101, 109]⟩ : ByteArray) 2 8 8 0 [r8, r10, r12] [r52] r48.2.1 r48.2.2.1 r48.2.2.2.1 v6 r48.2.2.2.2.1 r48.2.2.2.2.2 r48.1).bind fun r54 =>
    (api_givenSet 0 r30).bind fun r56 =>
    (api_givenRisc_1 (⟨#[97, 100, 100, 105]⟩ : ByteArray) 0 1 1 0 [r8, r10, r14] [r56] r54.2.1 r54.2.2.1 r54.2.2.2.1 v6 r54.2.2.2.2.1 r54.2.2.2.2.2 r54.1).bind fun r58 =>
    jn (api_givenRisc_k3 v6 r8 r10 r12 r14 r16 r18 r20 r22 r24 r26 r28 r30) fun k3 =>
    lp (api_givenRisc_b8 v6 r8 r10 r16 r20 r26 k3) ([8, 9, 10].length + 1) (0, r58.2.1, r58.2.2.1, r58.2.2.2.1, r58.2.2.2.2.1, r58.2.2.2.2.2, r58.1)
def api_givenRisc_b9 (v6 : List MachReg) (r8 : MachOperand) (r10 : MachOperand) (r12 : MachOperand) (r20 : Term) (r22 : Term) (k2 : ByteArray × Int × Int × (List MachBank) × (List MachUnit) × (List MachInstr) → Option Machine) (rec9 : Int × ByteArray × Int × Int × (List MachBank) × (List MachUnit) × (List MachInstr) → Option Machine) : Int × ByteArray × Int × Int × (List MachBank) × (List MachUnit) × (List MachInstr) → Option Machine
  | (v254, v255, v256, v257, v258, v259, v260) =>
    bif decide (v254 < ([5, 6, 8, 9, 10, 11, 12, 13].length : Int)) then
      (ix [5, 6, 8, 9, 10, 11, 12, 13] v254).bind fun r262 =>
      (ix ([(⟨#[97, 100, 100]⟩ : ByteArray), (⟨#[115, 117, 98]⟩ : ByteArray), (⟨#[97, 110, 100]⟩ : ByteArray), (⟨#[111, 114]⟩ : ByteArray), (⟨#[120, 111, 114]⟩ : ByteArray), (⟨#[115, 104, 108]⟩ : ByteArray), (⟨#[115, 104, 114]⟩ : ByteArray), (⟨#[115, 97, 114]⟩ : ByteArray)]) v254).bind fun r264 =>
      (api_givenOp r262 32 [r20, r22]).bind fun r266 =>
      (api_givenSet 0 r266).bind fun r268 =>
      (api_givenRisc_1 r264 0 1 1 0 [r8, r10, r12] [r268] v255 v256 v257 v6 v258 v259 v260).bind fun r270 =>
      rec9 ((w64 (v254 + 1), r270.2.1, r270.2.2.1, r270.2.2.2.1, r270.2.2.2.2.1, r270.2.2.2.2.2, r270.1))
    else
      k2 (v255, v256, v257, v258, v259, v260)
def api_givenRisc_k1 : ByteArray × Int × Int × (List MachUnit) × ByteArray × (List MachReg) × (List Int) → Option Machine
  | (v1, v2, v3, v4, v5, v6, v7) =>
    (api_givenField (⟨#[100]⟩ : ByteArray) 1 0 0 [(MachPiece.mk 22 4)]).bind fun r8 =>
    (api_givenField (⟨#[97]⟩ : ByteArray) 1 0 0 [(MachPiece.mk 18 4)]).bind fun r10 =>
    (api_givenField (⟨#[98]⟩ : ByteArray) 1 0 0 [(MachPiece.mk 14 4)]).bind fun r12 =>
    (api_givenField (⟨#[110]⟩ : ByteArray) 2 0 0 [(MachPiece.mk 0 16)]).bind fun r14 =>
    (api_givenField (⟨#[110]⟩ : ByteArray) 3 0 0 [(MachPiece.mk 0 16)]).bind fun r16 =>
    (api_givenField (⟨#[110]⟩ : ByteArray) 3 0 0 [(MachPiece.mk 0 5)]).bind fun r18 =>
    (api_givenVar (⟨#[97]⟩ : ByteArray) 32).bind fun r20 =>
    (api_givenVar (⟨#[98]⟩ : ByteArray) 32).bind fun r22 =>
    (api_givenVar (⟨#[100]⟩ : ByteArray) 32).bind fun r24 =>
    (api_givenVar (⟨#[110]⟩ : ByteArray) 32).bind fun r26 =>
    (api_givenVar (⟨#[112, 99]⟩ : ByteArray) 32).bind fun r28 =>
    (api_givenOp 5 32 [r20, r26]).bind fun r30 =>
    jn (api_givenRisc_k2 v6 r8 r10 r12 r14 r16 r18 r20 r22 r24 r26 r28 r30) fun k2 =>
    lp (api_givenRisc_b9 v6 r8 r10 r12 r20 r22 k2) ([5, 6, 8, 9, 10, 11, 12, 13].length + 1) ((0, v1, v2, v3, [(MachBank.mk v5 v7)], v4, ([] : List MachInstr)))
def api_givenRisc_b10 (k1 : ByteArray × Int × Int × (List MachUnit) × ByteArray × (List MachReg) × (List Int) → Option Machine) (r272 : (List ByteArray)) (rec10 : Int × ByteArray × Int × Int × (List MachUnit) × ByteArray × (List MachReg) × (List Int) → Option Machine) : Int × ByteArray × Int × Int × (List MachUnit) × ByteArray × (List MachReg) × (List Int) → Option Machine
  | (v275, v276, v277, v278, v279, v280, v281, v282) =>
    bif decide (v275 < (((r272 ++ [(⟨#[115, 112]⟩ : ByteArray), (⟨#[108, 114]⟩ : ByteArray)]).length : Int))) then
      (ix (r272 ++ [(⟨#[115, 112]⟩ : ByteArray), (⟨#[108, 114]⟩ : ByteArray)]) v275).bind fun r284 =>
      asr (roomy (v281.length + [(MachReg.mk r284 32 (-1) 0)].length) 40) <|
      asr (roomy (v282.length + [v275].length) 8) <|
      rec10 ((w64 (v275 + 1), v276, v277, v278, v279, v280, v281 ++ [(MachReg.mk r284 32 (-1) 0)], v282 ++ [v275]))
    else
      k1 (v276, v277, v278, v279, v280, v281, v282)
def api_givenRisc : Option Machine :=
  jn api_givenRisc_k1 fun k1 =>
  (api_givenNames (⟨#[114]⟩ : ByteArray) 14).bind fun r272 =>
  asr (roomy (r272.length + ([(⟨#[115, 112]⟩ : ByteArray), (⟨#[108, 114]⟩ : ByteArray)]).length) 16) <|
  lp (api_givenRisc_b10 k1 r272) ((r272 ++ [(⟨#[115, 112]⟩ : ByteArray), (⟨#[108, 114]⟩ : ByteArray)]).length + 1) ((0, (⟨#[114, 105, 115, 99]⟩ : ByteArray), 4, 32, [(MachUnit.mk (⟨#[97, 108, 117]⟩ : ByteArray) 1), (MachUnit.mk (⟨#[109, 101, 109]⟩ : ByteArray) 1), (MachUnit.mk (⟨#[109, 117, 108]⟩ : ByteArray) 1)], (⟨#[103, 112, 114]⟩ : ByteArray), ([] : List MachReg), ([] : List Int)))
theorem api_givenRisc_ok {R : Machine} (H : api_givenRisc = some R) : FnOk Tryz.prog K0 25 [] [] (aA (encMachine R)) [] := by
  refine fn_w (nt := 449) (np := 0) Tryz.func25 z z (by simp) (np_of2 z) <| ?_
  unfold api_givenRisc at H
  refine sgr z <| lh (p_al 0 zr_27 z) z <| ne <| sgr z <| l (p_bd (cs := (encMachUnit ((MachUnit.mk (⟨#[97, 108, 117]⟩ : ByteArray) 1))).map .data) pl_92 zr_92 z ⟨q, ⟨q, q⟩⟩ z) z <| l (p_bd (cs := (encMachUnit ((MachUnit.mk (⟨#[109, 101, 109]⟩ : ByteArray) 1))).map .data) pl_92 zr_92 z ⟨q, ⟨q, q⟩⟩ z) z <| l (p_bd (cs := (encMachUnit ((MachUnit.mk (⟨#[109, 117, 108]⟩ : ByteArray) 1))).map .data) pl_92 zr_92 z ⟨q, ⟨q, q⟩⟩ z) z <| l (p_bs (f := encMachUnit) [.tmp 31, .tmp 32, .tmp 33] [(MachUnit.mk (⟨#[97, 108, 117]⟩ : ByteArray) 1), (MachUnit.mk (⟨#[109, 101, 109]⟩ : ByteArray) 1), (MachUnit.mk (⟨#[109, 117, 108]⟩ : ByteArray) 1)] Tryz.underlying24 ty_92.size zr_92 z z z z (el1 (.agg _) z (el1 (.agg _) z (el1 (.agg _) z el0))) z) z <| l (p_bd (cs := [(aS (⟨#[114, 105, 115, 99]⟩ : ByteArray)), (aN .i64 4), (aN .i64 32), aNil, aNil, (aL 2 encMachUnit ([(MachUnit.mk (⟨#[97, 108, 117]⟩ : ByteArray) 1), (MachUnit.mk (⟨#[109, 101, 109]⟩ : ByteArray) 1), (MachUnit.mk (⟨#[109, 117, 108]⟩ : ByteArray) 1)])), aNil]) pl_27 zr_27 z ⟨q, ⟨q, ⟨q, ⟨q, q⟩⟩⟩⟩ z) z <| lh (p_al 1 zr_27 z) z <| l0h (p_stA (ds := [(aS (⟨#[114, 105, 115, 99]⟩ : ByteArray)), (aN .i64 4), (aN .i64 32), aNil, aNil, (aL 2 encMachUnit ([(MachUnit.mk (⟨#[97, 108, 117]⟩ : ByteArray) 1), (MachUnit.mk (⟨#[109, 101, 109]⟩ : ByteArray) 1), (MachUnit.mk (⟨#[109, 117, 108]⟩ : ByteArray) 1)])), aNil]) ty_27 z z z z z z) <| ne <| sgr z <| l (p_bd (cs := [(aS (⟨#[103, 112, 114]⟩ : ByteArray)), aNil]) pl_97 zr_97 z ⟨q, q⟩ z) z <| lh (p_al 2 zr_97 z) z <| l0h (p_stA (ds := [(aS (⟨#[103, 112, 114]⟩ : ByteArray)), aNil]) ty_97 z z z z z z) <| ne <| ?_
  refine w_jn7 H (fun v1 v2 v3 v4 v5 v6 v7 => ⟨[(0, (.ptr 0 0)), (1, (.ptr 1 0)), (2, (.ptr 2 0))], [(0, (oC 27 [(aS ⟨#[]⟩), (aN .i64 0), (aN .i64 0), aNil, aNil, aNil, aNil])), (1, (oC 27 [(aS v1), (aN .i64 v2), (aN .i64 v3), (.row 9), aNil, (aL 2 encMachUnit v4), aNil])), (2, (oC 97 [(aS v5), (.row 10)])), (9, (oR 100 4 encMachReg v6)), (10, (oR 3 1 (eN .i64) v7))]⟩) ?_ ?_
  · intro v1 v2 v3 v4 v5 v6 v7 H
    rw [api_givenRisc_k1] at H
    refine sgr z <| wl_ent (fzc (j := 2) (i := 1) z z z z (fun _ => z)) <| l (p_ldB (ds := (encMachBank (MachBank.mk v5 v7)).map .data) ty_97 z z z z) z <| l (p_bs (f := encMachBank) [.tmp 60] [(MachBank.mk v5 v7)] Tryz.underlying23 ty_97.size zr_97 z z z z (el1 (.agg _) z el0) z) z <| l (p_fd fld_27_4 z) z <| l0h (p_st ty_23 z z z q z z) <| ne <| sgr z <| wl_ent (nrc (j := 1) (i := 6) (f := encMachInstr) (sz := 9) (e := 61) 11 z z z) <| l (p_mf z z) z <| la z z <| ne <| sgr z <| l (p_bd (cs := (encMachPiece (MachPiece.mk 22 4)).map .data) pl_110 zr_110 z ⟨q, ⟨q, q⟩⟩ z) z <| l (p_bs (f := encMachPiece) [.tmp 64] [(MachPiece.mk 22 4)] Tryz.underlying105 ty_110.size zr_110 z z z z (el1 (.agg _) z el0) z) z <| ?_
    obtain ⟨r8, e9, H⟩ := ob H
    refine l (p_c (api_givenField_ok e9) ent_48 z z z) z <| l (p_bd (cs := (encMachPiece (MachPiece.mk 18 4)).map .data) pl_110 zr_110 z ⟨q, ⟨q, q⟩⟩ z) z <| l (p_bs (f := encMachPiece) [.tmp 67] [(MachPiece.mk 18 4)] Tryz.underlying105 ty_110.size zr_110 z z z z (el1 (.agg _) z el0) z) z <| ?_
    obtain ⟨r10, e11, H⟩ := ob H
    refine l (p_c (api_givenField_ok e11) ent_48 z z z) z <| l (p_bd (cs := (encMachPiece (MachPiece.mk 14 4)).map .data) pl_110 zr_110 z ⟨q, ⟨q, q⟩⟩ z) z <| l (p_bs (f := encMachPiece) [.tmp 70] [(MachPiece.mk 14 4)] Tryz.underlying105 ty_110.size zr_110 z z z z (el1 (.agg _) z el0) z) z <| ?_
    obtain ⟨r12, e13, H⟩ := ob H
    refine l (p_c (api_givenField_ok e13) ent_48 z z z) z <| lh (p_al 12 zr_107 z) z <| lh (p_al 13 zr_107 z) z <| lh (p_al 14 zr_107 z) z <| l0h (p_stA (ds := (encMachOperand r8).map .data) ty_107 z z z z z z) <| l0h (p_stA (ds := (encMachOperand r10).map .data) ty_107 z z z z z z) <| l0h (p_stA (ds := (encMachOperand r12).map .data) ty_107 z z z z z z) <| ne <| sgr z <| l (p_bd (cs := (encMachPiece (MachPiece.mk 0 16)).map .data) pl_110 zr_110 z ⟨q, ⟨q, q⟩⟩ z) z <| l (p_bs (f := encMachPiece) [.tmp 73] [(MachPiece.mk 0 16)] Tryz.underlying105 ty_110.size zr_110 z z z z (el1 (.agg _) z el0) z) z <| ?_
    obtain ⟨r14, e15, H⟩ := ob H
    refine l (p_c (api_givenField_ok e15) ent_48 z z z) z <| l (p_bd (cs := (encMachPiece (MachPiece.mk 0 16)).map .data) pl_110 zr_110 z ⟨q, ⟨q, q⟩⟩ z) z <| l (p_bs (f := encMachPiece) [.tmp 76] [(MachPiece.mk 0 16)] Tryz.underlying105 ty_110.size zr_110 z z z z (el1 (.agg _) z el0) z) z <| ?_
    obtain ⟨r16, e17, H⟩ := ob H
    refine l (p_c (api_givenField_ok e17) ent_48 z z z) z <| l (p_bd (cs := (encMachPiece (MachPiece.mk 0 5)).map .data) pl_110 zr_110 z ⟨q, ⟨q, q⟩⟩ z) z <| l (p_bs (f := encMachPiece) [.tmp 79] [(MachPiece.mk 0 5)] Tryz.underlying105 ty_110.size zr_110 z z z z (el1 (.agg _) z el0) z) z <| ?_
    obtain ⟨r18, e19, H⟩ := ob H
    refine l (p_c (api_givenField_ok e19) ent_48 z z z) z <| lh (p_al 15 zr_107 z) z <| lh (p_al 16 zr_107 z) z <| lh (p_al 17 zr_107 z) z <| l0h (p_stA (ds := (encMachOperand r14).map .data) ty_107 z z z z z z) <| l0h (p_stA (ds := (encMachOperand r16).map .data) ty_107 z z z z z z) <| l0h (p_stA (ds := (encMachOperand r18).map .data) ty_107 z z z z z z) <| ne <| sgr z <| ?_
    obtain ⟨r20, e21, H⟩ := ob H
    refine l (p_c (api_givenVar_ok e21) ent_49 z z z) z <| ?_
    obtain ⟨r22, e23, H⟩ := ob H
    refine l (p_c (api_givenVar_ok e23) ent_49 z z z) z <| ?_
    obtain ⟨r24, e25, H⟩ := ob H
    refine l (p_c (api_givenVar_ok e25) ent_49 z z z) z <| ?_
    obtain ⟨r26, e27, H⟩ := ob H
    refine l (p_c (api_givenVar_ok e27) ent_49 z z z) z <| ?_
    obtain ⟨r28, e29, H⟩ := ob H
    refine l (p_c (api_givenVar_ok e29) ent_49 z z z) z <| lh (p_al 18 zr_114 z) z <| lh (p_al 19 zr_114 z) z <| lh (p_al 20 zr_114 z) z <| lh (p_al 21 zr_114 z) z <| lh (p_al 22 zr_114 z) z <| l0h (p_stA (ds := (encTermX r20).map .data) ty_114 z z z z z z) <| l0h (p_stA (ds := (encTermX r22).map .data) ty_114 z z z z z z) <| l0h (p_stA (ds := (encTermX r24).map .data) ty_114 z z z z z z) <| l0h (p_stA (ds := (encTermX r26).map .data) ty_114 z z z z z z) <| l0h (p_stA (ds := (encTermX r28).map .data) ty_114 z z z z z z) <| ne <| sgr z <| l (p_ldB (ds := (encTermX r20).map .data) ty_114 z z z z) z <| l (p_ldB (ds := (encTermX r26).map .data) ty_114 z z z z) z <| l (p_bs (f := encTerm) [.tmp 87, .tmp 88] [r20, r26] Tryz.underlying112 ty_114.size zr_114 z z z z (el1X (encTerm_X _) (.agg _) z (el1X (encTerm_X _) (.agg _) z el0)) z) z <| ?_
    obtain ⟨r30, e31, H⟩ := ob H
    refine l (p_c (api_givenOp_ok e31) ent_51 z z z) z <| lh (p_al 23 zr_114 z) z <| l0h (p_stA (ds := (encTermX r30).map .data) ty_114 z z z z z z) <| ne <| sgr z <| la z z <| ne <| sgr z <| l (p_bs (f := eS) [.const (Value.string {data := #[97, 100, 100]}), .const (Value.string {data := #[115, 117, 98]}), .const (Value.string {data := #[97, 110, 100]}), .const (Value.string {data := #[111, 114]}), .const (Value.string {data := #[120, 111, 114]}), .const (Value.string {data := #[115, 104, 108]}), .const (Value.string {data := #[115, 104, 114]}), .const (Value.string {data := #[115, 97, 114]})] [(⟨#[97, 100, 100]⟩ : ByteArray), (⟨#[115, 117, 98]⟩ : ByteArray), (⟨#[97, 110, 100]⟩ : ByteArray), (⟨#[111, 114]⟩ : ByteArray), (⟨#[120, 111, 114]⟩ : ByteArray), (⟨#[115, 104, 108]⟩ : ByteArray), (⟨#[115, 104, 114]⟩ : ByteArray), (⟨#[115, 97, 114]⟩ : ByteArray)] Tryz.underlying98 ty_9.size zr_9 z z z z (el1 (.one _) z (el1 (.one _) z (el1 (.one _) z (el1 (.one _) z (el1 (.one _) z (el1 (.one _) z (el1 (.one _) z (el1 (.one _) z el0)))))))) z) z <| la z z <| ne <| ?_
    refine w_jn6 H (fun v32 v33 v34 v35 v36 v37 => ⟨[(0, (.ptr 0 0)), (1, (.ptr 1 0)), (5, (.fn (.func 58) [] [(.ptr 1 0)])), (6, (.ptr 12 0)), (7, (.ptr 13 0)), (8, (.ptr 14 0)), (9, (.ptr 15 0)), (10, (.ptr 16 0)), (11, (.ptr 17 0)), (12, (.ptr 18 0)), (13, (.ptr 19 0)), (14, (.ptr 20 0)), (15, (.ptr 21 0)), (16, (.ptr 22 0)), (17, (.ptr 23 0)), (18, (.fn (.func 59) [] []))], [(0, (oC 27 [(aS ⟨#[]⟩), (aN .i64 0), (aN .i64 0), aNil, aNil, aNil, aNil])), (1, (oC 27 [(aS v32), (aN .i64 v33), (aN .i64 v34), (.row 9), (aL 2 encMachBank v35), (aL 2 encMachUnit v36), (.row 11)])), (9, (oR 100 4 encMachReg v6)), (11, (oR 61 9 encMachInstr v37)), (12, (oD 107 (encMachOperand r8))), (13, (oD 107 (encMachOperand r10))), (14, (oD 107 (encMachOperand r12))), (15, (oD 107 (encMachOperand r14))), (16, (oD 107 (encMachOperand r16))), (17, (oD 107 (encMachOperand r18))), (18, (oD 114 (encTermX r20))), (19, (oD 114 (encTermX r22))), (20, (oD 114 (encTermX r24))), (21, (oD 114 (encTermX r26))), (22, (oD 114 (encTermX r28))), (23, (oD 114 (encTermX r30)))]⟩) ?_ ?_
    · intro v32 v33 v34 v35 v36 v37 H
      rw [api_givenRisc_k2] at H
      refine wc_seq <| wc_draw [0, 0, 0, 0, 14, 0, 0, 96, 224, 480, 992, 2047] mixed z <| dm z z <| dr (p_ldB (ds := (encMachOperand r8).map .data) ty_107 z z z z) z <| dr (p_ldB (ds := (encMachOperand r10).map .data) ty_107 z z z z) z <| dr (p_ldB (ds := (encMachOperand r12).map .data) ty_107 z z z z) z <| dr (p_bs (f := encMachOperand) [.tmp 118, .tmp 119, .tmp 120] [r8, r10, r12] Tryz.underlying58 ty_107.size zr_107 z z z z (el1 (.agg _) z (el1 (.agg _) z (el1 (.agg _) z el0))) z) z <| dr (p_ldB (ds := (encTermX r20).map .data) ty_114 z z z z) z <| dr (p_ldB (ds := (encTermX r22).map .data) ty_114 z z z z) z <| dr (p_bs (f := encTerm) [.tmp 122, .tmp 123] [r20, r22] Tryz.underlying112 ty_114.size zr_114 z z z z (el1X (encTerm_X _) (.agg _) z (el1X (encTerm_X _) (.agg _) z el0)) z) z <| ?_
      obtain ⟨r38, e39, H⟩ := ob H
      refine dr (p_c (api_givenOp_ok e39) ent_51 z z z) z <| ?_
      obtain ⟨r40, e41, H⟩ := ob H
      refine dr (p_c (api_givenSet_ok e41) ent_50 z z z) z <| dr (p_bs (f := encMachEffect) [.tmp 126] [r40] Tryz.underlying59 ty_118.size zr_118 z z z z (el1 (.agg _) z el0) z) z <| ?_
      obtain ⟨r42, e43, H⟩ := ob H
      refine drh (p_cw (ids := [1, 9, 11, 25]) (api_givenRisc_1_ok e43) ent_58 z z z (rc z z (rc z rm (rc z rm (rc z z rn)))) (rc z z (rc z rm (rc z z (rc z rm rn)))) z ⟨z, ⟨z, ⟨z, ⟨z, q⟩⟩⟩⟩ (by decide) z z z (oc z (oc om (oc om (oc z on)))) (oc z (oc om (oc z (oc om on)))) z) z <| ?_
      refine wd_nil ?_ (by kernel_rfl)
      refine e_n <| wc_seq <| wc_draw [0, 0, 0, 0, 14, 0, 0, 96, 224, 480, 992, 2047] mixed z <| dm z z <| dr (p_ldB (ds := (encMachOperand r8).map .data) ty_107 z z z z) z <| dr (p_ldB (ds := (encMachOperand r10).map .data) ty_107 z z z z) z <| dr (p_ldB (ds := (encMachOperand r12).map .data) ty_107 z z z z) z <| dr (p_bs (f := encMachOperand) [.tmp 130, .tmp 131, .tmp 132] [r8, r10, r12] Tryz.underlying58 ty_107.size zr_107 z z z z (el1 (.agg _) z (el1 (.agg _) z (el1 (.agg _) z el0))) z) z <| dr (p_ldB (ds := (encTermX r20).map .data) ty_114 z z z z) z <| dr (p_ldB (ds := (encTermX r22).map .data) ty_114 z z z z) z <| dr (p_bs (f := encTerm) [.tmp 134, .tmp 135] [r20, r22] Tryz.underlying112 ty_114.size zr_114 z z z z (el1X (encTerm_X _) (.agg _) z (el1X (encTerm_X _) (.agg _) z el0)) z) z <| ?_
      obtain ⟨r44, e45, H⟩ := ob H
      refine dr (p_c (api_givenOp_ok e45) ent_51 z z z) z <| ?_
      obtain ⟨r46, e47, H⟩ := ob H
      refine dr (p_c (api_givenSet_ok e47) ent_50 z z z) z <| dr (p_bs (f := encMachEffect) [.tmp 138] [r46] Tryz.underlying59 ty_118.size zr_118 z z z z (el1 (.agg _) z el0) z) z <| ?_
      obtain ⟨r48, e49, H⟩ := ob H
      refine drh (p_cw (ids := [1, 9, 25, 26]) (api_givenRisc_1_ok e49) ent_58 z z z (rc z z (rc z rm (rc z rm (rc z z rn)))) (rc z z (rc z rm (rc z z (rc z rm rn)))) z ⟨z, ⟨z, ⟨z, ⟨z, q⟩⟩⟩⟩ (by decide) z z z (oc z (oc om (oc om (oc z on)))) (oc z (oc om (oc z (oc om on)))) z) z <| ?_
      refine wd_nil ?_ (by kernel_rfl)
      refine e_n <| wc_seq <| wc_draw [0, 0, 0, 0, 14, 0, 0, 96, 224, 480, 992, 2047] mixed z <| dm z z <| dr (p_ldB (ds := (encMachOperand r8).map .data) ty_107 z z z z) z <| dr (p_ldB (ds := (encMachOperand r10).map .data) ty_107 z z z z) z <| dr (p_ldB (ds := (encMachOperand r12).map .data) ty_107 z z z z) z <| dr (p_bs (f := encMachOperand) [.tmp 142, .tmp 143, .tmp 144] [r8, r10, r12] Tryz.underlying58 ty_107.size zr_107 z z z z (el1 (.agg _) z (el1 (.agg _) z (el1 (.agg _) z el0))) z) z <| dr (p_ldB (ds := (encTermX r20).map .data) ty_114 z z z z) z <| dr (p_ldB (ds := (encTermX r22).map .data) ty_114 z z z z) z <| dr (p_bs (f := encTerm) [.tmp 146, .tmp 147] [r20, r22] Tryz.underlying112 ty_114.size zr_114 z z z z (el1X (encTerm_X _) (.agg _) z (el1X (encTerm_X _) (.agg _) z el0)) z) z <| ?_
      obtain ⟨r50, e51, H⟩ := ob H
      refine dr (p_c (api_givenOp_ok e51) ent_51 z z z) z <| ?_
      obtain ⟨r52, e53, H⟩ := ob H
      refine dr (p_c (api_givenSet_ok e53) ent_50 z z z) z <| dr (p_bs (f := encMachEffect) [.tmp 150] [r52] Tryz.underlying59 ty_118.size zr_118 z z z z (el1 (.agg _) z el0) z) z <| ?_
      obtain ⟨r54, e55, H⟩ := ob H
      refine drh (p_cw (ids := [1, 9, 26, 27]) (api_givenRisc_1_ok e55) ent_58 z z z (rc z z (rc z rm (rc z rm (rc z z rn)))) (rc z z (rc z rm (rc z z (rc z rm rn)))) z ⟨z, ⟨z, ⟨z, ⟨z, q⟩⟩⟩⟩ (by decide) z z z (oc z (oc om (oc om (oc z on)))) (oc z (oc om (oc z (oc om on)))) z) z <| ?_
      refine wd_nil ?_ (by kernel_rfl)
      refine e_n <| wc_seq <| wc_draw [0, 0, 0, 0, 14, 0, 32, 96, 255] mixed z <| dm z z <| dr (p_ldB (ds := (encMachOperand r8).map .data) ty_107 z z z z) z <| dr (p_ldB (ds := (encMachOperand r10).map .data) ty_107 z z z z) z <| dr (p_ldB (ds := (encMachOperand r14).map .data) ty_107 z z z z) z <| dr (p_bs (f := encMachOperand) [.tmp 154, .tmp 155, .tmp 156] [r8, r10, r14] Tryz.underlying58 ty_107.size zr_107 z z z z (el1 (.agg _) z (el1 (.agg _) z (el1 (.agg _) z el0))) z) z <| dr (p_ldB (ds := (encTermX r30).map .data) ty_114 z z z z) z <| ?_
      obtain ⟨r56, e57, H⟩ := ob H
      refine dr (p_c (api_givenSet_ok e57) ent_50 z z z) z <| dr (p_bs (f := encMachEffect) [.tmp 159] [r56] Tryz.underlying59 ty_118.size zr_118 z z z z (el1 (.agg _) z el0) z) z <| ?_
      obtain ⟨r58, e59, H⟩ := ob H
      refine drh (p_cw (ids := [1, 9, 27, 28]) (api_givenRisc_1_ok e59) ent_58 z z z (rc z z (rc z rm (rc z rm (rc z z rn)))) (rc z z (rc z rm (rc z z (rc z rm rn)))) z ⟨z, ⟨z, ⟨z, ⟨z, q⟩⟩⟩⟩ (by decide) z z z (oc z (oc om (oc om (oc z on)))) (oc z (oc om (oc z (oc om on)))) z) z <| ?_
      refine wd_nil ?_ (by kernel_rfl)
      refine e_n <| sgr z <| l (p_bs (f := eS) [.const (Value.string {data := #[97, 110, 100, 105]}), .const (Value.string {data := #[111, 114, 105]}), .const (Value.string {data := #[120, 111, 114, 105]})] [(⟨#[97, 110, 100, 105]⟩ : ByteArray), (⟨#[111, 114, 105]⟩ : ByteArray), (⟨#[120, 111, 114, 105]⟩ : ByteArray)] Tryz.underlying98 ty_9.size zr_9 z z z z (el1 (.one _) z (el1 (.one _) z (el1 (.one _) z el0))) z) z <| la z z <| ne <| ?_
      refine w_jn6 H (fun v60 v61 v62 v63 v64 v65 => ⟨[(0, (.ptr 0 0)), (1, (.ptr 1 0)), (5, (.fn (.func 58) [] [(.ptr 1 0)])), (6, (.ptr 12 0)), (7, (.ptr 13 0)), (8, (.ptr 14 0)), (9, (.ptr 15 0)), (10, (.ptr 16 0)), (11, (.ptr 17 0)), (12, (.ptr 18 0)), (13, (.ptr 19 0)), (14, (.ptr 20 0)), (15, (.ptr 21 0)), (16, (.ptr 22 0)), (17, (.ptr 23 0)), (18, (.fn (.func 59) [] []))], [(0, (oC 27 [(aS ⟨#[]⟩), (aN .i64 0), (aN .i64 0), aNil, aNil, aNil, aNil])), (1, (oC 27 [(aS v60), (aN .i64 v61), (aN .i64 v62), (.row 9), (aL 2 encMachBank v63), (aL 2 encMachUnit v64), (.row 28)])), (9, (oR 100 4 encMachReg v6)), (12, (oD 107 (encMachOperand r8))), (13, (oD 107 (encMachOperand r10))), (14, (oD 107 (encMachOperand r12))), (15, (oD 107 (encMachOperand r14))), (16, (oD 107 (encMachOperand r16))), (17, (oD 107 (encMachOperand r18))), (18, (oD 114 (encTermX r20))), (19, (oD 114 (encTermX r22))), (20, (oD 114 (encTermX r24))), (21, (oD 114 (encTermX r26))), (22, (oD 114 (encTermX r28))), (23, (oD 114 (encTermX r30))), (28, (oR 61 9 encMachInstr v65))]⟩) ?_ ?_
      · intro v60 v61 v62 v63 v64 v65 H
        rw [api_givenRisc_k3] at H
        refine sgr z <| l (p_bs (f := eS) [.const (Value.string {data := #[115, 104, 108, 105]}), .const (Value.string {data := #[115, 104, 114, 105]}), .const (Value.string {data := #[115, 97, 114, 105]})] [(⟨#[115, 104, 108, 105]⟩ : ByteArray), (⟨#[115, 104, 114, 105]⟩ : ByteArray), (⟨#[115, 97, 114, 105]⟩ : ByteArray)] Tryz.underlying98 ty_9.size zr_9 z z z z (el1 (.one _) z (el1 (.one _) z (el1 (.one _) z el0))) z) z <| la z z <| ne <| ?_
        refine w_jn6 H (fun v66 v67 v68 v69 v70 v71 => ⟨[(0, (.ptr 0 0)), (1, (.ptr 1 0)), (5, (.fn (.func 58) [] [(.ptr 1 0)])), (6, (.ptr 12 0)), (7, (.ptr 13 0)), (8, (.ptr 14 0)), (9, (.ptr 15 0)), (10, (.ptr 16 0)), (12, (.ptr 18 0)), (13, (.ptr 19 0)), (14, (.ptr 20 0)), (15, (.ptr 21 0)), (16, (.ptr 22 0)), (17, (.ptr 23 0)), (18, (.fn (.func 59) [] []))], [(0, (oC 27 [(aS ⟨#[]⟩), (aN .i64 0), (aN .i64 0), aNil, aNil, aNil, aNil])), (1, (oC 27 [(aS v66), (aN .i64 v67), (aN .i64 v68), (.row 9), (aL 2 encMachBank v69), (aL 2 encMachUnit v70), (.row 28)])), (9, (oR 100 4 encMachReg v6)), (12, (oD 107 (encMachOperand r8))), (13, (oD 107 (encMachOperand r10))), (14, (oD 107 (encMachOperand r12))), (15, (oD 107 (encMachOperand r14))), (16, (oD 107 (encMachOperand r16))), (18, (oD 114 (encTermX r20))), (19, (oD 114 (encTermX r22))), (20, (oD 114 (encTermX r24))), (21, (oD 114 (encTermX r26))), (22, (oD 114 (encTermX r28))), (23, (oD 114 (encTermX r30))), (28, (oR 61 9 encMachInstr v71))]⟩) ?_ ?_
        · intro v66 v67 v68 v69 v70 v71 H
          rw [api_givenRisc_k4] at H
          refine wc_seq <| wc_draw [0, 0, 0, 6, 0, 0, 48, 112, 240, 496, 1023] mixed z <| dm z z <| dr (p_ldB (ds := (encMachOperand r8).map .data) ty_107 z z z z) z <| dr (p_ldB (ds := (encMachOperand r16).map .data) ty_107 z z z z) z <| dr (p_bs (f := encMachOperand) [.tmp 215, .tmp 216] [r8, r16] Tryz.underlying58 ty_107.size zr_107 z z z z (el1 (.agg _) z (el1 (.agg _) z el0)) z) z <| dr (p_ldB (ds := (encTermX r26).map .data) ty_114 z z z z) z <| ?_
          obtain ⟨r72, e73, H⟩ := ob H
          refine dr (p_c (api_givenNum_ok e73) ent_54 z z z) z <| dr (p_bs (f := encTerm) [.tmp 218, .tmp 219] [r26, r72] Tryz.underlying112 ty_114.size zr_114 z z z z (el1X (encTerm_X _) (.agg _) z (el1X (encTerm_X _) (.agg _) z el0)) z) z <| ?_
          obtain ⟨r74, e75, H⟩ := ob H
          refine dr (p_c (api_givenOp_ok e75) ent_51 z z z) z <| ?_
          obtain ⟨r76, e77, H⟩ := ob H
          refine dr (p_c (api_givenSet_ok e77) ent_50 z z z) z <| dr (p_bs (f := encMachEffect) [.tmp 222] [r76] Tryz.underlying59 ty_118.size zr_118 z z z z (el1 (.agg _) z el0) z) z <| ?_
          obtain ⟨r78, e79, H⟩ := ob H
          refine drh (p_cw (ids := [1, 9, 28, 31]) (api_givenRisc_1_ok e79) ent_58 z z z (rc z z (rc z rm (rc z rm (rc z z rn)))) (rc z z (rc z rm (rc z z (rc z rm rn)))) z ⟨z, ⟨z, ⟨z, ⟨z, q⟩⟩⟩⟩ (by decide) z z z (oc z (oc om (oc om (oc z on)))) (oc z (oc om (oc z (oc om on)))) z) z <| ?_
          refine wd_nil ?_ (by kernel_rfl)
          refine e_n <| wc_seq <| wc_draw [0, 0, 0, 0, 14, 0, 32, 96, 224, 480, 1023] mixed z <| dm z z <| dr (p_ldB (ds := (encMachOperand r8).map .data) ty_107 z z z z) z <| dr (p_ldB (ds := (encMachOperand r10).map .data) ty_107 z z z z) z <| dr (p_ldB (ds := (encMachOperand r14).map .data) ty_107 z z z z) z <| dr (p_bs (f := encMachOperand) [.tmp 226, .tmp 227, .tmp 228] [r8, r10, r14] Tryz.underlying58 ty_107.size zr_107 z z z z (el1 (.agg _) z (el1 (.agg _) z (el1 (.agg _) z el0))) z) z <| dr (p_ldB (ds := (encTermX r30).map .data) ty_114 z z z z) z <| dr (p_bs (f := encTerm) [.tmp 230] [r30] Tryz.underlying112 ty_114.size zr_114 z z z z (el1X (encTerm_X _) (.agg _) z el0) z) z <| ?_
          obtain ⟨r80, e81, H⟩ := ob H
          refine dr (p_c (api_givenOp_ok e81) ent_51 z z z) z <| ?_
          obtain ⟨r82, e83, H⟩ := ob H
          refine dr (p_c (api_givenSet_ok e83) ent_50 z z z) z <| dr (p_bs (f := encMachEffect) [.tmp 233] [r82] Tryz.underlying59 ty_118.size zr_118 z z z z (el1 (.agg _) z el0) z) z <| ?_
          obtain ⟨r84, e85, H⟩ := ob H
          refine drh (p_cw (ids := [1, 9, 31, 32]) (api_givenRisc_1_ok e85) ent_58 z z z (rc z z (rc z rm (rc z rm (rc z z rn)))) (rc z z (rc z rm (rc z z (rc z rm rn)))) z ⟨z, ⟨z, ⟨z, ⟨z, q⟩⟩⟩⟩ (by decide) z z z (oc z (oc om (oc om (oc z on)))) (oc z (oc om (oc z (oc om on)))) z) z <| ?_
          refine wd_nil ?_ (by kernel_rfl)
          refine e_n <| wc_seq <| wc_draw [0, 0, 0, 0, 14, 0, 32, 96, 224, 480, 992, 2016, 4095] mixed z <| dm z z <| dr (p_ldB (ds := (encMachOperand r8).map .data) ty_107 z z z z) z <| dr (p_ldB (ds := (encMachOperand r10).map .data) ty_107 z z z z) z <| dr (p_ldB (ds := (encMachOperand r14).map .data) ty_107 z z z z) z <| dr (p_bs (f := encMachOperand) [.tmp 237, .tmp 238, .tmp 239] [r8, r10, r14] Tryz.underlying58 ty_107.size zr_107 z z z z (el1 (.agg _) z (el1 (.agg _) z (el1 (.agg _) z el0))) z) z <| dr (p_ldB (ds := (encTermX r30).map .data) ty_114 z z z z) z <| dr (p_bs (f := encTerm) [.tmp 241] [r30] Tryz.underlying112 ty_114.size zr_114 z z z z (el1X (encTerm_X _) (.agg _) z el0) z) z <| ?_
          obtain ⟨r86, e87, H⟩ := ob H
          refine dr (p_c (api_givenOp_ok e87) ent_51 z z z) z <| dr (p_bs (f := encTerm) [.tmp 243] [r86] Tryz.underlying112 ty_114.size zr_114 z z z z (el1X (encTerm_X _) (.agg _) z el0) z) z <| ?_
          obtain ⟨r88, e89, H⟩ := ob H
          refine dr (p_c (api_givenOp_ok e89) ent_51 z z z) z <| ?_
          obtain ⟨r90, e91, H⟩ := ob H
          refine dr (p_c (api_givenSet_ok e91) ent_50 z z z) z <| dr (p_bs (f := encMachEffect) [.tmp 246] [r90] Tryz.underlying59 ty_118.size zr_118 z z z z (el1 (.agg _) z el0) z) z <| ?_
          obtain ⟨r92, e93, H⟩ := ob H
          refine drh (p_cw (ids := [1, 9, 32, 33]) (api_givenRisc_1_ok e93) ent_58 z z z (rc z z (rc z rm (rc z rm (rc z z rn)))) (rc z z (rc z rm (rc z z (rc z rm rn)))) z ⟨z, ⟨z, ⟨z, ⟨z, q⟩⟩⟩⟩ (by decide) z z z (oc z (oc om (oc om (oc z on)))) (oc z (oc om (oc z (oc om on)))) z) z <| ?_
          refine wd_nil ?_ (by kernel_rfl)
          refine e_n <| wc_seq <| wc_draw [0, 0, 0, 0, 14, 0, 0, 64, 192, 480, 992, 2016, 4095] mixed z <| dm z z <| dr (p_ldB (ds := (encMachOperand r8).map .data) ty_107 z z z z) z <| dr (p_ldB (ds := (encMachOperand r10).map .data) ty_107 z z z z) z <| dr (p_ldB (ds := (encMachOperand r14).map .data) ty_107 z z z z) z <| dr (p_bs (f := encMachOperand) [.tmp 250, .tmp 251, .tmp 252] [r8, r10, r14] Tryz.underlying58 ty_107.size zr_107 z z z z (el1 (.agg _) z (el1 (.agg _) z (el1 (.agg _) z el0))) z) z <| dm z z <| dr (p_ldB (ds := (encTermX r30).map .data) ty_114 z z z z) z <| dr (p_bs (f := encTerm) [.tmp 255] [r30] Tryz.underlying112 ty_114.size zr_114 z z z z (el1X (encTerm_X _) (.agg _) z el0) z) z <| ?_
          obtain ⟨r94, e95, H⟩ := ob H
          refine dr (p_c (api_givenOp_ok e95) ent_51 z z z) z <| ?_
          obtain ⟨r96, e97, H⟩ := ob H
          refine dr (p_cw (ids := []) (api_givenRisc_2_ok e97) ent_59 z z z rn rn rna q List.nodup_nil z z z on on z) z <| ?_
          obtain ⟨r98, e99, H⟩ := ob H
          refine dr (p_c (api_givenSet_ok e99) ent_50 z z z) z <| dr (p_bs (f := encMachEffect) [.tmp 259] [r98] Tryz.underlying59 ty_118.size zr_118 z z z z (el1 (.agg _) z el0) z) z <| ?_
          obtain ⟨r100, e101, H⟩ := ob H
          refine drh (p_cw (ids := [1, 9, 33, 34]) (api_givenRisc_1_ok e101) ent_58 z z z (rc z z (rc z rm (rc z rm (rc z z rn)))) (rc z z (rc z rm (rc z z (rc z rm rn)))) z ⟨z, ⟨z, ⟨z, ⟨z, q⟩⟩⟩⟩ (by decide) z z z (oc z (oc om (oc om (oc z on)))) (oc z (oc om (oc z (oc om on)))) z) z <| ?_
          refine wd_nil ?_ (by kernel_rfl)
          refine e_n <| wc_seq <| wc_draw [0, 0, 0, 0, 14, 0, 0, 64, 192, 480, 992, 2016, 4095] mixed z <| dm z z <| dr (p_ldB (ds := (encMachOperand r8).map .data) ty_107 z z z z) z <| dr (p_ldB (ds := (encMachOperand r10).map .data) ty_107 z z z z) z <| dr (p_ldB (ds := (encMachOperand r14).map .data) ty_107 z z z z) z <| dr (p_bs (f := encMachOperand) [.tmp 263, .tmp 264, .tmp 265] [r8, r10, r14] Tryz.underlying58 ty_107.size zr_107 z z z z (el1 (.agg _) z (el1 (.agg _) z (el1 (.agg _) z el0))) z) z <| dm z z <| dr (p_ldB (ds := (encTermX r30).map .data) ty_114 z z z z) z <| dr (p_bs (f := encTerm) [.tmp 268] [r30] Tryz.underlying112 ty_114.size zr_114 z z z z (el1X (encTerm_X _) (.agg _) z el0) z) z <| ?_
          obtain ⟨r102, e103, H⟩ := ob H
          refine dr (p_c (api_givenOp_ok e103) ent_51 z z z) z <| ?_
          obtain ⟨r104, e105, H⟩ := ob H
          refine dr (p_cw (ids := []) (api_givenRisc_2_ok e105) ent_59 z z z rn rn rna q List.nodup_nil z z z on on z) z <| ?_
          obtain ⟨r106, e107, H⟩ := ob H
          refine dr (p_c (api_givenSet_ok e107) ent_50 z z z) z <| dr (p_bs (f := encMachEffect) [.tmp 272] [r106] Tryz.underlying59 ty_118.size zr_118 z z z z (el1 (.agg _) z el0) z) z <| ?_
          obtain ⟨r108, e109, H⟩ := ob H
          refine drh (p_cw (ids := [1, 9, 34, 35]) (api_givenRisc_1_ok e109) ent_58 z z z (rc z z (rc z rm (rc z rm (rc z z rn)))) (rc z z (rc z rm (rc z z (rc z rm rn)))) z ⟨z, ⟨z, ⟨z, ⟨z, q⟩⟩⟩⟩ (by decide) z z z (oc z (oc om (oc om (oc z on)))) (oc z (oc om (oc z (oc om on)))) z) z <| ?_
          refine wd_nil ?_ (by kernel_rfl)
          refine e_n <| wc_seq <| wc_draw [0, 0, 0, 0, 14, 0, 0, 96, 224, 511] mixed z <| dm z z <| dr (p_ldB (ds := (encMachOperand r8).map .data) ty_107 z z z z) z <| dr (p_ldB (ds := (encMachOperand r10).map .data) ty_107 z z z z) z <| dr (p_ldB (ds := (encMachOperand r14).map .data) ty_107 z z z z) z <| dr (p_bs (f := encMachOperand) [.tmp 276, .tmp 277, .tmp 278] [r8, r10, r14] Tryz.underlying58 ty_107.size zr_107 z z z z (el1 (.agg _) z (el1 (.agg _) z (el1 (.agg _) z el0))) z) z <| dr (p_ldB (ds := (encTermX r30).map .data) ty_114 z z z z) z <| dr (p_ldB (ds := (encTermX r24).map .data) ty_114 z z z z) z <| ?_
          obtain ⟨r110, e111, H⟩ := ob H
          refine dr (p_c (api_givenStore_ok e111) ent_53 z z z) z <| dr (p_bs (f := encMachEffect) [.tmp 282] [r110] Tryz.underlying59 ty_118.size zr_118 z z z z (el1 (.agg _) z el0) z) z <| ?_
          obtain ⟨r112, e113, H⟩ := ob H
          refine drh (p_cw (ids := [1, 9, 35, 36]) (api_givenRisc_1_ok e113) ent_58 z z z (rc z z (rc z rm (rc z rm (rc z z rn)))) (rc z z (rc z rm (rc z z (rc z rm rn)))) z ⟨z, ⟨z, ⟨z, ⟨z, q⟩⟩⟩⟩ (by decide) z z z (oc z (oc om (oc om (oc z on)))) (oc z (oc om (oc z (oc om on)))) z) z <| ?_
          refine wd_nil ?_ (by kernel_rfl)
          refine e_n <| wc_seq <| wc_draw [0, 0, 0, 0, 14, 0, 0, 64, 192, 480, 992, 2047] mixed z <| dm z z <| dr (p_ldB (ds := (encMachOperand r8).map .data) ty_107 z z z z) z <| dr (p_ldB (ds := (encMachOperand r10).map .data) ty_107 z z z z) z <| dr (p_ldB (ds := (encMachOperand r14).map .data) ty_107 z z z z) z <| dr (p_bs (f := encMachOperand) [.tmp 286, .tmp 287, .tmp 288] [r8, r10, r14] Tryz.underlying58 ty_107.size zr_107 z z z z (el1 (.agg _) z (el1 (.agg _) z (el1 (.agg _) z el0))) z) z <| dr (p_ldB (ds := (encTermX r30).map .data) ty_114 z z z z) z <| dr (p_ldB (ds := (encTermX r24).map .data) ty_114 z z z z) z <| dr (p_bs (f := encTerm) [.tmp 291] [r24] Tryz.underlying112 ty_114.size zr_114 z z z z (el1X (encTerm_X _) (.agg _) z el0) z) z <| ?_
          obtain ⟨r114, e115, H⟩ := ob H
          refine dr (p_c (api_givenOp_ok e115) ent_51 z z z) z <| ?_
          obtain ⟨r116, e117, H⟩ := ob H
          refine dr (p_c (api_givenStore_ok e117) ent_53 z z z) z <| dr (p_bs (f := encMachEffect) [.tmp 294] [r116] Tryz.underlying59 ty_118.size zr_118 z z z z (el1 (.agg _) z el0) z) z <| ?_
          obtain ⟨r118, e119, H⟩ := ob H
          refine drh (p_cw (ids := [1, 9, 36, 37]) (api_givenRisc_1_ok e119) ent_58 z z z (rc z z (rc z rm (rc z rm (rc z z rn)))) (rc z z (rc z rm (rc z z (rc z rm rn)))) z ⟨z, ⟨z, ⟨z, ⟨z, q⟩⟩⟩⟩ (by decide) z z z (oc z (oc om (oc om (oc z on)))) (oc z (oc om (oc z (oc om on)))) z) z <| ?_
          refine wd_nil ?_ (by kernel_rfl)
          refine e_n <| wc_seq <| wc_draw [0, 0, 0, 0, 14, 0, 0, 64, 192, 480, 992, 2047] mixed z <| dm z z <| dr (p_ldB (ds := (encMachOperand r8).map .data) ty_107 z z z z) z <| dr (p_ldB (ds := (encMachOperand r10).map .data) ty_107 z z z z) z <| dr (p_ldB (ds := (encMachOperand r14).map .data) ty_107 z z z z) z <| dr (p_bs (f := encMachOperand) [.tmp 298, .tmp 299, .tmp 300] [r8, r10, r14] Tryz.underlying58 ty_107.size zr_107 z z z z (el1 (.agg _) z (el1 (.agg _) z (el1 (.agg _) z el0))) z) z <| dr (p_ldB (ds := (encTermX r30).map .data) ty_114 z z z z) z <| dr (p_ldB (ds := (encTermX r24).map .data) ty_114 z z z z) z <| dr (p_bs (f := encTerm) [.tmp 303] [r24] Tryz.underlying112 ty_114.size zr_114 z z z z (el1X (encTerm_X _) (.agg _) z el0) z) z <| ?_
          obtain ⟨r120, e121, H⟩ := ob H
          refine dr (p_c (api_givenOp_ok e121) ent_51 z z z) z <| ?_
          obtain ⟨r122, e123, H⟩ := ob H
          refine dr (p_c (api_givenStore_ok e123) ent_53 z z z) z <| dr (p_bs (f := encMachEffect) [.tmp 306] [r122] Tryz.underlying59 ty_118.size zr_118 z z z z (el1 (.agg _) z el0) z) z <| ?_
          obtain ⟨r124, e125, H⟩ := ob H
          refine drh (p_cw (ids := [1, 9, 37, 38]) (api_givenRisc_1_ok e125) ent_58 z z z (rc z z (rc z rm (rc z rm (rc z z rn)))) (rc z z (rc z rm (rc z z (rc z rm rn)))) z ⟨z, ⟨z, ⟨z, ⟨z, q⟩⟩⟩⟩ (by decide) z z z (oc z (oc om (oc om (oc z on)))) (oc z (oc om (oc z (oc om on)))) z) z <| ?_
          refine wd_nil ?_ (by kernel_rfl)
          refine e_n <| sgr z <| l (p_bs (f := eS) [.const (Value.string {data := #[101, 113]}), .const (Value.string {data := #[117, 108, 116]}), .const (Value.string {data := #[115, 108, 116]})] [(⟨#[101, 113]⟩ : ByteArray), (⟨#[117, 108, 116]⟩ : ByteArray), (⟨#[115, 108, 116]⟩ : ByteArray)] Tryz.underlying98 ty_9.size zr_9 z z z z (el1 (.one _) z (el1 (.one _) z (el1 (.one _) z el0))) z) z <| la z z <| ne <| ?_
          refine w_jn6 H (fun v126 v127 v128 v129 v130 v131 => ⟨[(0, (.ptr 0 0)), (1, (.ptr 1 0)), (5, (.fn (.func 58) [] [(.ptr 1 0)])), (6, (.ptr 12 0)), (7, (.ptr 13 0)), (8, (.ptr 14 0)), (9, (.ptr 15 0)), (10, (.ptr 16 0)), (12, (.ptr 18 0)), (13, (.ptr 19 0)), (15, (.ptr 21 0)), (16, (.ptr 22 0))], [(0, (oC 27 [(aS ⟨#[]⟩), (aN .i64 0), (aN .i64 0), aNil, aNil, aNil, aNil])), (1, (oC 27 [(aS v126), (aN .i64 v127), (aN .i64 v128), (.row 9), (aL 2 encMachBank v129), (aL 2 encMachUnit v130), (.row 38)])), (9, (oR 100 4 encMachReg v6)), (12, (oD 107 (encMachOperand r8))), (13, (oD 107 (encMachOperand r10))), (14, (oD 107 (encMachOperand r12))), (15, (oD 107 (encMachOperand r14))), (16, (oD 107 (encMachOperand r16))), (18, (oD 114 (encTermX r20))), (19, (oD 114 (encTermX r22))), (21, (oD 114 (encTermX r26))), (22, (oD 114 (encTermX r28))), (38, (oR 61 9 encMachInstr v131))]⟩) ?_ ?_
          · intro v126 v127 v128 v129 v130 v131 H
            rw [api_givenRisc_k5] at H
            refine sgr z <| l (p_bd (cs := (encMachPiece (MachPiece.mk 0 14)).map .data) pl_110 zr_110 z ⟨q, ⟨q, q⟩⟩ z) z <| l (p_bs (f := encMachPiece) [.tmp 337] [(MachPiece.mk 0 14)] Tryz.underlying105 ty_110.size zr_110 z z z z (el1 (.agg _) z el0) z) z <| ?_
            obtain ⟨r132, e133, H⟩ := ob H
            refine l (p_c (api_givenField_ok e133) ent_48 z z z) z <| lh (p_al 40 zr_107 z) z <| l0h (p_stA (ds := (encMachOperand r132).map .data) ty_107 z z z z z z) <| ne <| sgr z <| l (p_bd (cs := (encMachPiece (MachPiece.mk 0 26)).map .data) pl_110 zr_110 z ⟨q, ⟨q, q⟩⟩ z) z <| l (p_bs (f := encMachPiece) [.tmp 340] [(MachPiece.mk 0 26)] Tryz.underlying105 ty_110.size zr_110 z z z z (el1 (.agg _) z el0) z) z <| ?_
            obtain ⟨r134, e135, H⟩ := ob H
            refine l (p_c (api_givenField_ok e135) ent_48 z z z) z <| lh (p_al 41 zr_107 z) z <| l0h (p_stA (ds := (encMachOperand r134).map .data) ty_107 z z z z z z) <| ne <| sgr z <| ?_
            obtain ⟨r136, e137, H⟩ := ob H
            refine l (p_c (api_givenVar_ok e137) ent_49 z z z) z <| lh (p_al 42 zr_114 z) z <| l0h (p_stA (ds := (encTermX r136).map .data) ty_114 z z z z z z) <| ne <| wc_seq <| wc_draw [0, 0, 0, 0, 14, 0, 0, 0, 192, 448, 992, 2016, 4095] mixed z <| dm z z <| dr (p_ldB (ds := (encMachOperand r10).map .data) ty_107 z z z z) z <| dr (p_ldB (ds := (encMachOperand r12).map .data) ty_107 z z z z) z <| dr (p_ldB (ds := (encMachOperand r132).map .data) ty_107 z z z z) z <| dr (p_bs (f := encMachOperand) [.tmp 345, .tmp 346, .tmp 347] [r10, r12, r132] Tryz.underlying58 ty_107.size zr_107 z z z z (el1 (.agg _) z (el1 (.agg _) z (el1 (.agg _) z el0))) z) z <| dr (p_ldB (ds := (encTermX r136).map .data) ty_114 z z z z) z <| dr (p_ldB (ds := (encTermX r20).map .data) ty_114 z z z z) z <| dr (p_ldB (ds := (encTermX r22).map .data) ty_114 z z z z) z <| dr (p_bs (f := encTerm) [.tmp 350, .tmp 351] [r20, r22] Tryz.underlying112 ty_114.size zr_114 z z z z (el1X (encTerm_X _) (.agg _) z (el1X (encTerm_X _) (.agg _) z el0)) z) z <| ?_
            obtain ⟨r138, e139, H⟩ := ob H
            refine dr (p_c (api_givenOp_ok e139) ent_51 z z z) z <| ?_
            obtain ⟨r140, e141, H⟩ := ob H
            refine dr (p_c (api_givenJump_ok e141) ent_55 z z z) z <| dr (p_bs (f := encMachEffect) [.tmp 354] [r140] Tryz.underlying59 ty_118.size zr_118 z z z z (el1 (.agg _) z el0) z) z <| ?_
            obtain ⟨r142, e143, H⟩ := ob H
            refine drh (p_cw (ids := [1, 9, 38, 43]) (api_givenRisc_1_ok e143) ent_58 z z z (rc z z (rc z rm (rc z rm (rc z z rn)))) (rc z z (rc z rm (rc z z (rc z rm rn)))) z ⟨z, ⟨z, ⟨z, ⟨z, q⟩⟩⟩⟩ (by decide) z z z (oc z (oc om (oc om (oc z on)))) (oc z (oc om (oc z (oc om on)))) z) z <| ?_
            refine wd_nil ?_ (by kernel_rfl)
            refine e_n <| wc_seq <| wc_draw [0, 0, 0, 0, 14, 0, 0, 0, 192, 448, 960, 1984, 4064, 8160, 16383] mixed z <| dm z z <| dr (p_ldB (ds := (encMachOperand r10).map .data) ty_107 z z z z) z <| dr (p_ldB (ds := (encMachOperand r12).map .data) ty_107 z z z z) z <| dr (p_ldB (ds := (encMachOperand r132).map .data) ty_107 z z z z) z <| dr (p_bs (f := encMachOperand) [.tmp 358, .tmp 359, .tmp 360] [r10, r12, r132] Tryz.underlying58 ty_107.size zr_107 z z z z (el1 (.agg _) z (el1 (.agg _) z (el1 (.agg _) z el0))) z) z <| dr (p_ldB (ds := (encTermX r136).map .data) ty_114 z z z z) z <| dr (p_ldB (ds := (encTermX r20).map .data) ty_114 z z z z) z <| dr (p_ldB (ds := (encTermX r22).map .data) ty_114 z z z z) z <| dr (p_bs (f := encTerm) [.tmp 363, .tmp 364] [r20, r22] Tryz.underlying112 ty_114.size zr_114 z z z z (el1X (encTerm_X _) (.agg _) z (el1X (encTerm_X _) (.agg _) z el0)) z) z <| ?_
            obtain ⟨r144, e145, H⟩ := ob H
            refine dr (p_c (api_givenOp_ok e145) ent_51 z z z) z <| dr (p_bs (f := encTerm) [.tmp 366] [r144] Tryz.underlying112 ty_114.size zr_114 z z z z (el1X (encTerm_X _) (.agg _) z el0) z) z <| ?_
            obtain ⟨r146, e147, H⟩ := ob H
            refine dr (p_c (api_givenOp_ok e147) ent_51 z z z) z <| ?_
            obtain ⟨r148, e149, H⟩ := ob H
            refine dr (p_c (api_givenJump_ok e149) ent_55 z z z) z <| dr (p_bs (f := encMachEffect) [.tmp 369] [r148] Tryz.underlying59 ty_118.size zr_118 z z z z (el1 (.agg _) z el0) z) z <| ?_
            obtain ⟨r150, e151, H⟩ := ob H
            refine drh (p_cw (ids := [1, 9, 43, 44]) (api_givenRisc_1_ok e151) ent_58 z z z (rc z z (rc z rm (rc z rm (rc z z rn)))) (rc z z (rc z rm (rc z z (rc z rm rn)))) z ⟨z, ⟨z, ⟨z, ⟨z, q⟩⟩⟩⟩ (by decide) z z z (oc z (oc om (oc om (oc z on)))) (oc z (oc om (oc z (oc om on)))) z) z <| ?_
            refine wd_nil ?_ (by kernel_rfl)
            refine e_n <| wc_seq <| wc_draw [0, 0, 0, 0, 14, 0, 0, 0, 192, 448, 992, 2016, 4095] mixed z <| dm z z <| dr (p_ldB (ds := (encMachOperand r10).map .data) ty_107 z z z z) z <| dr (p_ldB (ds := (encMachOperand r12).map .data) ty_107 z z z z) z <| dr (p_ldB (ds := (encMachOperand r132).map .data) ty_107 z z z z) z <| dr (p_bs (f := encMachOperand) [.tmp 373, .tmp 374, .tmp 375] [r10, r12, r132] Tryz.underlying58 ty_107.size zr_107 z z z z (el1 (.agg _) z (el1 (.agg _) z (el1 (.agg _) z el0))) z) z <| dr (p_ldB (ds := (encTermX r136).map .data) ty_114 z z z z) z <| dr (p_ldB (ds := (encTermX r20).map .data) ty_114 z z z z) z <| dr (p_ldB (ds := (encTermX r22).map .data) ty_114 z z z z) z <| dr (p_bs (f := encTerm) [.tmp 378, .tmp 379] [r20, r22] Tryz.underlying112 ty_114.size zr_114 z z z z (el1X (encTerm_X _) (.agg _) z (el1X (encTerm_X _) (.agg _) z el0)) z) z <| ?_
            obtain ⟨r152, e153, H⟩ := ob H
            refine dr (p_c (api_givenOp_ok e153) ent_51 z z z) z <| ?_
            obtain ⟨r154, e155, H⟩ := ob H
            refine dr (p_c (api_givenJump_ok e155) ent_55 z z z) z <| dr (p_bs (f := encMachEffect) [.tmp 382] [r154] Tryz.underlying59 ty_118.size zr_118 z z z z (el1 (.agg _) z el0) z) z <| ?_
            obtain ⟨r156, e157, H⟩ := ob H
            refine drh (p_cw (ids := [1, 9, 44, 45]) (api_givenRisc_1_ok e157) ent_58 z z z (rc z z (rc z rm (rc z rm (rc z z rn)))) (rc z z (rc z rm (rc z z (rc z rm rn)))) z ⟨z, ⟨z, ⟨z, ⟨z, q⟩⟩⟩⟩ (by decide) z z z (oc z (oc om (oc om (oc z on)))) (oc z (oc om (oc z (oc om on)))) z) z <| ?_
            refine wd_nil ?_ (by kernel_rfl)
            refine e_n <| wc_seq <| wc_draw [0, 0, 2, 0, 0, 24, 56, 127] mixed z <| dm z z <| dr (p_ldB (ds := (encMachOperand r134).map .data) ty_107 z z z z) z <| dr (p_bs (f := encMachOperand) [.tmp 386] [r134] Tryz.underlying58 ty_107.size zr_107 z z z z (el1 (.agg _) z el0) z) z <| dr (p_ldB (ds := (encTermX r136).map .data) ty_114 z z z z) z <| dr (p_bd (cs := [(aN .u8 0), (aN .i64 0), (aN .u64 0), (aS ⟨#[]⟩), (aN .i64 0), aNil]) pl_114 zr_114 z q z) z <| ?_
            obtain ⟨r158, e159, H⟩ := ob H
            refine dr (p_cs (api_givenJump_ok e159) ent_55 z ⟨sr, ⟨sg ⟨sr, ⟨sr, ⟨sr, ⟨sr, ⟨sr, ⟨sn, q⟩⟩⟩⟩⟩⟩, q⟩⟩ z z) z <| dr (p_bs (f := encMachEffect) [.tmp 390] [r158] Tryz.underlying59 ty_118.size zr_118 z z z z (el1 (.agg _) z el0) z) z <| ?_
            obtain ⟨r160, e161, H⟩ := ob H
            refine drh (p_cw (ids := [1, 9, 45, 46]) (api_givenRisc_1_ok e161) ent_58 z z z (rc z z (rc z rm (rc z rm (rc z z rn)))) (rc z z (rc z rm (rc z z (rc z rm rn)))) z ⟨z, ⟨z, ⟨z, ⟨z, q⟩⟩⟩⟩ (by decide) z z z (oc z (oc om (oc om (oc z on)))) (oc z (oc om (oc z (oc om on)))) z) z <| ?_
            refine wd_nil ?_ (by kernel_rfl)
            refine e_n <| wc_seq <| wc_draw [0, 0, 2, 0, 0, 24, 56, 120, 0, 0, 1016, 2040, 4095] mixed z <| dm z z <| dr (p_ldB (ds := (encMachOperand r134).map .data) ty_107 z z z z) z <| dr (p_bs (f := encMachOperand) [.tmp 394] [r134] Tryz.underlying58 ty_107.size zr_107 z z z z (el1 (.agg _) z el0) z) z <| dr (p_ldB (ds := (encTermX r28).map .data) ty_114 z z z z) z <| ?_
            obtain ⟨r162, e163, H⟩ := ob H
            refine dr (p_c (api_givenNum_ok e163) ent_54 z z z) z <| dr (p_bs (f := encTerm) [.tmp 396, .tmp 397] [r28, r162] Tryz.underlying112 ty_114.size zr_114 z z z z (el1X (encTerm_X _) (.agg _) z (el1X (encTerm_X _) (.agg _) z el0)) z) z <| ?_
            obtain ⟨r164, e165, H⟩ := ob H
            refine dr (p_c (api_givenOp_ok e165) ent_51 z z z) z <| ?_
            obtain ⟨r166, e167, H⟩ := ob H
            refine dr (p_c (api_givenFixed_ok e167) ent_56 z z z) z <| dr (p_ldB (ds := (encTermX r136).map .data) ty_114 z z z z) z <| dr (p_bd (cs := [(aN .u8 0), (aN .i64 0), (aN .u64 0), (aS ⟨#[]⟩), (aN .i64 0), aNil]) pl_114 zr_114 z q z) z <| ?_
            obtain ⟨r168, e169, H⟩ := ob H
            refine dr (p_cs (api_givenJump_ok e169) ent_55 z ⟨sr, ⟨sg ⟨sr, ⟨sr, ⟨sr, ⟨sr, ⟨sr, ⟨sn, q⟩⟩⟩⟩⟩⟩, q⟩⟩ z z) z <| dr (p_bs (f := encMachEffect) [.tmp 400, .tmp 403] [r166, r168] Tryz.underlying59 ty_118.size zr_118 z z z z (el1 (.agg _) z (el1 (.agg _) z el0)) z) z <| ?_
            obtain ⟨r170, e171, H⟩ := ob H
            refine drh (p_cw (ids := [1, 9, 46, 47]) (api_givenRisc_1_ok e171) ent_58 z z z (rc z z (rc z rm (rc z rm (rc z z rn)))) (rc z z (rc z rm (rc z z (rc z rm rn)))) z ⟨z, ⟨z, ⟨z, ⟨z, q⟩⟩⟩⟩ (by decide) z z z (oc z (oc om (oc om (oc z on)))) (oc z (oc om (oc z (oc om on)))) z) z <| ?_
            refine wd_nil ?_ (by kernel_rfl)
            refine e_n <| wc_seq <| wc_draw [0, 0, 2, 0, 0, 24, 56, 127] mixed z <| dm z z <| dr (p_ldB (ds := (encMachOperand r10).map .data) ty_107 z z z z) z <| dr (p_bs (f := encMachOperand) [.tmp 407] [r10] Tryz.underlying58 ty_107.size zr_107 z z z z (el1 (.agg _) z el0) z) z <| dr (p_ldB (ds := (encTermX r20).map .data) ty_114 z z z z) z <| dr (p_bd (cs := [(aN .u8 0), (aN .i64 0), (aN .u64 0), (aS ⟨#[]⟩), (aN .i64 0), aNil]) pl_114 zr_114 z q z) z <| ?_
            obtain ⟨r172, e173, H⟩ := ob H
            refine dr (p_cs (api_givenJump_ok e173) ent_55 z ⟨sr, ⟨sg ⟨sr, ⟨sr, ⟨sr, ⟨sr, ⟨sr, ⟨sn, q⟩⟩⟩⟩⟩⟩, q⟩⟩ z z) z <| dr (p_bs (f := encMachEffect) [.tmp 411] [r172] Tryz.underlying59 ty_118.size zr_118 z z z z (el1 (.agg _) z el0) z) z <| ?_
            obtain ⟨r174, e175, H⟩ := ob H
            refine drh (p_cw (ids := [1, 9, 47, 48]) (api_givenRisc_1_ok e175) ent_58 z z z (rc z z (rc z rm (rc z rm (rc z z rn)))) (rc z z (rc z rm (rc z z (rc z rm rn)))) z ⟨z, ⟨z, ⟨z, ⟨z, q⟩⟩⟩⟩ (by decide) z z z (oc z (oc om (oc om (oc z on)))) (oc z (oc om (oc z (oc om on)))) z) z <| ?_
            refine wd_nil ?_ (by kernel_rfl)
            refine e_n <| wc_seq <| wc_draw [0, 0, 2, 0, 8, 24, 63] mixed z <| dm z z <| dr (p_ldB (ds := (encMachOperand r16).map .data) ty_107 z z z z) z <| dr (p_bs (f := encMachOperand) [.tmp 415] [r16] Tryz.underlying58 ty_107.size zr_107 z z z z (el1 (.agg _) z el0) z) z <| dr (p_ldB (ds := (encTermX r26).map .data) ty_114 z z z z) z <| ?_
            obtain ⟨r176, e177, H⟩ := ob H
            refine dr (p_c (api_givenTrap_ok e177) ent_57 z z z) z <| dr (p_bs (f := encMachEffect) [.tmp 418] [r176] Tryz.underlying59 ty_118.size zr_118 z z z z (el1 (.agg _) z el0) z) z <| ?_
            obtain ⟨r178, e179, H⟩ := ob H
            refine drh (p_cw (ids := [1, 9, 48, 49]) (api_givenRisc_1_ok e179) ent_58 z z z (rc z z (rc z rm (rc z rm (rc z z rn)))) (rc z z (rc z rm (rc z z (rc z rm rn)))) z ⟨z, ⟨z, ⟨z, ⟨z, q⟩⟩⟩⟩ (by decide) z z z (oc z (oc om (oc om (oc z on)))) (oc z (oc om (oc z (oc om on)))) z) z <| ?_
            refine wd_nil ?_ (by kernel_rfl)
            refine e_n <| wc_seq <| wc_draw [0, 0, 2, 0, 0, 24, 56, 120, 248, 511] mixed z <| dm z z <| dr (p_ldB (ds := (encMachOperand r10).map .data) ty_107 z z z z) z <| dr (p_bs (f := encMachOperand) [.tmp 422] [r10] Tryz.underlying58 ty_107.size zr_107 z z z z (el1 (.agg _) z el0) z) z <| ?_
            obtain ⟨r180, e181, H⟩ := ob H
            refine dr (p_c (api_givenNum_ok e181) ent_54 z z z) z <| dr (p_ldB (ds := (encTermX r20).map .data) ty_114 z z z z) z <| dr (p_bs (f := encTerm) [.tmp 424, .tmp 425] [r180, r20] Tryz.underlying112 ty_114.size zr_114 z z z z (el1X (encTerm_X _) (.agg _) z (el1X (encTerm_X _) (.agg _) z el0)) z) z <| ?_
            obtain ⟨r182, e183, H⟩ := ob H
            refine dr (p_c (api_givenOp_ok e183) ent_51 z z z) z <| ?_
            obtain ⟨r184, e185, H⟩ := ob H
            refine dr (p_c (api_givenTrap_ok e185) ent_57 z z z) z <| dr (p_bs (f := encMachEffect) [.tmp 428] [r184] Tryz.underlying59 ty_118.size zr_118 z z z z (el1 (.agg _) z el0) z) z <| ?_
            obtain ⟨r186, e187, H⟩ := ob H
            refine drh (p_cw (ids := [1, 9, 49, 50]) (api_givenRisc_1_ok e187) ent_58 z z z (rc z z (rc z rm (rc z rm (rc z z rn)))) (rc z z (rc z rm (rc z z (rc z rm rn)))) z ⟨z, ⟨z, ⟨z, ⟨z, q⟩⟩⟩⟩ (by decide) z z z (oc z (oc om (oc om (oc z on)))) (oc z (oc om (oc z (oc om on)))) z) z <| ?_
            refine wd_nil ?_ (by kernel_rfl)
            refine e_n <| wc_seq <| wc_draw [0, 0, 2, 0, 8, 24, 63] mixed z <| dm z z <| dr (p_ldB (ds := (encMachOperand r10).map .data) ty_107 z z z z) z <| dr (p_bs (f := encMachOperand) [.tmp 432] [r10] Tryz.underlying58 ty_107.size zr_107 z z z z (el1 (.agg _) z el0) z) z <| dr (p_ldB (ds := (encTermX r20).map .data) ty_114 z z z z) z <| ?_
            obtain ⟨r188, e189, H⟩ := ob H
            refine dr (p_c (api_givenTrap_ok e189) ent_57 z z z) z <| dr (p_bs (f := encMachEffect) [.tmp 435] [r188] Tryz.underlying59 ty_118.size zr_118 z z z z (el1 (.agg _) z el0) z) z <| ?_
            obtain ⟨r190, e191, H⟩ := ob H
            refine drh (p_cw (ids := [1, 9, 50, 51]) (api_givenRisc_1_ok e191) ent_58 z z z (rc z z (rc z rm (rc z rm (rc z z rn)))) (rc z z (rc z rm (rc z z (rc z rm rn)))) z ⟨z, ⟨z, ⟨z, ⟨z, q⟩⟩⟩⟩ (by decide) z z z (oc z (oc om (oc om (oc z on)))) (oc z (oc om (oc z (oc om on)))) z) z <| ?_
            refine wd_nil ?_ (by kernel_rfl)
            refine e_n <| sgr z <| lm z z <| ?_
            obtain ⟨r192, e193, H⟩ := ob H
            refine lh (p_cw (ids := [1, 9, 51, 52]) (FnOk.sub (us := [(aS (⟨#[110, 111, 112]⟩ : ByteArray)), (aN .i64 0), (aN .i64 1), (aN .i64 1), (aN .i64 0), aNil, aNil, (.ptr 0 0)]) (api_givenRisc_1_ok e193) ⟨sr, ⟨sr, ⟨sr, ⟨sr, ⟨sr, ⟨sn, ⟨sn, ⟨sr, q⟩⟩⟩⟩⟩⟩⟩⟩) ent_58 z z z (rc z z (rc z rm (rc z rm (rc z z rn)))) (rc z z (rc z rm (rc z z (rc z rm rn)))) z ⟨z, ⟨z, ⟨z, ⟨z, q⟩⟩⟩⟩ (by decide) z z z (oc z (oc om (oc om (oc z on)))) (oc z (oc om (oc z (oc om on)))) z) z <| ne <| wc_seq <| wc_draw [0, 0, 0, 6, 0, 16, 48, 127] mixed z <| dm z z <| dr (p_ldB (ds := (encMachOperand r8).map .data) ty_107 z z z z) z <| dr (p_ldB (ds := (encMachOperand r14).map .data) ty_107 z z z z) z <| dr (p_bs (f := encMachOperand) [.tmp 441, .tmp 442] [r8, r14] Tryz.underlying58 ty_107.size zr_107 z z z z (el1 (.agg _) z (el1 (.agg _) z el0)) z) z <| dr (p_ldB (ds := (encTermX r26).map .data) ty_114 z z z z) z <| ?_
            obtain ⟨r194, e195, H⟩ := ob H
            refine dr (p_c (api_givenSet_ok e195) ent_50 z z z) z <| dr (p_bs (f := encMachEffect) [.tmp 445] [r194] Tryz.underlying59 ty_118.size zr_118 z z z z (el1 (.agg _) z el0) z) z <| ?_
            obtain ⟨r196, e197, H⟩ := ob H
            refine drh (p_cw (ids := [1, 9, 52, 53]) (api_givenRisc_1_ok e197) ent_58 z z z (rc z z (rc z rm (rc z rm (rc z z rn)))) (rc z z (rc z rm (rc z z (rc z rm rn)))) z ⟨z, ⟨z, ⟨z, ⟨z, q⟩⟩⟩⟩ (by decide) z z z (oc z (oc om (oc om (oc z on)))) (oc z (oc om (oc z (oc om on)))) z) z <| ?_
            refine wd_nil ?_ (by kernel_rfl)
            refine e_n <| sgr z <| wl_ent (fzc (j := 1) (i := 3) z z z z (fun _ => z)) <| wl_ent (fzc (j := 1) (i := 6) z z z z (fun _ => z)) <| l (p_ldB (ds := (encMachine (Machine.mk r196.2.1 r196.2.2.1 r196.2.2.2.1 v6 r196.2.2.2.2.1 r196.2.2.2.2.2 r196.1)).map .data) ty_27 z z z z) z <| l0h (p_stA (ds := (encMachine (Machine.mk r196.2.1 r196.2.2.1 r196.2.2.2.1 v6 r196.2.2.2.2.1 r196.2.2.2.2.2 r196.1)).map .data) ty_27 z z z z z z) <| ne <| wc_ret <| ?_
            obtain rfl := sm H
            exact fin (Or.inr z) (rs1 (rva (ds := (encMachine (Machine.mk r196.2.1 r196.2.2.1 r196.2.2.2.1 v6 r196.2.2.2.2.1 r196.2.2.2.2.2 r196.1)).map .data) ty_27 z z z z) rs0) (re [] (.adat) z h0)
          intro H
          refine sgr z <| l (p_bs (f := (eN .u8)) [.const (Value.int IntKind.u8 16), .const (Value.int IntKind.u8 17), .const (Value.int IntKind.u8 18)] [16, 17, 18] Tryz.underlying116 ty_5.size zr_5 z z z z (el1 (.one _) z (el1 (.one _) z (el1 (.one _) z el0))) z) z <| l (p_lenL Tryz.underlying116 z) z <| lm z z <| ne <| wc_block <| w_lp7 H (fun v198 v199 v200 v201 v202 v203 v204 => ⟨[(0, (.ptr 0 0)), (1, (.ptr 1 0)), (5, (.fn (.func 58) [] [(.ptr 1 0)])), (6, (.ptr 12 0)), (7, (.ptr 13 0)), (8, (.ptr 14 0)), (9, (.ptr 15 0)), (10, (.ptr 16 0)), (12, (.ptr 18 0)), (13, (.ptr 19 0)), (15, (.ptr 21 0)), (16, (.ptr 22 0)), (18, (.fn (.func 59) [] [])), (19, (aL 1 eS ([(⟨#[101, 113]⟩ : ByteArray), (⟨#[117, 108, 116]⟩ : ByteArray), (⟨#[115, 108, 116]⟩ : ByteArray)]))), (310, (aL 1 (eN .u8) [16, 17, 18])), (311, (aN .i64 ([16, 17, 18].length : Int))), (312, (aN .i64 v198))], [(0, (oC 27 [(aS ⟨#[]⟩), (aN .i64 0), (aN .i64 0), aNil, aNil, aNil, aNil])), (1, (oC 27 [(aS v199), (aN .i64 v200), (aN .i64 v201), (.row 9), (aL 2 encMachBank v202), (aL 2 encMachUnit v203), (.row 38)])), (9, (oR 100 4 encMachReg v6)), (12, (oD 107 (encMachOperand r8))), (13, (oD 107 (encMachOperand r10))), (14, (oD 107 (encMachOperand r12))), (15, (oD 107 (encMachOperand r14))), (16, (oD 107 (encMachOperand r16))), (18, (oD 114 (encTermX r20))), (19, (oD 114 (encTermX r22))), (21, (oD 114 (encTermX r26))), (22, (oD 114 (encTermX r28))), (38, (oR 61 9 encMachInstr v204))]⟩) (en [(0, 0), (1, 1), (9, 9), (12, 12), (13, 13), (14, 14), (15, 15), (16, 16), (18, 18), (19, 19), (21, 21), (22, 22), (38, 38)] (ws z z z (ws z z z (ws z z z (ws z z z (ws z z z (ws z z z (ws z z z (ws z z z (ws z z z (ws z z z (ws z z z (ws z z z (ws z z z (wd z (wd z (wd z (wd z w0))))))))))))))))) z (hs z z z (hs z z z (hr z (hc z (hc z (hc z (hc z (hc z (hc z (hc z (hc z (hc z (hr z h0)))))))))))))) <| ?_
          intro n6 v198 v199 v200 v201 v202 v203 v204 H
          rw [api_givenRisc_b6] at H
          refine sgr z <| l (p_lss z z) z <| ne <| wc_seq <| ?_
          rcases cn H with ⟨b205, H⟩ | ⟨b205, H⟩
          · refine c_t z b205 ?_
            refine se <| wc_seq <| wc_block <| sgr z <| lm z z <| ?_
            obtain ⟨r206, e207, H⟩ := ob H
            refine l (p_ixL Tryz.underlying116 ty_5.size z z e207) z <| l (p_ldP ty_5 z z) z <| la z z <| la z z <| ne <| wc_draw [0, 0, 0, 6, 14, 0, 0, 0, 224, 0, 0, 0, 0, 6144, 15360, 32256, 65024, 130560, 262143] mixed z <| dm z z <| dm z z <| dm z z <| ?_
            obtain ⟨r208, e209, H⟩ := ob H
            refine dr (p_ixL Tryz.underlying98 ty_9.size z z e209) z <| dr (p_ldP ty_9 z z) z <| dr (p_ldB (ds := (encMachOperand r8).map .data) ty_107 z z z z) z <| dr (p_ldB (ds := (encMachOperand r10).map .data) ty_107 z z z z) z <| dr (p_ldB (ds := (encMachOperand r12).map .data) ty_107 z z z z) z <| dr (p_bs (f := encMachOperand) [.tmp 322, .tmp 323, .tmp 324] [r8, r10, r12] Tryz.underlying58 ty_107.size zr_107 z z z z (el1 (.agg _) z (el1 (.agg _) z (el1 (.agg _) z el0))) z) z <| dm z z <| dm z z <| dr (p_ldB (ds := (encTermX r20).map .data) ty_114 z z z z) z <| dr (p_ldB (ds := (encTermX r22).map .data) ty_114 z z z z) z <| dr (p_bs (f := encTerm) [.tmp 328, .tmp 329] [r20, r22] Tryz.underlying112 ty_114.size zr_114 z z z z (el1X (encTerm_X _) (.agg _) z (el1X (encTerm_X _) (.agg _) z el0)) z) z <| ?_
            obtain ⟨r210, e211, H⟩ := ob H
            refine dr (p_c (api_givenOp_ok e211) ent_51 z z z) z <| ?_
            obtain ⟨r212, e213, H⟩ := ob H
            refine dr (p_cw (ids := []) (api_givenRisc_2_ok e213) ent_59 z z z rn rn rna q List.nodup_nil z z z on on z) z <| ?_
            obtain ⟨r214, e215, H⟩ := ob H
            refine dr (p_c (api_givenSet_ok e215) ent_50 z z z) z <| dr (p_bs (f := encMachEffect) [.tmp 333] [r214] Tryz.underlying59 ty_118.size zr_118 z z z z (el1 (.agg _) z el0) z) z <| ?_
            obtain ⟨r216, e217, H⟩ := ob H
            refine drh (p_cw (ids := [1, 9, 38, 40]) (api_givenRisc_1_ok e217) ent_58 z z z (rc z z (rc z rm (rc z rm (rc z z rn)))) (rc z z (rc z rm (rc z z (rc z rm rn)))) z ⟨z, ⟨z, ⟨z, ⟨z, q⟩⟩⟩⟩ (by decide) z z z (oc z (oc om (oc om (oc z on)))) (oc z (oc om (oc z (oc om on)))) z) z <| ?_
            refine wd_nil ?_ (by kernel_rfl)
            refine e_bn (e_n ?_)
            refine wc_region z <| l (p_add z z) z <| lm z z <| ne <| ?_
            exact ⟨w64 (v198 + 1), r216.2.1, r216.2.2.1, r216.2.2.2.1, r216.2.2.2.2.1, r216.2.2.2.2.2, r216.1, H, en [(0, 0), (1, 1), (9, 9), (12, 12), (13, 13), (14, 14), (15, 15), (16, 16), (18, 18), (19, 19), (21, 21), (22, 22), (40, 38)] (ws z z z (ws z z z (ws z z z (ws z z z (ws z z z (ws z z z (ws z z z (ws z z z (ws z z z (ws z z z (ws z z z (ws z z z (ws z z z (wd z (wd z (wd z (wd z w0))))))))))))))))) z (hs z z z (hs z z z (hr z (hc z (hc z (hc z (hc z (hc z (hc z (hc z (hc z (hc z (hr z h0)))))))))))))⟩
          refine c_f z b205 <| wc_exit <| ?_
          refine e_te (e_te (e_h (e_n ?_)))
          exact ⟨v199, v200, v201, v202, v203, v204, H, en [(0, 0), (1, 1), (9, 9), (12, 12), (13, 13), (14, 14), (15, 15), (16, 16), (18, 18), (19, 19), (21, 21), (22, 22), (38, 38)] (ws z z z (ws z z z (ws z z z (ws z z z (ws z z z (ws z z z (ws z z z (ws z z z (ws z z z (ws z z z (ws z z z (ws z z z w0)))))))))))) z (hs z z z (hs z z z (hr z (hc z (hc z (hc z (hc z (hc z (hc z (hc z (hc z (hc z (hr z h0)))))))))))))⟩
        intro H
        refine sgr z <| l (p_bs (f := (eN .u8)) [.const (Value.int IntKind.u8 11), .const (Value.int IntKind.u8 12), .const (Value.int IntKind.u8 13)] [11, 12, 13] Tryz.underlying116 ty_5.size zr_5 z z z z (el1 (.one _) z (el1 (.one _) z (el1 (.one _) z el0))) z) z <| l (p_lenL Tryz.underlying116 z) z <| lm z z <| ne <| wc_block <| w_lp7 H (fun v218 v219 v220 v221 v222 v223 v224 => ⟨[(0, (.ptr 0 0)), (1, (.ptr 1 0)), (5, (.fn (.func 58) [] [(.ptr 1 0)])), (6, (.ptr 12 0)), (7, (.ptr 13 0)), (8, (.ptr 14 0)), (9, (.ptr 15 0)), (10, (.ptr 16 0)), (11, (.ptr 17 0)), (12, (.ptr 18 0)), (13, (.ptr 19 0)), (14, (.ptr 20 0)), (15, (.ptr 21 0)), (16, (.ptr 22 0)), (17, (.ptr 23 0)), (18, (.fn (.func 59) [] [])), (19, (aL 1 eS ([(⟨#[115, 104, 108, 105]⟩ : ByteArray), (⟨#[115, 104, 114, 105]⟩ : ByteArray), (⟨#[115, 97, 114, 105]⟩ : ByteArray)]))), (189, (aL 1 (eN .u8) [11, 12, 13])), (190, (aN .i64 ([11, 12, 13].length : Int))), (191, (aN .i64 v218))], [(0, (oC 27 [(aS ⟨#[]⟩), (aN .i64 0), (aN .i64 0), aNil, aNil, aNil, aNil])), (1, (oC 27 [(aS v219), (aN .i64 v220), (aN .i64 v221), (.row 9), (aL 2 encMachBank v222), (aL 2 encMachUnit v223), (.row 28)])), (9, (oR 100 4 encMachReg v6)), (12, (oD 107 (encMachOperand r8))), (13, (oD 107 (encMachOperand r10))), (14, (oD 107 (encMachOperand r12))), (15, (oD 107 (encMachOperand r14))), (16, (oD 107 (encMachOperand r16))), (17, (oD 107 (encMachOperand r18))), (18, (oD 114 (encTermX r20))), (19, (oD 114 (encTermX r22))), (20, (oD 114 (encTermX r24))), (21, (oD 114 (encTermX r26))), (22, (oD 114 (encTermX r28))), (23, (oD 114 (encTermX r30))), (28, (oR 61 9 encMachInstr v224))]⟩) (en [(0, 0), (1, 1), (9, 9), (12, 12), (13, 13), (14, 14), (15, 15), (16, 16), (17, 17), (18, 18), (19, 19), (20, 20), (21, 21), (22, 22), (23, 23), (28, 28)] (ws z z z (ws z z z (ws z z z (ws z z z (ws z z z (ws z z z (ws z z z (ws z z z (ws z z z (ws z z z (ws z z z (ws z z z (ws z z z (ws z z z (ws z z z (ws z z z (wd z (wd z (wd z (wd z w0)))))))))))))))))))) z (hs z z z (hs z z z (hr z (hc z (hc z (hc z (hc z (hc z (hc z (hc z (hc z (hc z (hc z (hc z (hc z (hr z h0))))))))))))))))) <| ?_
        intro n7 v218 v219 v220 v221 v222 v223 v224 H
        rw [api_givenRisc_b7] at H
        refine sgr z <| l (p_lss z z) z <| ne <| wc_seq <| ?_
        rcases cn H with ⟨b225, H⟩ | ⟨b225, H⟩
        · refine c_t z b225 ?_
          refine se <| wc_seq <| wc_block <| sgr z <| lm z z <| ?_
          obtain ⟨r226, e227, H⟩ := ob H
          refine l (p_ixL Tryz.underlying116 ty_5.size z z e227) z <| l (p_ldP ty_5 z z) z <| la z z <| la z z <| ne <| wc_draw [0, 0, 0, 6, 14, 0, 0, 0, 224, 0, 0, 0, 3072, 7680, 15872, 32256, 65535] mixed z <| dm z z <| dm z z <| dm z z <| ?_
          obtain ⟨r228, e229, H⟩ := ob H
          refine dr (p_ixL Tryz.underlying98 ty_9.size z z e229) z <| dr (p_ldP ty_9 z z) z <| dr (p_ldB (ds := (encMachOperand r8).map .data) ty_107 z z z z) z <| dr (p_ldB (ds := (encMachOperand r10).map .data) ty_107 z z z z) z <| dr (p_ldB (ds := (encMachOperand r18).map .data) ty_107 z z z z) z <| dr (p_bs (f := encMachOperand) [.tmp 201, .tmp 202, .tmp 203] [r8, r10, r18] Tryz.underlying58 ty_107.size zr_107 z z z z (el1 (.agg _) z (el1 (.agg _) z (el1 (.agg _) z el0))) z) z <| dm z z <| dr (p_ldB (ds := (encTermX r20).map .data) ty_114 z z z z) z <| dr (p_ldB (ds := (encTermX r26).map .data) ty_114 z z z z) z <| dr (p_bs (f := encTerm) [.tmp 206, .tmp 207] [r20, r26] Tryz.underlying112 ty_114.size zr_114 z z z z (el1X (encTerm_X _) (.agg _) z (el1X (encTerm_X _) (.agg _) z el0)) z) z <| ?_
          obtain ⟨r230, e231, H⟩ := ob H
          refine dr (p_c (api_givenOp_ok e231) ent_51 z z z) z <| ?_
          obtain ⟨r232, e233, H⟩ := ob H
          refine dr (p_c (api_givenSet_ok e233) ent_50 z z z) z <| dr (p_bs (f := encMachEffect) [.tmp 210] [r232] Tryz.underlying59 ty_118.size zr_118 z z z z (el1 (.agg _) z el0) z) z <| ?_
          obtain ⟨r234, e235, H⟩ := ob H
          refine drh (p_cw (ids := [1, 9, 28, 31]) (api_givenRisc_1_ok e235) ent_58 z z z (rc z z (rc z rm (rc z rm (rc z z rn)))) (rc z z (rc z rm (rc z z (rc z rm rn)))) z ⟨z, ⟨z, ⟨z, ⟨z, q⟩⟩⟩⟩ (by decide) z z z (oc z (oc om (oc om (oc z on)))) (oc z (oc om (oc z (oc om on)))) z) z <| ?_
          refine wd_nil ?_ (by kernel_rfl)
          refine e_bn (e_n ?_)
          refine wc_region z <| l (p_add z z) z <| lm z z <| ne <| ?_
          exact ⟨w64 (v218 + 1), r234.2.1, r234.2.2.1, r234.2.2.2.1, r234.2.2.2.2.1, r234.2.2.2.2.2, r234.1, H, en [(0, 0), (1, 1), (9, 9), (12, 12), (13, 13), (14, 14), (15, 15), (16, 16), (17, 17), (18, 18), (19, 19), (20, 20), (21, 21), (22, 22), (23, 23), (31, 28)] (ws z z z (ws z z z (ws z z z (ws z z z (ws z z z (ws z z z (ws z z z (ws z z z (ws z z z (ws z z z (ws z z z (ws z z z (ws z z z (ws z z z (ws z z z (ws z z z (wd z (wd z (wd z (wd z w0)))))))))))))))))))) z (hs z z z (hs z z z (hr z (hc z (hc z (hc z (hc z (hc z (hc z (hc z (hc z (hc z (hc z (hc z (hc z (hr z h0))))))))))))))))⟩
        refine c_f z b225 <| wc_exit <| ?_
        refine e_te (e_te (e_h (e_n ?_)))
        exact ⟨v219, v220, v221, v222, v223, v224, H, en [(0, 0), (1, 1), (9, 9), (12, 12), (13, 13), (14, 14), (15, 15), (16, 16), (18, 18), (19, 19), (20, 20), (21, 21), (22, 22), (23, 23), (28, 28)] (ws z z z (ws z z z (ws z z z (ws z z z (ws z z z (ws z z z (ws z z z (ws z z z (ws z z z (ws z z z (ws z z z (ws z z z (ws z z z (ws z z z (ws z z z w0))))))))))))))) z (hs z z z (hs z z z (hr z (hc z (hc z (hc z (hc z (hc z (hc z (hc z (hc z (hc z (hc z (hc z (hr z h0)))))))))))))))⟩
      intro H
      refine sgr z <| l (p_bs (f := (eN .u8)) [.const (Value.int IntKind.u8 8), .const (Value.int IntKind.u8 9), .const (Value.int IntKind.u8 10)] [8, 9, 10] Tryz.underlying116 ty_5.size zr_5 z z z z (el1 (.one _) z (el1 (.one _) z (el1 (.one _) z el0))) z) z <| l (p_lenL Tryz.underlying116 z) z <| lm z z <| ne <| wc_block <| w_lp7 H (fun v236 v237 v238 v239 v240 v241 v242 => ⟨[(0, (.ptr 0 0)), (1, (.ptr 1 0)), (5, (.fn (.func 58) [] [(.ptr 1 0)])), (6, (.ptr 12 0)), (7, (.ptr 13 0)), (8, (.ptr 14 0)), (9, (.ptr 15 0)), (10, (.ptr 16 0)), (11, (.ptr 17 0)), (12, (.ptr 18 0)), (13, (.ptr 19 0)), (14, (.ptr 20 0)), (15, (.ptr 21 0)), (16, (.ptr 22 0)), (17, (.ptr 23 0)), (18, (.fn (.func 59) [] [])), (19, (aL 1 eS ([(⟨#[97, 110, 100, 105]⟩ : ByteArray), (⟨#[111, 114, 105]⟩ : ByteArray), (⟨#[120, 111, 114, 105]⟩ : ByteArray)]))), (163, (aL 1 (eN .u8) [8, 9, 10])), (164, (aN .i64 ([8, 9, 10].length : Int))), (165, (aN .i64 v236))], [(0, (oC 27 [(aS ⟨#[]⟩), (aN .i64 0), (aN .i64 0), aNil, aNil, aNil, aNil])), (1, (oC 27 [(aS v237), (aN .i64 v238), (aN .i64 v239), (.row 9), (aL 2 encMachBank v240), (aL 2 encMachUnit v241), (.row 28)])), (9, (oR 100 4 encMachReg v6)), (12, (oD 107 (encMachOperand r8))), (13, (oD 107 (encMachOperand r10))), (14, (oD 107 (encMachOperand r12))), (15, (oD 107 (encMachOperand r14))), (16, (oD 107 (encMachOperand r16))), (17, (oD 107 (encMachOperand r18))), (18, (oD 114 (encTermX r20))), (19, (oD 114 (encTermX r22))), (20, (oD 114 (encTermX r24))), (21, (oD 114 (encTermX r26))), (22, (oD 114 (encTermX r28))), (23, (oD 114 (encTermX r30))), (28, (oR 61 9 encMachInstr v242))]⟩) (en [(0, 0), (1, 1), (9, 9), (12, 12), (13, 13), (14, 14), (15, 15), (16, 16), (17, 17), (18, 18), (19, 19), (20, 20), (21, 21), (22, 22), (23, 23), (28, 28)] (ws z z z (ws z z z (ws z z z (ws z z z (ws z z z (ws z z z (ws z z z (ws z z z (ws z z z (ws z z z (ws z z z (ws z z z (ws z z z (ws z z z (ws z z z (ws z z z (wd z (wd z (wd z (wd z w0)))))))))))))))))))) z (hs z z z (hs z z z (hr z (hc z (hc z (hc z (hc z (hc z (hc z (hc z (hc z (hc z (hc z (hc z (hc z (hr z h0))))))))))))))))) <| ?_
      intro n8 v236 v237 v238 v239 v240 v241 v242 H
      rw [api_givenRisc_b8] at H
      refine sgr z <| l (p_lss z z) z <| ne <| wc_seq <| ?_
      rcases cn H with ⟨b243, H⟩ | ⟨b243, H⟩
      · refine c_t z b243 ?_
        refine se <| wc_seq <| wc_block <| sgr z <| lm z z <| ?_
        obtain ⟨r244, e245, H⟩ := ob H
        refine l (p_ixL Tryz.underlying116 ty_5.size z z e245) z <| l (p_ldP ty_5 z z) z <| la z z <| la z z <| ne <| wc_draw [0, 0, 0, 6, 14, 0, 0, 0, 224, 0, 0, 0, 3072, 7680, 15872, 32256, 65535] mixed z <| dm z z <| dm z z <| dm z z <| ?_
        obtain ⟨r246, e247, H⟩ := ob H
        refine dr (p_ixL Tryz.underlying98 ty_9.size z z e247) z <| dr (p_ldP ty_9 z z) z <| dr (p_ldB (ds := (encMachOperand r8).map .data) ty_107 z z z z) z <| dr (p_ldB (ds := (encMachOperand r10).map .data) ty_107 z z z z) z <| dr (p_ldB (ds := (encMachOperand r16).map .data) ty_107 z z z z) z <| dr (p_bs (f := encMachOperand) [.tmp 175, .tmp 176, .tmp 177] [r8, r10, r16] Tryz.underlying58 ty_107.size zr_107 z z z z (el1 (.agg _) z (el1 (.agg _) z (el1 (.agg _) z el0))) z) z <| dm z z <| dr (p_ldB (ds := (encTermX r20).map .data) ty_114 z z z z) z <| dr (p_ldB (ds := (encTermX r26).map .data) ty_114 z z z z) z <| dr (p_bs (f := encTerm) [.tmp 180, .tmp 181] [r20, r26] Tryz.underlying112 ty_114.size zr_114 z z z z (el1X (encTerm_X _) (.agg _) z (el1X (encTerm_X _) (.agg _) z el0)) z) z <| ?_
        obtain ⟨r248, e249, H⟩ := ob H
        refine dr (p_c (api_givenOp_ok e249) ent_51 z z z) z <| ?_
        obtain ⟨r250, e251, H⟩ := ob H
        refine dr (p_c (api_givenSet_ok e251) ent_50 z z z) z <| dr (p_bs (f := encMachEffect) [.tmp 184] [r250] Tryz.underlying59 ty_118.size zr_118 z z z z (el1 (.agg _) z el0) z) z <| ?_
        obtain ⟨r252, e253, H⟩ := ob H
        refine drh (p_cw (ids := [1, 9, 28, 30]) (api_givenRisc_1_ok e253) ent_58 z z z (rc z z (rc z rm (rc z rm (rc z z rn)))) (rc z z (rc z rm (rc z z (rc z rm rn)))) z ⟨z, ⟨z, ⟨z, ⟨z, q⟩⟩⟩⟩ (by decide) z z z (oc z (oc om (oc om (oc z on)))) (oc z (oc om (oc z (oc om on)))) z) z <| ?_
        refine wd_nil ?_ (by kernel_rfl)
        refine e_bn (e_n ?_)
        refine wc_region z <| l (p_add z z) z <| lm z z <| ne <| ?_
        exact ⟨w64 (v236 + 1), r252.2.1, r252.2.2.1, r252.2.2.2.1, r252.2.2.2.2.1, r252.2.2.2.2.2, r252.1, H, en [(0, 0), (1, 1), (9, 9), (12, 12), (13, 13), (14, 14), (15, 15), (16, 16), (17, 17), (18, 18), (19, 19), (20, 20), (21, 21), (22, 22), (23, 23), (30, 28)] (ws z z z (ws z z z (ws z z z (ws z z z (ws z z z (ws z z z (ws z z z (ws z z z (ws z z z (ws z z z (ws z z z (ws z z z (ws z z z (ws z z z (ws z z z (ws z z z (wd z (wd z (wd z (wd z w0)))))))))))))))))))) z (hs z z z (hs z z z (hr z (hc z (hc z (hc z (hc z (hc z (hc z (hc z (hc z (hc z (hc z (hc z (hc z (hr z h0))))))))))))))))⟩
      refine c_f z b243 <| wc_exit <| ?_
      refine e_te (e_te (e_h (e_n ?_)))
      exact ⟨v237, v238, v239, v240, v241, v242, H, en [(0, 0), (1, 1), (9, 9), (12, 12), (13, 13), (14, 14), (15, 15), (16, 16), (17, 17), (18, 18), (19, 19), (20, 20), (21, 21), (22, 22), (23, 23), (28, 28)] (ws z z z (ws z z z (ws z z z (ws z z z (ws z z z (ws z z z (ws z z z (ws z z z (ws z z z (ws z z z (ws z z z (ws z z z (ws z z z (ws z z z (ws z z z (ws z z z w0)))))))))))))))) z (hs z z z (hs z z z (hr z (hc z (hc z (hc z (hc z (hc z (hc z (hc z (hc z (hc z (hc z (hc z (hc z (hr z h0))))))))))))))))⟩
    intro H
    refine sgr z <| l (p_bs (f := (eN .u8)) [.const (Value.int IntKind.u8 5), .const (Value.int IntKind.u8 6), .const (Value.int IntKind.u8 8), .const (Value.int IntKind.u8 9), .const (Value.int IntKind.u8 10), .const (Value.int IntKind.u8 11), .const (Value.int IntKind.u8 12), .const (Value.int IntKind.u8 13)] [5, 6, 8, 9, 10, 11, 12, 13] Tryz.underlying116 ty_5.size zr_5 z z z z (el1 (.one _) z (el1 (.one _) z (el1 (.one _) z (el1 (.one _) z (el1 (.one _) z (el1 (.one _) z (el1 (.one _) z (el1 (.one _) z el0)))))))) z) z <| l (p_lenL Tryz.underlying116 z) z <| lm z z <| ne <| wc_block <| w_lp7 H (fun v254 v255 v256 v257 v258 v259 v260 => ⟨[(0, (.ptr 0 0)), (1, (.ptr 1 0)), (5, (.fn (.func 58) [] [(.ptr 1 0)])), (6, (.ptr 12 0)), (7, (.ptr 13 0)), (8, (.ptr 14 0)), (9, (.ptr 15 0)), (10, (.ptr 16 0)), (11, (.ptr 17 0)), (12, (.ptr 18 0)), (13, (.ptr 19 0)), (14, (.ptr 20 0)), (15, (.ptr 21 0)), (16, (.ptr 22 0)), (17, (.ptr 23 0)), (18, (.fn (.func 59) [] [])), (19, (aL 1 eS ([(⟨#[97, 100, 100]⟩ : ByteArray), (⟨#[115, 117, 98]⟩ : ByteArray), (⟨#[97, 110, 100]⟩ : ByteArray), (⟨#[111, 114]⟩ : ByteArray), (⟨#[120, 111, 114]⟩ : ByteArray), (⟨#[115, 104, 108]⟩ : ByteArray), (⟨#[115, 104, 114]⟩ : ByteArray), (⟨#[115, 97, 114]⟩ : ByteArray)]))), (92, (aL 1 (eN .u8) [5, 6, 8, 9, 10, 11, 12, 13])), (93, (aN .i64 ([5, 6, 8, 9, 10, 11, 12, 13].length : Int))), (94, (aN .i64 v254))], [(0, (oC 27 [(aS ⟨#[]⟩), (aN .i64 0), (aN .i64 0), aNil, aNil, aNil, aNil])), (1, (oC 27 [(aS v255), (aN .i64 v256), (aN .i64 v257), (.row 9), (aL 2 encMachBank v258), (aL 2 encMachUnit v259), (.row 11)])), (9, (oR 100 4 encMachReg v6)), (11, (oR 61 9 encMachInstr v260)), (12, (oD 107 (encMachOperand r8))), (13, (oD 107 (encMachOperand r10))), (14, (oD 107 (encMachOperand r12))), (15, (oD 107 (encMachOperand r14))), (16, (oD 107 (encMachOperand r16))), (17, (oD 107 (encMachOperand r18))), (18, (oD 114 (encTermX r20))), (19, (oD 114 (encTermX r22))), (20, (oD 114 (encTermX r24))), (21, (oD 114 (encTermX r26))), (22, (oD 114 (encTermX r28))), (23, (oD 114 (encTermX r30)))]⟩) (en [(0, 0), (1, 1), (9, 9), (11, 11), (12, 12), (13, 13), (14, 14), (15, 15), (16, 16), (17, 17), (18, 18), (19, 19), (20, 20), (21, 21), (22, 22), (23, 23)] (ws z z z (ws z z z (ws z z z (ws z z z (ws z z z (ws z z z (ws z z z (ws z z z (ws z z z (ws z z z (ws z z z (ws z z z (ws z z z (ws z z z (ws z z z (ws z z z (wd z (wd z (wd z (wd z w0)))))))))))))))))))) z (hs z z z (hs z z z (hr z (hr z (hc z (hc z (hc z (hc z (hc z (hc z (hc z (hc z (hc z (hc z (hc z (hc z h0))))))))))))))))) <| ?_
    intro n9 v254 v255 v256 v257 v258 v259 v260 H
    rw [api_givenRisc_b9] at H
    refine sgr z <| l (p_lss z z) z <| ne <| wc_seq <| ?_
    rcases cn H with ⟨b261, H⟩ | ⟨b261, H⟩
    · refine c_t z b261 ?_
      refine se <| wc_seq <| wc_block <| sgr z <| lm z z <| ?_
      obtain ⟨r262, e263, H⟩ := ob H
      refine l (p_ixL Tryz.underlying116 ty_5.size z z e263) z <| l (p_ldP ty_5 z z) z <| la z z <| la z z <| ne <| wc_draw [0, 0, 0, 6, 14, 0, 0, 0, 224, 0, 0, 0, 3072, 7680, 15872, 32256, 65535] mixed z <| dm z z <| dm z z <| dm z z <| ?_
      obtain ⟨r264, e265, H⟩ := ob H
      refine dr (p_ixL Tryz.underlying98 ty_9.size z z e265) z <| dr (p_ldP ty_9 z z) z <| dr (p_ldB (ds := (encMachOperand r8).map .data) ty_107 z z z z) z <| dr (p_ldB (ds := (encMachOperand r10).map .data) ty_107 z z z z) z <| dr (p_ldB (ds := (encMachOperand r12).map .data) ty_107 z z z z) z <| dr (p_bs (f := encMachOperand) [.tmp 104, .tmp 105, .tmp 106] [r8, r10, r12] Tryz.underlying58 ty_107.size zr_107 z z z z (el1 (.agg _) z (el1 (.agg _) z (el1 (.agg _) z el0))) z) z <| dm z z <| dr (p_ldB (ds := (encTermX r20).map .data) ty_114 z z z z) z <| dr (p_ldB (ds := (encTermX r22).map .data) ty_114 z z z z) z <| dr (p_bs (f := encTerm) [.tmp 109, .tmp 110] [r20, r22] Tryz.underlying112 ty_114.size zr_114 z z z z (el1X (encTerm_X _) (.agg _) z (el1X (encTerm_X _) (.agg _) z el0)) z) z <| ?_
      obtain ⟨r266, e267, H⟩ := ob H
      refine dr (p_c (api_givenOp_ok e267) ent_51 z z z) z <| ?_
      obtain ⟨r268, e269, H⟩ := ob H
      refine dr (p_c (api_givenSet_ok e269) ent_50 z z z) z <| dr (p_bs (f := encMachEffect) [.tmp 113] [r268] Tryz.underlying59 ty_118.size zr_118 z z z z (el1 (.agg _) z el0) z) z <| ?_
      obtain ⟨r270, e271, H⟩ := ob H
      refine drh (p_cw (ids := [1, 9, 11, 25]) (api_givenRisc_1_ok e271) ent_58 z z z (rc z z (rc z rm (rc z rm (rc z z rn)))) (rc z z (rc z rm (rc z z (rc z rm rn)))) z ⟨z, ⟨z, ⟨z, ⟨z, q⟩⟩⟩⟩ (by decide) z z z (oc z (oc om (oc om (oc z on)))) (oc z (oc om (oc z (oc om on)))) z) z <| ?_
      refine wd_nil ?_ (by kernel_rfl)
      refine e_bn (e_n ?_)
      refine wc_region z <| l (p_add z z) z <| lm z z <| ne <| ?_
      exact ⟨w64 (v254 + 1), r270.2.1, r270.2.2.1, r270.2.2.2.1, r270.2.2.2.2.1, r270.2.2.2.2.2, r270.1, H, en [(0, 0), (1, 1), (9, 9), (25, 11), (12, 12), (13, 13), (14, 14), (15, 15), (16, 16), (17, 17), (18, 18), (19, 19), (20, 20), (21, 21), (22, 22), (23, 23)] (ws z z z (ws z z z (ws z z z (ws z z z (ws z z z (ws z z z (ws z z z (ws z z z (ws z z z (ws z z z (ws z z z (ws z z z (ws z z z (ws z z z (ws z z z (ws z z z (wd z (wd z (wd z (wd z w0)))))))))))))))))))) z (hs z z z (hs z z z (hr z (hr z (hc z (hc z (hc z (hc z (hc z (hc z (hc z (hc z (hc z (hc z (hc z (hc z h0))))))))))))))))⟩
    refine c_f z b261 <| wc_exit <| ?_
    refine e_te (e_te (e_h (e_n ?_)))
    exact ⟨v255, v256, v257, v258, v259, v260, H, en [(0, 0), (1, 1), (9, 9), (11, 11), (12, 12), (13, 13), (14, 14), (15, 15), (16, 16), (17, 17), (18, 18), (19, 19), (20, 20), (21, 21), (22, 22), (23, 23)] (ws z z z (ws z z z (ws z z z (ws z z z (ws z z z (ws z z z (ws z z z (ws z z z (ws z z z (ws z z z (ws z z z (ws z z z (ws z z z (ws z z z (ws z z z (ws z z z w0)))))))))))))))) z (hs z z z (hs z z z (hr z (hr z (hc z (hc z (hc z (hc z (hc z (hc z (hc z (hc z (hc z (hc z (hc z (hc z h0))))))))))))))))⟩
  intro H
  refine sgr z <| ?_
  obtain ⟨r272, e273, H⟩ := ob H
  refine lh (p_ch (ids := [3]) (api_givenNames_ok e273) ent_45 z z (rc z z rn) (rc z rm rn) z ⟨z, q⟩ (by decide) z z z (oc z on) (oc om on) z) z <| l (p_bs (f := eS) [.const (Value.string {data := #[115, 112]}), .const (Value.string {data := #[108, 114]})] [(⟨#[115, 112]⟩ : ByteArray), (⟨#[108, 114]⟩ : ByteArray)] Tryz.underlying98 ty_9.size zr_9 z z z z (el1 (.one _) z (el1 (.one _) z el0)) z) z <| ?_
  obtain ⟨e274, H⟩ := as_ H
  refine lh (p_apA 4 Tryz.underlying98 el_9 z z z z e274) z <| l (p_lenR Tryz.underlying98 z z) z <| lm z z <| ne <| wc_block <| w_lp8 H (fun v275 v276 v277 v278 v279 v280 v281 v282 => ⟨[(0, (.ptr 0 0)), (1, (.ptr 1 0)), (2, (.ptr 2 0)), (39, (.row 4)), (40, (aN .i64 (((r272 ++ [(⟨#[115, 112]⟩ : ByteArray), (⟨#[108, 114]⟩ : ByteArray)]).length : Int)))), (41, (aN .i64 v275))], [(0, (oC 27 [(aS ⟨#[]⟩), (aN .i64 0), (aN .i64 0), aNil, aNil, aNil, aNil])), (1, (oC 27 [(aS v276), (aN .i64 v277), (aN .i64 v278), (.row 9), aNil, (aL 2 encMachUnit v279), aNil])), (2, (oC 97 [(aS v280), (.row 10)])), (4, (oR 9 1 eS (r272 ++ [(⟨#[115, 112]⟩ : ByteArray), (⟨#[108, 114]⟩ : ByteArray)]))), (9, (oR 100 4 encMachReg v281)), (10, (oR 3 1 (eN .i64) v282))]⟩) (Ent.trans (nrc (j := 1) (i := 3) (f := encMachReg) (sz := 4) (e := 100) 5 z z z) (Ent.trans (nrc (j := 2) (i := 1) (f := (eN .i64)) (sz := 1) (e := 3) 6 z z z) (en [(0, 0), (1, 1), (2, 2), (4, 4), (5, 9), (6, 10)] (ws z z z (ws z z z (ws z z z (ws z z z (wd z (wd z w0)))))) z (hs z z z (hs z z z (hs z z z (hr z (hr z (hr z h0))))))))) <| ?_
  intro n10 v275 v276 v277 v278 v279 v280 v281 v282 H
  rw [api_givenRisc_b10] at H
  refine sgr z <| l (p_lss z z) z <| ne <| wc_seq <| ?_
  rcases cn H with ⟨b283, H⟩ | ⟨b283, H⟩
  · refine c_t z b283 ?_
    refine se <| wc_seq <| wc_block <| sgr z <| lm z z <| ?_
    obtain ⟨r284, e285, H⟩ := ob H
    refine l (p_ixR Tryz.underlying98 ty_9.size z z z e285) z <| l (p_ldR (n := v275) (j := 0) (sz := 1) (k := 4) (r := r284) (f := eS) (fun _ => z) ty_9 z z e285 z) z <| la z z <| la z z <| ne <| sgr z <| l (p_fd fld_27_3 z) z <| l (p_ld ty_22 z z z) z <| lm z z <| l (p_bd (cs := (encMachReg ((MachReg.mk r284 32 (-1) 0))).map .data) pl_100 zr_100 z ⟨q, ⟨q, ⟨q, q⟩⟩⟩ z) z <| l (p_bs (f := encMachReg) [.tmp 49] [(MachReg.mk r284 32 (-1) 0)] Tryz.underlying22 ty_100.size zr_100 z z z z (el1 (.agg _) z el0) z) z <| ?_
    obtain ⟨e286, H⟩ := as_ H
    refine lh (p_apA 11 Tryz.underlying22 el_100 z z z z e286) z <| l (p_fd fld_27_3 z) z <| l0h (p_st ty_22 z z z q z z) <| ne <| wc_region z <| l (p_fd fld_97_1 z) z <| l (p_ld ty_29 z z z) z <| lm z z <| l (p_bs (f := (eN .i64)) [.tmp 55] [v275] Tryz.underlying29 ty_3.size zr_3 z z z z (el1 (.one _) z el0) z) z <| ?_
    obtain ⟨e287, H⟩ := as_ H
    refine lh (p_apA 12 Tryz.underlying29 el_3 z z z z e287) z <| l (p_fd fld_97_1 z) z <| l0h (p_st ty_29 z z z q z z) <| wl_nil <| ?_
    refine e_bn (e_n ?_)
    refine wc_region z <| l (p_add z z) z <| lm z z <| ne <| ?_
    exact ⟨w64 (v275 + 1), v276, v277, v278, v279, v280, v281 ++ [(MachReg.mk r284 32 (-1) 0)], v282 ++ [v275], H, en [(0, 0), (1, 1), (2, 2), (4, 4), (11, 9), (12, 10)] (ws z z z (ws z z z (ws z z z (ws z z z (wd z (wd z w0)))))) z (hs z z z (hs z z z (hs z z z (hr z (hr z (hr z h0))))))⟩
  refine c_f z b283 <| wc_exit <| ?_
  refine e_te (e_te (e_h (e_n ?_)))
  exact ⟨v276, v277, v278, v279, v280, v281, v282, H, en [(0, 0), (1, 1), (2, 2), (9, 9), (10, 10)] (ws z z z (ws z z z (ws z z z w0))) z (hs z z z (hs z z z (hs z z z (hr z (hr z h0)))))⟩

def api_Given (x0 : Int) : Option Machine :=
  bif x0 == 1 then
    (api_givenFlags).bind fun r2 =>
    some r2
  else
    bif x0 == 2 then
      (api_givenWide).bind fun r5 =>
      some r5
    else
      (api_givenRisc).bind fun r7 =>
      some r7
theorem api_Given_ok {x0 : Int} {R : Machine} (H : api_Given x0 = some R) : FnOk Tryz.prog K0 8 [(aN .i64 x0)] [] (aA (encMachine R)) [] := by
  refine fn_w (nt := 11) (np := 0) Tryz.func8 z z (by simp) (np_of2 z) <| ?_
  unfold api_Given at H
  refine sgr z <| lh (p_al 0 zr_27 z) z <| ne <| wc_seq <| sgr z <| lm z z <| ne <| wc_block <| sgr z <| l (p_eql z z) z <| la z z <| ne <| ?_
  rcases cn H with ⟨b1, H⟩ | ⟨b1, H⟩
  · refine c_t z b1 ?_
    refine sgr z <| ?_
    obtain ⟨r2, e3, H⟩ := ob H
    refine l (p_c (api_givenFlags_ok e3) ent_23 z z z) z <| l0h (p_stA (ds := (encMachine r2).map .data) ty_27 z z z z z z) <| ne <| wc_ret <| ?_
    refine e_br (e_tr ?_)
    obtain rfl := sm H
    exact fin (Or.inr z) (rs1 (rva (ds := (encMachine r2).map .data) ty_27 z z z z) rs0) (re [] (.adat) z h0)
  refine c_f z b1 <| sgr z <| l (p_eql z z) z <| la z z <| ne <| ?_
  rcases cn H with ⟨b4, H⟩ | ⟨b4, H⟩
  · refine c_t z b4 ?_
    refine sgr z <| ?_
    obtain ⟨r5, e6, H⟩ := ob H
    refine l (p_c (api_givenWide_ok e6) ent_24 z z z) z <| l0h (p_stA (ds := (encMachine r5).map .data) ty_27 z z z z z z) <| ne <| wc_ret <| ?_
    refine e_br (e_tr ?_)
    obtain rfl := sm H
    exact fin (Or.inr z) (rs1 (rva (ds := (encMachine r5).map .data) ty_27 z z z z) rs0) (re [] (.adat) z h0)
  refine c_f z b4 <| wc_skip <| ?_
  refine e_bn (e_n ?_)
  refine sgr z <| ?_
  obtain ⟨r7, e8, H⟩ := ob H
  refine l (p_c (api_givenRisc_ok e8) ent_25 z z z) z <| l0h (p_stA (ds := (encMachine r7).map .data) ty_27 z z z z z z) <| ne <| wc_ret <| ?_
  obtain rfl := sm H
  exact fin (Or.inr z) (rs1 (rva (ds := (encMachine r7).map .data) ty_27 z z z z) rs0) (re [] (.adat) z h0)

def slices_Max_int_int_k2 : Int → Option Int
  | v3 =>
    some v3
def slices_Max_int_int_b3 (x0 : List Int) (k2 : Int → Option Int) (rec3 : Int × Int → Option Int) : Int × Int → Option Int
  | (v4, v5) =>
    bif decide (v5 < (x0.length : Int)) then
      (ix x0 v5).bind fun r7 =>
      rec3 ((max v4 r7, w64 (v5 + 1)))
    else
      k2 v4
def slices_Max_int_int_k1 (x0 : List Int) : Unit → Option Int
  | () =>
    (ix x0 0).bind fun r1 =>
    jn slices_Max_int_int_k2 fun k2 =>
    lp (slices_Max_int_int_b3 x0 k2) (((x0.length : Int) - 1).toNat + 1) (r1, 1)
def slices_Max_int_int (x0 : List Int) : Option Int :=
  jn (slices_Max_int_int_k1 x0) fun k1 =>
  bif decide ((x0.length : Int) < 1) then none else k1 ()
theorem slices_Max_int_int_ok {x0 : List Int} {R : Int} (H : slices_Max_int_int x0 = some R) : FnOk Tryz.prog K0 119 [(aL 1 (eN .i64) x0)] [] (aN .i64 R) [] := by
  refine fn_w (nt := 25) (np := 0) Tryz.func119 z z (by simp) (np_of2 z) <| ?_
  unfold slices_Max_int_int at H
  refine sgr z <| la z z <| ne <| ?_
  refine w_jn0 H (⟨[(0, (aL 1 (eN .i64) x0))], []⟩) ?_ ?_
  · intro H
    rw [slices_Max_int_int_k1] at H
    refine sgr z <| lm z z <| ?_
    obtain ⟨r1, e2, H⟩ := ob H
    refine l (p_ixL Tryz.underlying29 ty_3.size z z e2) z <| l (p_ldP ty_3 z z) z <| la z z <| ne <| ?_
    refine w_jn1 H (fun v3 => ⟨[(3, (aN .i64 v3))], []⟩) ?_ ?_
    · intro v3 H
      rw [slices_Max_int_int_k2] at H
      refine sgr z <| lm z z <| la z z <| ne <| wc_ret <| ?_
      obtain rfl := sm H
      exact fin (Or.inr z) (rs1 (rv z) rs0) (re [] (.dat) z h0)
    intro H
    refine sgr z <| la z z <| ne <| wc_block <| w_lp2 H (fun v4 v5 => ⟨[(0, (aL 1 (eN .i64) x0)), (3, (aN .i64 v4)), (4, (aN .i64 v5))], []⟩) (en [] (wd z (wd z (wd z w0))) z h0) <| ?_
    intro n3 v4 v5 H
    rw [slices_Max_int_int_b3] at H
    refine wc_seq <| sgr z <| lm z z <| lm z z <| l (p_lenL Tryz.underlying29 z) z <| l (p_lss z z) z <| ne <| ?_
    rcases cn H with ⟨b6, H⟩ | ⟨b6, H⟩
    · refine c_t z b6 ?_
      refine se <| wc_seq <| wc_block <| wc_region z <| lm z z <| lm z z <| lm z z <| ?_
      obtain ⟨r7, e8, H⟩ := ob H
      refine l (p_ixL Tryz.underlying29 ty_3.size z z e8) z <| l (p_ldP ty_3 z z) z <| l (p_max z z) z <| la z z <| wl_nil <| ?_
      refine e_bn (e_n ?_)
      refine wc_region z <| lm z z <| l (p_add z z) z <| la z z <| ne <| ?_
      exact ⟨max v4 r7, w64 (v5 + 1), H, en [] (wd z (wd z (wd z w0))) z h0⟩
    refine c_f z b6 <| wc_exit <| ?_
    refine e_te (e_te (e_h (e_n ?_)))
    exact ⟨v4, H, en [] (wd z w0) z h0⟩
  intro H
  refine sgr z <| lm z z <| l (p_lenL Tryz.underlying29 z) z <| l (p_lss z z) z <| ne <| ?_
  rcases cn H with ⟨b9, H⟩ | ⟨b9, H⟩
  · refine c_t z b9 ?_
    cases H
  refine c_f z b9 <| se <| ?_
  exact ⟨H, en [] (wd z w0) z h0⟩

def machine_fewer (x0 : Int) (x1 : List Int) : Option Bool :=
  asr (roomy (x1.length + [0].length) 8) <|
  asr (!x1.isEmpty) <|
  (slices_Max_int_int (x1 ++ [0])).bind fun r3 =>
  some (decide (r3 ≤ x0))
theorem machine_fewer_ok {x0 : Int} {x1 : List Int} {R : Bool} (H : machine_fewer x0 x1 = some R) : FnOk Tryz.prog K0 103 [(aN .i64 x0), (aF 1 (eN .i64) x1)] [] (aT R) [] := by
  refine fn_w (nt := 11) (np := 0) Tryz.func103 z z (by simp) (np_of2 z) <| ?_
  unfold machine_fewer at H
  refine sgr z <| la z z <| ne <| sgr z <| lm z z <| l (p_bs (f := (eN .i64)) [.const (Value.int IntKind.i64 0)] [0] Tryz.underlying29 ty_3.size zr_3 z z z z (el1 (.one _) z el0) z) z <| ?_
  obtain ⟨e1, H⟩ := as_ H
  obtain ⟨e2, H⟩ := as_ H
  refine lh (p_apF 1 0 Tryz.underlying29 el_3 z z e2 z z z z e1) z <| ?_
  obtain ⟨r3, e4, H⟩ := ob H
  refine l (p_cb (slices_Max_int_int_ok e4) ent_119 z z (ld1 ld0) lit_d (fun _ => z)) z <| lm z z <| l (p_leq z z) z <| la z z <| ne <| wc_ret <| ?_
  obtain rfl := sm H
  exact fin (Or.inr z) (rs1 (rv z) rs0) (re [] (.dat) z h0)

def machine_small_k2 : Bool → Option Bool
  | v10 =>
    some v10
def machine_small_k4 (v12 : Int) (rec3 : Bool × Int → Option Bool) : Bool → Option Bool
  | v14 =>
    rec3 ((v14, w64 (v12 + 1)))
def machine_small_b5 (k4 : Bool → Option Bool) (r15 : MachInstr) (rec5 : Bool × Int → Option Bool) : Bool × Int → Option Bool
  | (v21, v22) =>
    bif decide (v22 < (r15.Operands.length : Int)) then
      (ix r15.Operands v22).bind fun r24 =>
      (bif (true && (v21 == true)) then machine_fewer 4 [(r24.Pieces.length : Int)] else some default).bind fun r26 =>
      rec5 ((v21 && r26, w64 (v22 + 1)))
    else
      k4 v21
def machine_small_b3 (x0 : Machine) (k2 : Bool → Option Bool) (rec3 : Bool × Int → Option Bool) : Bool × Int → Option Bool
  | (v11, v12) =>
    bif decide (v12 < (x0.Instrs.length : Int)) then
      jn (machine_small_k4 v12 rec3) fun k4 =>
      (ix x0.Instrs v12).bind fun r15 =>
      (bif (true && (v11 == true)) then machine_fewer 4 [(r15.Operands.length : Int)] else some default).bind fun r17 =>
      (bif (true && ((v11 && r17) == true)) then machine_fewer 4 [(r15.Effects.length : Int)] else some default).bind fun r19 =>
      lp (machine_small_b5 k4 r15) (r15.Operands.length + 1) (((v11 && r17) && r19, 0))
    else
      k2 v11
def machine_small_k1 (x0 : Machine) : Bool → Option Bool
  | v9 =>
    jn machine_small_k2 fun k2 =>
    lp (machine_small_b3 x0 k2) (x0.Instrs.length + 1) (v9, 0)
def machine_small_b6 (x0 : Machine) (k1 : Bool → Option Bool) (rec6 : Bool × Int → Option Bool) : Bool × Int → Option Bool
  | (v28, v29) =>
    bif decide (v29 < (x0.Banks.length : Int)) then
      (ix x0.Banks v29).bind fun r31 =>
      (bif (true && (v28 == true)) then machine_fewer 64 [(r31.Regs.length : Int)] else some default).bind fun r33 =>
      rec6 ((v28 && r33, w64 (v29 + 1)))
    else
      k1 v28
def machine_small (x0 : Machine) : Option Bool :=
  (machine_fewer 64 [(x0.Regs.length : Int)]).bind fun r1 =>
  (bif (true && (r1 == true)) then machine_fewer 16 [(x0.Banks.length : Int)] else some default).bind fun r3 =>
  (bif (true && ((r1 && r3) == true)) then machine_fewer 8 [(x0.Units.length : Int)] else some default).bind fun r5 =>
  (bif (true && (((r1 && r3) && r5) == true)) then machine_fewer 64 [(x0.Instrs.length : Int)] else some default).bind fun r7 =>
  jn (machine_small_k1 x0) fun k1 =>
  lp (machine_small_b6 x0 k1) (x0.Banks.length + 1) ((((r1 && r3) && r5) && r7, 0))
theorem machine_small_ok {x0 : Machine} {R : Bool} (H : machine_small x0 = some R) : FnOk Tryz.prog K0 83 [(aA (encMachine x0))] [] (aT R) [] := by
  refine fn_w (nt := 92) (np := 0) Tryz.func83 z z (by simp) (np_of2 z) <| ?_
  unfold machine_small at H
  refine sgr z <| lh (p_bx 0 z q z) z <| la z z <| ne <| sgr z <| l (p_fd fld_27_3 z) z <| l (p_ld ty_22 z z z) z <| l (p_lenL Tryz.underlying22 z) z <| l (p_bsF (f := (eN .i64)) [.tmp 12] [(x0.Regs.length : Int)] Tryz.underlying29 ty_3.size zr_3 z z z z (el1 (.one _) z el0) z) z <| ?_
  obtain ⟨r1, e2, H⟩ := ob H
  refine l (p_c (machine_fewer_ok e2) ent_103 z z z) z <| lm z z <| lw z (Grd.plain _) z [1] z (s1 strip_same s0) (fun hw => p_fd fld_27_4 z) ⟨z, q⟩ (by exact q) z z <| lw z (Grd.plain _) z [16] z (s1 (strip_when id) s0) (fun hw => p_ld ty_23 z z z) ⟨z, q⟩ (by exact ⟨z, q⟩) z z <| lw z (Grd.plain _) z [17] z (s1 (strip_when id) s0) (fun hw => p_lenL Tryz.underlying23 z) ⟨z, q⟩ (by exact q) z z <| lw z (Grd.plain _) z [18] z (s1 (strip_when id) s0) (fun hw => p_bsF (f := (eN .i64)) [.tmp 18] [(x0.Banks.length : Int)] Tryz.underlying29 ty_3.size zr_3 z z z z (el1 (.one _) z el0) z) ⟨z, q⟩ (by exact q) z z <| ?_
  obtain ⟨r3, e4, H⟩ := ob H
  refine lw z (Grd.plain _) z [19] z (s1 (strip_when id) s0) (fun hw => p_c (machine_fewer_ok (bt hw e4)) ent_103 z z z) ⟨z, q⟩ (by exact q) z z <| l (p_pkA z z q (strip_when (wt))) z <| lm z z <| lw z (Grd.plain _) z [1] z (s1 strip_same s0) (fun hw => p_fd fld_27_5 z) ⟨z, q⟩ (by exact q) z z <| lw z (Grd.plain _) z [23] z (s1 (strip_when id) s0) (fun hw => p_ld ty_24 z z z) ⟨z, q⟩ (by exact ⟨z, q⟩) z z <| lw z (Grd.plain _) z [24] z (s1 (strip_when id) s0) (fun hw => p_lenL Tryz.underlying24 z) ⟨z, q⟩ (by exact q) z z <| lw z (Grd.plain _) z [25] z (s1 (strip_when id) s0) (fun hw => p_bsF (f := (eN .i64)) [.tmp 25] [(x0.Units.length : Int)] Tryz.underlying29 ty_3.size zr_3 z z z z (el1 (.one _) z el0) z) ⟨z, q⟩ (by exact q) z z <| ?_
  obtain ⟨r5, e6, H⟩ := ob H
  refine lw z (Grd.plain _) z [26] z (s1 (strip_when id) s0) (fun hw => p_c (machine_fewer_ok (bt hw e6)) ent_103 z z z) ⟨z, q⟩ (by exact q) z z <| l (p_pkA z z q (strip_when (wt))) z <| lm z z <| lw z (Grd.plain _) z [1] z (s1 strip_same s0) (fun hw => p_fd fld_27_6 z) ⟨z, q⟩ (by exact q) z z <| lw z (Grd.plain _) z [30] z (s1 (strip_when id) s0) (fun hw => p_ld ty_25 z z z) ⟨z, q⟩ (by exact ⟨z, q⟩) z z <| lw z (Grd.plain _) z [31] z (s1 (strip_when id) s0) (fun hw => p_lenL Tryz.underlying25 z) ⟨z, q⟩ (by exact q) z z <| lw z (Grd.plain _) z [32] z (s1 (strip_when id) s0) (fun hw => p_bsF (f := (eN .i64)) [.tmp 32] [(x0.Instrs.length : Int)] Tryz.underlying29 ty_3.size zr_3 z z z z (el1 (.one _) z el0) z) ⟨z, q⟩ (by exact q) z z <| ?_
  obtain ⟨r7, e8, H⟩ := ob H
  refine lw z (Grd.plain _) z [33] z (s1 (strip_when id) s0) (fun hw => p_c (machine_fewer_ok (bt hw e8)) ent_103 z z z) ⟨z, q⟩ (by exact q) z z <| l (p_pkA z z q (strip_when (wt))) z <| la z z <| ne <| ?_
  refine w_jn1 H (fun v9 => ⟨[(1, (.ptr 0 0)), (3, (aT v9))], [(0, (oD 27 (encMachine x0)))]⟩) ?_ ?_
  · intro v9 H
    rw [machine_small_k1] at H
    refine w_jn1 H (fun v10 => ⟨[(3, (aT v10))], []⟩) ?_ ?_
    · intro v10 H
      rw [machine_small_k2] at H
      refine sgr z <| lm z z <| la z z <| ne <| wc_ret <| ?_
      obtain rfl := sm H
      exact fin (Or.inr z) (rs1 (rv z) rs0) (re [] (.dat) z h0)
    intro H
    refine sgr z <| l (p_fd fld_27_6 z) z <| l (p_ld ty_25 z z z) z <| l (p_lenL Tryz.underlying25 z) z <| lm z z <| ne <| wc_block <| w_lp2 H (fun v11 v12 => ⟨[(3, (aT v11)), (53, (aL 9 encMachInstr x0.Instrs)), (54, (aN .i64 (x0.Instrs.length : Int))), (55, (aN .i64 v12))], []⟩) (en [] (wd z (wd z (wd z (wd z w0)))) z h0) <| ?_
    intro n3 v11 v12 H
    rw [machine_small_b3] at H
    refine sgr z <| l (p_lss z z) z <| ne <| wc_seq <| ?_
    rcases cn H with ⟨b13, H⟩ | ⟨b13, H⟩
    · refine c_t z b13 ?_
      refine se <| ?_
      refine w_jn1 H (fun v14 => ⟨[(3, (aT v14)), (53, (aL 9 encMachInstr x0.Instrs)), (54, (aN .i64 (x0.Instrs.length : Int))), (55, (aN .i64 v12))], []⟩) ?_ ?_
      · intro v14 H
        rw [machine_small_k4] at H
        refine wc_region z <| l (p_add z z) z <| lm z z <| ne <| ?_
        exact ⟨v14, w64 (v12 + 1), H, en [] (wd z (wd z (wd z (wd z w0)))) z h0⟩
      intro H
      refine wc_block <| sgr z <| ?_
      obtain ⟨r15, e16, H⟩ := ob H
      refine l (p_ixL Tryz.underlying25 ty_61.size z z e16) z <| l (p_ldA (ds := encMachInstr r15) ty_61 z z z) z <| lh (p_al 4 zr_61 z) z <| l0h (p_stA (ds := (encMachInstr r15).map .data) ty_61 z z z z z z) <| ne <| sgr z <| lm z z <| lm z z <| lw z (Grd.plain _) z [7] z (s1 strip_same s0) (fun hw => p_fd fld_61_3 z) ⟨z, q⟩ (by exact q) z z <| lw z (Grd.plain _) z [61] z (s1 (strip_when id) s0) (fun hw => p_ld ty_58 z z z) ⟨z, q⟩ (by exact ⟨z, q⟩) z z <| lw z (Grd.plain _) z [62] z (s1 (strip_when id) s0) (fun hw => p_lenL Tryz.underlying58 z) ⟨z, q⟩ (by exact q) z z <| lw z (Grd.plain _) z [63] z (s1 (strip_when id) s0) (fun hw => p_bsF (f := (eN .i64)) [.tmp 63] [(r15.Operands.length : Int)] Tryz.underlying29 ty_3.size zr_3 z z z z (el1 (.one _) z el0) z) ⟨z, q⟩ (by exact q) z z <| ?_
      obtain ⟨r17, e18, H⟩ := ob H
      refine lw z (Grd.plain _) z [64] z (s1 (strip_when id) s0) (fun hw => p_c (machine_fewer_ok (bt hw e18)) ent_103 z z z) ⟨z, q⟩ (by exact q) z z <| l (p_pkA z z q (strip_when (wt))) z <| lm z z <| lw z (Grd.plain _) z [7] z (s1 strip_same s0) (fun hw => p_fd fld_61_4 z) ⟨z, q⟩ (by exact q) z z <| lw z (Grd.plain _) z [68] z (s1 (strip_when id) s0) (fun hw => p_ld ty_59 z z z) ⟨z, q⟩ (by exact ⟨z, q⟩) z z <| lw z (Grd.plain _) z [69] z (s1 (strip_when id) s0) (fun hw => p_lenL Tryz.underlying59 z) ⟨z, q⟩ (by exact q) z z <| lw z (Grd.plain _) z [70] z (s1 (strip_when id) s0) (fun hw => p_bsF (f := (eN .i64)) [.tmp 70] [(r15.Effects.length : Int)] Tryz.underlying29 ty_3.size zr_3 z z z z (el1 (.one _) z el0) z) ⟨z, q⟩ (by exact q) z z <| ?_
      obtain ⟨r19, e20, H⟩ := ob H
      refine lw z (Grd.plain _) z [71] z (s1 (strip_when id) s0) (fun hw => p_c (machine_fewer_ok (bt hw e20)) ent_103 z z z) ⟨z, q⟩ (by exact q) z z <| l (p_pkA z z q (strip_when (wt))) z <| la z z <| ne <| sgr z <| l (p_fd fld_61_3 z) z <| l (p_ld ty_58 z z z) z <| l (p_lenL Tryz.underlying58 z) z <| lm z z <| ne <| wc_block <| w_lp2 H (fun v21 v22 => ⟨[(3, (aT v21)), (53, (aL 9 encMachInstr x0.Instrs)), (54, (aN .i64 (x0.Instrs.length : Int))), (55, (aN .i64 v12)), (75, (aL 6 encMachOperand r15.Operands)), (76, (aN .i64 (r15.Operands.length : Int))), (77, (aN .i64 v22))], []⟩) (en [] (wd z (wd z (wd z (wd z (wd z (wd z (wd z w0))))))) z h0) <| ?_
      intro n5 v21 v22 H
      rw [machine_small_b5] at H
      refine sgr z <| l (p_lss z z) z <| ne <| wc_seq <| ?_
      rcases cn H with ⟨b23, H⟩ | ⟨b23, H⟩
      · refine c_t z b23 ?_
        refine se <| wc_seq <| wc_block <| sgr z <| ?_
        obtain ⟨r24, e25, H⟩ := ob H
        refine l (p_ixL Tryz.underlying58 ty_107.size z z e25) z <| l (p_ldA (ds := encMachOperand r24) ty_107 z z z) z <| lh (p_al 6 zr_107 z) z <| l0h (p_stA (ds := (encMachOperand r24).map .data) ty_107 z z z z z z) <| ne <| wc_region z <| lm z z <| lm z z <| lw z (Grd.plain _) z [9] z (s1 strip_same s0) (fun hw => p_fd fld_107_4 z) ⟨z, q⟩ (by exact q) z z <| lw z (Grd.plain _) z [83] z (s1 (strip_when id) s0) (fun hw => p_ld ty_105 z z z) ⟨z, q⟩ (by exact ⟨z, q⟩) z z <| lw z (Grd.plain _) z [84] z (s1 (strip_when id) s0) (fun hw => p_lenL Tryz.underlying105 z) ⟨z, q⟩ (by exact q) z z <| lw z (Grd.plain _) z [85] z (s1 (strip_when id) s0) (fun hw => p_bsF (f := (eN .i64)) [.tmp 85] [(r24.Pieces.length : Int)] Tryz.underlying29 ty_3.size zr_3 z z z z (el1 (.one _) z el0) z) ⟨z, q⟩ (by exact q) z z <| ?_
        obtain ⟨r26, e27, H⟩ := ob H
        refine lw z (Grd.plain _) z [86] z (s1 (strip_when id) s0) (fun hw => p_c (machine_fewer_ok (bt hw e27)) ent_103 z z z) ⟨z, q⟩ (by exact q) z z <| l (p_pkA z z q (strip_when (wt))) z <| la z z <| wl_nil <| ?_
        refine e_bn (e_n ?_)
        refine wc_region z <| l (p_add z z) z <| lm z z <| ne <| ?_
        exact ⟨v21 && r26, w64 (v22 + 1), H, en [] (wd z (wd z (wd z (wd z (wd z (wd z (wd z w0))))))) z h0⟩
      refine c_f z b23 <| wc_exit <| ?_
      refine e_te (e_te (e_h (e_bn (e_n ?_))))
      exact ⟨v21, H, en [] (wd z (wd z (wd z (wd z w0)))) z h0⟩
    refine c_f z b13 <| wc_exit <| ?_
    refine e_te (e_te (e_h (e_n ?_)))
    exact ⟨v11, H, en [] (wd z w0) z h0⟩
  intro H
  refine sgr z <| l (p_fd fld_27_4 z) z <| l (p_ld ty_23 z z z) z <| l (p_lenL Tryz.underlying23 z) z <| lm z z <| ne <| wc_block <| w_lp2 H (fun v28 v29 => ⟨[(1, (.ptr 0 0)), (3, (aT v28)), (37, (aL 2 encMachBank x0.Banks)), (38, (aN .i64 (x0.Banks.length : Int))), (39, (aN .i64 v29))], [(0, (oD 27 (encMachine x0)))]⟩) (en [(0, 0)] (ws z z z (wd z (wd z (wd z (wd z w0))))) z (hc z h0)) <| ?_
  intro n6 v28 v29 H
  rw [machine_small_b6] at H
  refine sgr z <| l (p_lss z z) z <| ne <| wc_seq <| ?_
  rcases cn H with ⟨b30, H⟩ | ⟨b30, H⟩
  · refine c_t z b30 ?_
    refine se <| wc_seq <| wc_block <| sgr z <| ?_
    obtain ⟨r31, e32, H⟩ := ob H
    refine l (p_ixL Tryz.underlying23 ty_97.size z z e32) z <| l (p_ldA (ds := encMachBank r31) ty_97 z z z) z <| lh (p_al 2 zr_97 z) z <| l0h (p_stA (ds := (encMachBank r31).map .data) ty_97 z z z z z z) <| ne <| wc_region z <| lm z z <| lm z z <| lw z (Grd.plain _) z [5] z (s1 strip_same s0) (fun hw => p_fd fld_97_1 z) ⟨z, q⟩ (by exact q) z z <| lw z (Grd.plain _) z [45] z (s1 (strip_when id) s0) (fun hw => p_ld ty_29 z z z) ⟨z, q⟩ (by exact ⟨z, q⟩) z z <| lw z (Grd.plain _) z [46] z (s1 (strip_when id) s0) (fun hw => p_lenL Tryz.underlying29 z) ⟨z, q⟩ (by exact q) z z <| lw z (Grd.plain _) z [47] z (s1 (strip_when id) s0) (fun hw => p_bsF (f := (eN .i64)) [.tmp 47] [(r31.Regs.length : Int)] Tryz.underlying29 ty_3.size zr_3 z z z z (el1 (.one _) z el0) z) ⟨z, q⟩ (by exact q) z z <| ?_
    obtain ⟨r33, e34, H⟩ := ob H
    refine lw z (Grd.plain _) z [48] z (s1 (strip_when id) s0) (fun hw => p_c (machine_fewer_ok (bt hw e34)) ent_103 z z z) ⟨z, q⟩ (by exact q) z z <| l (p_pkA z z q (strip_when (wt))) z <| la z z <| wl_nil <| ?_
    refine e_bn (e_n ?_)
    refine wc_region z <| l (p_add z z) z <| lm z z <| ne <| ?_
    exact ⟨v28 && r33, w64 (v29 + 1), H, en [(0, 0)] (ws z z z (wd z (wd z (wd z (wd z w0))))) z (hc z h0)⟩
  refine c_f z b30 <| wc_exit <| ?_
  refine e_te (e_te (e_h (e_n ?_)))
  exact ⟨v28, H, en [(0, 0)] (ws z z z (wd z w0)) z (hc z h0)⟩

def bits_Name_k1 : Unit → Option Bool
  | () =>
    some true
def bits_Name_b2 (x0 : ByteArray) (k1 : Unit → Option Bool) (rec2 : Int → Option Bool) : Int → Option Bool
  | v2 =>
    bif decide (v2 < (x0.size : Int)) then
      (sIx x0 v2).bind fun r4 =>
      bif (!(((decide (97 ≤ r4)) && (decide (r4 ≤ 122))) || ((decide (65 ≤ r4)) && (decide (r4 ≤ 90))))) && ((v2 == 0) || ((r4 != 95) && ((decide (r4 < 48)) || (decide (57 < r4))))) then some false else rec2 (w64 (v2 + 1))
    else
      k1 ()
def bits_Name (x0 : ByteArray) : Option Bool :=
  bif (decide ((x0.size : Int) < 1)) || (decide (24 < (x0.size : Int))) then
    some false
  else
    jn bits_Name_k1 fun k1 =>
    lp (bits_Name_b2 x0 k1) (x0.size + 1) 0
theorem bits_Name_ok {x0 : ByteArray} {R : Bool} (H : bits_Name x0 = some R) : FnOk Tryz.prog K0 85 [(aS x0)] [] (aT R) [] := by
  refine fn_w (nt := 55) (np := 0) Tryz.func85 z z (by simp) (np_of2 z) <| ?_
  unfold bits_Name at H
  refine sgr z <| la z z <| ne <| wc_seq <| sgr z <| lm z z <| l (p_lenS Tryz.underlying9 z) z <| l (p_lss z z) z <| lm z z <| lw z (Grd.plain _) z [0] z (s1 strip_same s0) (fun hw => p_mv z) ⟨z, q⟩ (by exact q) z z <| lw z (Grd.plain _) z [10] z (s1 (strip_when id) s0) (fun hw => p_lenS Tryz.underlying9 z) ⟨z, q⟩ (by exact q) z z <| lw z (Grd.plain _) z [11] z (s1 (strip_when id) s0) (fun hw => p_gtr z z) ⟨z, q⟩ (by exact q) z z <| l (p_pkO z z q (strip_when (wf))) z <| ne <| ?_
  rcases cn H with ⟨b1, H⟩ | ⟨b1, H⟩
  · refine c_t z b1 ?_
    refine sgr z <| la z z <| ne <| wc_ret <| e_tr <| ?_
    obtain rfl := sm H
    exact fin (Or.inr z) (rs1 (rv z) rs0) (re [] (.dat) z h0)
  refine c_f z b1 <| se <| ?_
  refine w_jn0 H (⟨[], []⟩) ?_ ?_
  · intro H
    rw [bits_Name_k1] at H
    refine sgr z <| la z z <| ne <| wc_ret <| ?_
    obtain rfl := sm H
    exact fin (Or.inr z) (rs1 (rv z) rs0) (re [] (.dat) z h0)
  intro H
  refine sgr z <| lm z z <| l (p_lenS Tryz.underlying9 z) z <| lm z z <| ne <| wc_block <| w_lp1 H (fun v2 => ⟨[(0, (aS x0)), (15, (aN .i64 (x0.size : Int))), (16, (aN .i64 v2))], []⟩) (en [] (wd z (wd z (wd z w0))) z h0) <| ?_
  intro n2 v2 H
  rw [bits_Name_b2] at H
  refine sgr z <| l (p_lss z z) z <| ne <| wc_seq <| ?_
  rcases cn H with ⟨b3, H⟩ | ⟨b3, H⟩
  · refine c_t z b3 ?_
    refine se <| wc_seq <| wc_block <| sgr z <| lm z z <| la z z <| ne <| sgr z <| lm z z <| lm z z <| ?_
    obtain ⟨r4, e5, H⟩ := ob H
    refine l (p_ixS Tryz.underlying9 z z e5) z <| la z z <| ne <| sgr z <| lm z z <| l (p_geq z z) z <| lm z z <| lw z (Grd.plain _) z [4] z (s1 strip_same s0) (fun hw => p_mv z) ⟨z, q⟩ (by exact q) z z <| lw z (Grd.plain _) z [25] z (s1 (strip_when id) s0) (fun hw => p_leq z z) ⟨z, q⟩ (by exact q) z z <| l (p_pkA z z q (strip_when (wt))) z <| lm z z <| lw z (Grd.plain _) z [4] z (s1 strip_same s0) (fun hw => p_mv z) ⟨z, q⟩ (by exact q) z z <| lw z (Grd.plain _) z [29] z (s1 (strip_when id) s0) (fun hw => p_geq z z) ⟨z, q⟩ (by exact q) z z <| lw z (Grd.plain _) z [30] z (s1 (strip_when id) s0) (fun hw => p_mv z) ⟨z, q⟩ (by exact q) z z <| lw z (Grd.under _ _) z [4] z (s1 strip_same s0) (fun hw => p_mv z) ⟨z, q⟩ (by exact q) z z <| lw z (Grd.under _ _) z [32] z (s1 (strip_when id) s0) (fun hw => p_leq z z) ⟨z, q⟩ (by exact q) z z <| lw z (Grd.plain _) z [31, 33] z (s1 (strip_when id) (s1 strip_same s0)) (fun hw => p_pkA z z q (strip_when (wtc hw))) ⟨z, ⟨z, q⟩⟩ (by exact q) z z <| l (p_pkO z z q (strip_when (wf))) z <| la z z <| ne <| sgr z <| lm z z <| l (p_not z) z <| lm z z <| lw z (Grd.plain _) z [3] z (s1 strip_same s0) (fun hw => p_mv z) ⟨z, q⟩ (by exact q) z z <| lw z (Grd.plain _) z [39] z (s1 (strip_when id) s0) (fun hw => p_eql z z) ⟨z, q⟩ (by exact q) z z <| lw z (Grd.plain _) z [40] z (s1 (strip_when id) s0) (fun hw => p_mv z) ⟨z, q⟩ (by exact q) z z <| lw z (Grd.under _ _) z [4] z (s1 strip_same s0) (fun hw => p_mv z) ⟨z, q⟩ (by exact q) z z <| lw z (Grd.under _ _) z [42] z (s1 (strip_when id) s0) (fun hw => p_neq z z) ⟨z, q⟩ (by exact q) z z <| lw z (Grd.under _ _) z [43] z (s1 (strip_when id) s0) (fun hw => p_mv z) ⟨z, q⟩ (by exact q) z z <| lw z (Grd.under _ _) z [4] z (s1 strip_same s0) (fun hw => p_mv z) ⟨z, q⟩ (by exact q) z z <| lw z (Grd.under _ _) z [45] z (s1 (strip_when id) s0) (fun hw => p_lss z z) ⟨z, q⟩ (by exact q) z z <| lw z (Grd.under _ _) z [46] z (s1 (strip_when id) s0) (fun hw => p_mv z) ⟨z, q⟩ (by exact q) z z <| lw z (Grd.under _ _) z [4] z (s1 strip_same s0) (fun hw => p_mv z) ⟨z, q⟩ (by exact q) z z <| lw z (Grd.under _ _) z [48] z (s1 (strip_when id) s0) (fun hw => p_gtr z z) ⟨z, q⟩ (by exact q) z z <| lw z (Grd.under _ _) z [47, 49] z (s1 (strip_when id) (s1 strip_same s0)) (fun hw => p_pkO z z q (strip_when (wfc hw))) ⟨z, ⟨z, q⟩⟩ (by exact q) z z <| lw z (Grd.under _ _) z [44, 50] z (s1 (strip_when id) (s1 strip_same s0)) (fun hw => p_pkA z z q (strip_when (wtc hw))) ⟨z, ⟨z, q⟩⟩ (by exact q) z z <| lw z (Grd.plain _) z [41, 51] z (s1 (strip_when id) (s1 strip_same s0)) (fun hw => p_pkO z z q (strip_when (wfc hw))) ⟨z, ⟨z, q⟩⟩ (by exact q) z z <| l (p_pkA z z q (strip_when (wt))) z <| ne <| ?_
    rcases cn H with ⟨b6, H⟩ | ⟨b6, H⟩
    · refine c_t z b6 ?_
      refine sgr z <| la z z <| ne <| wc_ret <| ?_
      refine e_br (e_tr (e_tr (e_br (e_tr ?_))))
      obtain rfl := sm H
      exact fin (Or.inr z) (rs1 (rv z) rs0) (re [] (.dat) z h0)
    refine c_f z b6 <| wc_skip <| ?_
    refine e_bn (e_n ?_)
    refine wc_region z <| l (p_add z z) z <| lm z z <| ne <| ?_
    exact ⟨w64 (v2 + 1), H, en [] (wd z (wd z (wd z w0))) z h0⟩
  refine c_f z b3 <| wc_exit <| ?_
  refine e_te (e_te (e_h (e_n ?_)))
  exact ⟨H, en [] w0 z h0⟩

def machine_within (x0 : Int) (x1 : Int) (x2 : Int) : Option Bool :=
  some ((decide (x1 ≤ x0)) && (decide (x0 ≤ x2)))
theorem machine_within_ok {x0 : Int} {x1 : Int} {x2 : Int} {R : Bool} (H : machine_within x0 x1 x2 = some R) : FnOk Tryz.prog K0 64 [(aN .i64 x0), (aN .i64 x1), (aN .i64 x2)] [] (aT R) [] := by
  refine fn_w (nt := 15) (np := 0) Tryz.func64 z z (by simp) (np_of2 z) <| ?_
  unfold machine_within at H
  refine sgr z <| la z z <| ne <| sgr z <| lm z z <| lm z z <| l (p_leq z z) z <| lm z z <| lw z (Grd.plain _) z [0] z (s1 strip_same s0) (fun hw => p_mv z) ⟨z, q⟩ (by exact q) z z <| lw z (Grd.plain _) z [2] z (s1 strip_same s0) (fun hw => p_mv z) ⟨z, q⟩ (by exact q) z z <| lw z (Grd.plain _) z [11, 12] z (s1 (strip_when id) (s1 (strip_when id) s0)) (fun hw => p_leq z z) ⟨z, ⟨z, q⟩⟩ (by exact q) z z <| l (p_pkA z z q (strip_when (wt))) z <| la z z <| ne <| wc_ret <| ?_
  obtain rfl := sm H
  exact fin (Or.inr z) (rs1 (rv z) rs0) (re [] (.dat) z h0)

def machine_checker_must_b1 (x1 : List Bool) (rec1 : Int × machine_checker → Option machine_checker) : Int × machine_checker → Option machine_checker
  | (v1, v2) =>
    bif decide (v1 < (x1.length : Int)) then
      (ix x1 v1).bind fun r4 =>
      rec1 ((w64 (v1 + 1), (machine_checker.mk v2.Machine (v2.ok && r4))))
    else
      some v2
def machine_checker_must (x0 : machine_checker) (x1 : List Bool) : Option machine_checker :=
  lp (machine_checker_must_b1 x1) (x1.length + 1) (0, x0)
theorem machine_checker_must_ok {x0 : machine_checker} {x1 : List Bool} {R : machine_checker} (H : machine_checker_must x0 x1 = some R) : FnOk Tryz.prog K0 84 [(.ptr 0 0), (aL 1 eT x1)] [(0, (oD 150 (encmachine_checker x0)))] (.tup []) [(0, (oD 150 (encmachine_checker R)))] := by
  refine fn_w (nt := 23) (np := 1) Tryz.func84 z z (by simp) (np_of2 z) <| ?_
  unfold machine_checker_must at H
  refine sgr z <| lm z z <| l (p_lenL Tryz.underlying167 z) z <| lm z z <| ne <| wc_block <| w_lp2 H (fun v1 v2 => ⟨[(0, (.ptr 0 0)), (6, (aL 1 eT x1)), (7, (aN .i64 (x1.length : Int))), (8, (aN .i64 v1))], [(0, (oD 150 (encmachine_checker v2)))]⟩) (en [(0, 0)] (ws z z z (wd z (wd z (wd z w0)))) z (hc z h0)) <| ?_
  intro n1 v1 v2 H
  rw [machine_checker_must_b1] at H
  refine sgr z <| l (p_lss z z) z <| ne <| wc_seq <| ?_
  rcases cn H with ⟨b3, H⟩ | ⟨b3, H⟩
  · refine c_t z b3 ?_
    refine se <| wc_seq <| wc_block <| sgr z <| ?_
    obtain ⟨r4, e5, H⟩ := ob H
    refine l (p_ixL Tryz.underlying167 ty_4.size z z e5) z <| l (p_ldP ty_4 z z) z <| la z z <| ne <| wc_region z <| lm z z <| lm z z <| l (p_nl z) z <| l (p_fd fld_150_1 z) z <| l (p_ld ty_4 z z z) z <| lm z z <| lw z (Grd.plain _) z [5] z (s1 strip_same s0) (fun hw => p_mv z) ⟨z, q⟩ (by exact q) z z <| l (p_pkA z z q (strip_when (wt))) z <| l (p_nl z) z <| l (p_fd fld_150_1 z) z <| l0h (p_st ty_4 z z z q z z) <| wl_nil <| ?_
    refine e_bn (e_n ?_)
    refine wc_region z <| l (p_add z z) z <| lm z z <| ne <| ?_
    exact ⟨w64 (v1 + 1), (machine_checker.mk v2.Machine (v2.ok && r4)), H, en [(0, 0)] (ws z z z (wd z (wd z (wd z w0)))) z (hc z h0)⟩
  refine c_f z b3 <| wc_exit <| ?_
  refine e_te (e_te (e_h ?_))
  obtain rfl := sm H
  exact fin (Or.inl z) rs0 (re2 [(0, 0)] q z (hc z h0))

def slices_Index_string_string_k1 : Unit → Option Int
  | () =>
    some (-1)
def slices_Index_string_string_b2 (x0 : List ByteArray) (x1 : ByteArray) (k1 : Unit → Option Int) (rec2 : Int → Option Int) : Int → Option Int
  | v1 =>
    bif decide (v1 < (x0.length : Int)) then
      (ix x0 v1).bind fun r3 =>
      bif sEq x1 r3 then some v1 else rec2 (w64 (v1 + 1))
    else
      k1 ()
def slices_Index_string_string (x0 : List ByteArray) (x1 : ByteArray) : Option Int :=
  jn slices_Index_string_string_k1 fun k1 =>
  lp (slices_Index_string_string_b2 x0 x1 k1) (x0.length + 1) 0
theorem slices_Index_string_string_ok {x0 : List ByteArray} {x1 : ByteArray} {R : Int} (H : slices_Index_string_string x0 x1 = some R) : FnOk Tryz.prog K0 118 [(aL 1 eS x0), (aS x1)] [] (aN .i64 R) [] := by
  refine fn_w (nt := 19) (np := 0) Tryz.func118 z z (by simp) (np_of2 z) <| ?_
  unfold slices_Index_string_string at H
  refine sgr z <| la z z <| ne <| ?_
  refine w_jn0 H (⟨[], []⟩) ?_ ?_
  · intro H
    rw [slices_Index_string_string_k1] at H
    refine sgr z <| la z z <| ne <| wc_ret <| ?_
    obtain rfl := sm H
    exact fin (Or.inr z) (rs1 (rv z) rs0) (re [] (.dat) z h0)
  intro H
  refine sgr z <| lm z z <| l (p_lenL Tryz.underlying98 z) z <| lm z z <| ne <| wc_block <| w_lp1 H (fun v1 => ⟨[(0, (aL 1 eS x0)), (1, (aS x1)), (7, (aN .i64 (x0.length : Int))), (8, (aN .i64 v1))], []⟩) (en [] (wd z (wd z (wd z (wd z w0)))) z h0) <| ?_
  intro n2 v1 H
  rw [slices_Index_string_string_b2] at H
  refine sgr z <| l (p_lss z z) z <| ne <| wc_seq <| ?_
  rcases cn H with ⟨b2, H⟩ | ⟨b2, H⟩
  · refine c_t z b2 ?_
    refine se <| wc_seq <| wc_block <| sgr z <| lm z z <| la z z <| ne <| sgr z <| lm z z <| lm z z <| lm z z <| ?_
    obtain ⟨r3, e4, H⟩ := ob H
    refine l (p_ixL Tryz.underlying98 ty_9.size z z e4) z <| l (p_ldP ty_9 z z) z <| l (p_seq z z) z <| ne <| ?_
    rcases cn H with ⟨b5, H⟩ | ⟨b5, H⟩
    · refine c_t z b5 ?_
      refine sgr z <| lm z z <| la z z <| ne <| wc_ret <| ?_
      refine e_br (e_tr (e_tr (e_br (e_tr ?_))))
      obtain rfl := sm H
      exact fin (Or.inr z) (rs1 (rv z) rs0) (re [] (.dat) z h0)
    refine c_f z b5 <| wc_skip <| ?_
    refine e_bn (e_n ?_)
    refine wc_region z <| l (p_add z z) z <| lm z z <| ne <| ?_
    exact ⟨w64 (v1 + 1), H, en [] (wd z (wd z (wd z (wd z w0)))) z h0⟩
  refine c_f z b2 <| wc_exit <| ?_
  refine e_te (e_te (e_h (e_n ?_)))
  exact ⟨H, en [] w0 z h0⟩

def slices_Contains_string_string (x0 : List ByteArray) (x1 : ByteArray) : Option Bool :=
  (slices_Index_string_string x0 x1).bind fun r1 =>
  some (decide (0 ≤ r1))
theorem slices_Contains_string_string_ok {x0 : List ByteArray} {x1 : ByteArray} {R : Bool} (H : slices_Contains_string_string x0 x1 = some R) : FnOk Tryz.prog K0 99 [(aL 1 eS x0), (aS x1)] [] (aT R) [] := by
  refine fn_w (nt := 9) (np := 0) Tryz.func99 z z (by simp) (np_of2 z) <| ?_
  unfold slices_Contains_string_string at H
  refine sgr z <| la z z <| ne <| sgr z <| lm z z <| lm z z <| ?_
  obtain ⟨r1, e2, H⟩ := ob H
  refine l (p_c (slices_Index_string_string_ok e2) ent_118 z z z) z <| l (p_geq z z) z <| la z z <| ne <| wc_ret <| ?_
  obtain rfl := sm H
  exact fin (Or.inr z) (rs1 (rv z) rs0) (re [] (.dat) z h0)

def machine_names_fresh (x0 : List ByteArray) (x1 : ByteArray) : Option (Bool × (List ByteArray)) :=
  (bits_Name x1).bind fun r1 =>
  (bif (true && (r1 == true)) then slices_Contains_string_string x0 x1 else some default).bind fun r3 =>
  asr (roomy (x0.length + [x1].length) 16) <|
  some ((r1 && (!r3), x0 ++ [x1]))
theorem machine_names_fresh_ok {x0 : List ByteArray} {x1 : ByteArray} {R : Bool × (List ByteArray)} (H : machine_names_fresh x0 x1 = some R) : FnOk Tryz.prog K0 89 [(.ptr 0 0), (aS x1)] [(0, (oC 154 [(.row 1)])), (1, (oR 9 1 eS x0)), (2, .fresh)] (aT R.1) [(0, (oC 154 [(.row 2)])), (1, .dead), (2, (oR 9 1 eS R.2))] := by
  refine fn_w (nt := 28) (np := 2) Tryz.func89 z z (by simp) (np_of2 z) <| ?_
  unfold machine_names_fresh at H
  refine sgr z <| la z z <| ne <| sgr z <| lm z z <| ?_
  obtain ⟨r1, e2, H⟩ := ob H
  refine l (p_c (bits_Name_ok e2) ent_85 z z z) z <| lm z z <| lw z (Grd.plain _) z [0] z (s1 strip_same s0) (fun hw => p_mv z) ⟨z, q⟩ (by exact q) z z <| lw z (Grd.plain _) z [9] z (s1 (strip_when id) s0) (fun hw => p_nl z) ⟨z, q⟩ (by exact q) z z <| lw z (Grd.plain _) z [10] z (s1 (strip_when id) s0) (fun hw => p_fd fld_154_0 z) ⟨z, q⟩ (by exact q) z z <| lw z (Grd.plain _) z [11] z (s1 (strip_when id) s0) (fun hw => p_ld ty_98 z z z) ⟨z, q⟩ (by exact ⟨z, q⟩) z z <| lw z (Grd.plain _) z [1] z (s1 strip_same s0) (fun hw => p_mv z) ⟨z, q⟩ (by exact q) z z <| ?_
  obtain ⟨r3, e4, H⟩ := ob H
  refine lw z (Grd.plain _) z [12, 13] z (s1 (strip_when id) (s1 (strip_when id) s0)) (fun hw => p_cb (slices_Contains_string_string_ok (bt hw e4)) ent_99 z z (ld1 (ld2 z ld0)) lit_d (fun _ => z)) ⟨z, ⟨z, q⟩⟩ (by exact ⟨z, q⟩) z z <| lw z (Grd.plain _) z [14] z (s1 (strip_when id) s0) (fun hw => p_not z) ⟨z, q⟩ (by exact q) z z <| l (p_pkA z z q (strip_when (wt))) z <| la z z <| ne <| sgr z <| lm z z <| lm z z <| l (p_nl z) z <| l (p_fd fld_154_0 z) z <| l (p_ld ty_98 z z z) z <| lm z z <| l (p_bs (f := eS) [.tmp 22] [x1] Tryz.underlying98 ty_9.size zr_9 z z z z (el1 (.one _) z el0) z) z <| ?_
  obtain ⟨e5, H⟩ := as_ H
  refine lh (p_apA 3 Tryz.underlying98 el_9 z z z z e5) z <| l (p_nl z) z <| l (p_fd fld_154_0 z) z <| l0h (p_st ty_98 z z z q z z) <| ne <| sgr z <| lm z z <| la z z <| ne <| wc_ret <| ?_
  obtain rfl := sm H
  exact fin (Or.inr z) (rs1 (rv z) rs0) (re [(0, 0), (1, 1), (3, 2)] (.dat) z (hs z z z (hx (hr z h0))))

def machine_checker_regs_k2 (v3 : Int) (rec1 : Int × machine_checker × (List ByteArray) → Option machine_checker) : machine_checker × (List ByteArray) → Option machine_checker
  | (v7, v8) =>
    rec1 ((w64 (v3 + 1), v7, v8))
def machine_checker_regs_b1 (r1 : machine_checker) (rec1 : Int × machine_checker × (List ByteArray) → Option machine_checker) : Int × machine_checker × (List ByteArray) → Option machine_checker
  | (v3, v4, v5) =>
    bif decide (v3 < (r1.Machine.Regs.length : Int)) then
      jn (machine_checker_regs_k2 v3 rec1) fun k2 =>
      (ix r1.Machine.Regs v3).bind fun r9 =>
      (machine_names_fresh v5 r9.Name).bind fun r11 =>
      (machine_within r9.Width 1 64).bind fun r13 =>
      (machine_checker_must v4 [r11.1, r13]).bind fun r15 =>
      bif r9.Of == (-1) then
        (machine_checker_must r15 [r9.Low == 0]).bind fun r18 =>
        k2 (r18, r11.2)
      else
        (machine_within r9.Of 0 (w64 ((r15.Machine.Regs.length : Int) - 1))).bind fun r20 =>
        bif !r20 then
          (machine_checker_must r15 [false]).bind fun r23 =>
          k2 (r23, r11.2)
        else
          (ix r15.Machine.Regs r9.Of).bind fun r25 =>
          (machine_within r25.Width 1 64).bind fun r27 =>
          (machine_within r9.Low 0 (w64 (r25.Width - r9.Width))).bind fun r29 =>
          (machine_checker_must r15 [r25.Of == (-1), decide (r9.Width < r25.Width), r27, r29]).bind fun r31 =>
          k2 (r31, r11.2)
    else
      some v4
def machine_checker_regs (x0 : machine_checker) : Option machine_checker :=
  (machine_checker_must x0 [decide (0 < (x0.Machine.Regs.length : Int))]).bind fun r1 =>
  lp (machine_checker_regs_b1 r1) (r1.Machine.Regs.length + 1) ((0, r1, ([] : List ByteArray)))
theorem machine_checker_regs_ok {x0 : machine_checker} {R : machine_checker} (H : machine_checker_regs x0 = some R) : FnOk Tryz.prog K0 86 [(.ptr 0 0)] [(0, (oD 150 (encmachine_checker x0)))] (.tup []) [(0, (oD 150 (encmachine_checker R)))] := by
  refine fn_w (nt := 92) (np := 1) Tryz.func86 z z (by simp) (np_of2 z) <| ?_
  unfold machine_checker_regs at H
  refine sgr z <| lh (p_al 1 zr_154 z) z <| wl_ent (nrc (j := 1) (i := 0) (f := eS) (sz := 1) (e := 9) 2 z z z) <| ne <| sgr z <| lm z z <| lm z z <| l (p_nl z) z <| l (p_fd fld_150_0 z) z <| l (p_fd fld_27_3 z) z <| l (p_ld ty_22 z z z) z <| l (p_lenL Tryz.underlying22 z) z <| l (p_gtr z z) z <| l (p_bs (f := eT) [.tmp 13] [decide (0 < (x0.Machine.Regs.length : Int))] Tryz.underlying167 ty_4.size zr_4 z z z z (el1 (.one _) z el0) z) z <| ?_
  obtain ⟨r1, e2, H⟩ := ob H
  refine lh (p_ch (ids := [0]) (machine_checker_must_ok e2) ent_84 z z (rc z rdd rn) (rc z rdd rn) z ⟨z, q⟩ (by decide) z z z (oc od on) (oc od on) z) z <| ne <| sgr z <| lm z z <| l (p_nl z) z <| l (p_fd fld_150_0 z) z <| l (p_fd fld_27_3 z) z <| l (p_ld ty_22 z z z) z <| l (p_lenL Tryz.underlying22 z) z <| lm z z <| ne <| wc_block <| w_lp3 H (fun v3 v4 v5 => ⟨[(0, (.ptr 0 0)), (2, (.ptr 1 0)), (20, (aL 4 encMachReg r1.Machine.Regs)), (21, (aN .i64 (r1.Machine.Regs.length : Int))), (22, (aN .i64 v3))], [(0, (oD 150 (encmachine_checker v4))), (1, (oC 154 [(.row 2)])), (2, (oR 9 1 eS v5))]⟩) (en [(0, 0), (1, 1), (2, 2)] (ws z z z (ws z z z (wd z (wd z (wd z w0))))) z (hc z (hs z z z (hr z h0)))) <| ?_
  intro n1 v3 v4 v5 H
  rw [machine_checker_regs_b1] at H
  refine sgr z <| l (p_lss z z) z <| ne <| wc_seq <| ?_
  rcases cn H with ⟨b6, H⟩ | ⟨b6, H⟩
  · refine c_t z b6 ?_
    refine se <| ?_
    refine w_jn2 H (fun v7 v8 => ⟨[(0, (.ptr 0 0)), (2, (.ptr 1 0)), (20, (aL 4 encMachReg r1.Machine.Regs)), (21, (aN .i64 (r1.Machine.Regs.length : Int))), (22, (aN .i64 v3))], [(0, (oD 150 (encmachine_checker v7))), (1, (oC 154 [(.row 7)])), (7, (oR 9 1 eS v8))]⟩) ?_ ?_
    · intro v7 v8 H
      rw [machine_checker_regs_k2] at H
      refine wc_region z <| l (p_add z z) z <| lm z z <| ne <| ?_
      exact ⟨w64 (v3 + 1), v7, v8, H, en [(0, 0), (1, 1), (7, 2)] (ws z z z (ws z z z (wd z (wd z (wd z w0))))) z (hc z (hs z z z (hr z h0)))⟩
    intro H
    refine wc_block <| sgr z <| ?_
    obtain ⟨r9, e10, H⟩ := ob H
    refine l (p_ixL Tryz.underlying22 ty_100.size z z e10) z <| l (p_ldA (ds := encMachReg r9) ty_100 z z z) z <| lh (p_al 6 zr_100 z) z <| l0h (p_stA (ds := (encMachReg r9).map .data) ty_100 z z z z z z) <| ne <| wc_seq <| wc_draw [0, 0, 2, 6, 0, 16, 62, 126, 255] mixed z <| dm z z <| dr (p_fd fld_100_0 z) z <| dr (p_ld ty_9 z z z) z <| ?_
    obtain ⟨r11, e12, H⟩ := ob H
    refine drh (p_ch (ids := [1, 2, 7]) (machine_names_fresh_ok e12) ent_89 z z (rc z z (rc z rm (rc z z rn))) (rc z z (rc z z (rc z rm rn))) z ⟨z, ⟨z, ⟨z, q⟩⟩⟩ (by decide) z z z (oc z (oc om (oc z on))) (oc z (oc z (oc om on))) z) z <| dr (p_fd fld_100_1 z) z <| dr (p_ld ty_3 z z z) z <| ?_
    obtain ⟨r13, e14, H⟩ := ob H
    refine dr (p_c (machine_within_ok e14) ent_64 z z z) z <| dr (p_bs (f := eT) [.tmp 29, .tmp 32] [r11.1, r13] Tryz.underlying167 ty_4.size zr_4 z z z z (el1 (.one _) z (el1 (.one _) z el0)) z) z <| ?_
    obtain ⟨r15, e16, H⟩ := ob H
    refine drh (p_ch (ids := [0]) (machine_checker_must_ok e16) ent_84 z z (rc z rdd rn) (rc z rdd rn) z ⟨z, q⟩ (by decide) z z z (oc od on) (oc od on) z) z <| ?_
    refine wd_nil ?_ (by kernel_rfl)
    refine e_n <| wc_block <| sgr z <| l (p_fd fld_100_2 z) z <| l (p_ld ty_3 z z z) z <| l (p_eql z z) z <| la z z <| ne <| ?_
    rcases cn H with ⟨b17, H⟩ | ⟨b17, H⟩
    · refine c_t z b17 ?_
      refine wc_region z <| lm z z <| l (p_fd fld_100_3 z) z <| l (p_ld ty_3 z z z) z <| l (p_eql z z) z <| l (p_bs (f := eT) [.tmp 73] [r9.Low == 0] Tryz.underlying167 ty_4.size zr_4 z z z z (el1 (.one _) z el0) z) z <| ?_
      obtain ⟨r18, e19, H⟩ := ob H
      refine lh (p_ch (ids := [0]) (machine_checker_must_ok e19) ent_84 z z (rc z rdd rn) (rc z rdd rn) z ⟨z, q⟩ (by decide) z z z (oc od on) (oc od on) z) z <| wl_nil <| ?_
      refine e_bn (e_bn (e_n ?_))
      exact ⟨r18, r11.2, H, en [(0, 0), (1, 1), (7, 7)] (ws z z z (ws z z z (wd z (wd z (wd z w0))))) z (hc z (hs z z z (hr z h0)))⟩
    refine c_f z b17 <| wc_seq <| wc_draw [0, 1, 0, 4, 12, 28, 60, 124, 252, 511, 1023, 2047] mixed z <| dr (p_fd fld_100_2 z) z <| dr (p_ld ty_3 z z z) z <| dm z z <| dr (p_nl z) z <| dr (p_fd fld_150_0 z) z <| dr (p_fd fld_27_3 z) z <| dr (p_ld ty_22 z z z) z <| dr (p_lenL Tryz.underlying22 z) z <| dr (p_sub z z) z <| ?_
    obtain ⟨r20, e21, H⟩ := ob H
    refine dr (p_c (machine_within_ok e21) ent_64 z z z) z <| dr (p_not z) z <| da z z <| ?_
    refine wd_nil ?_ (by kernel_rfl)
    refine e_n <| ?_
    rcases cn H with ⟨b22, H⟩ | ⟨b22, H⟩
    · refine c_t z b22 ?_
      refine wc_region z <| lm z z <| l (p_bs (f := eT) [.const (Value.bool false)] [false] Tryz.underlying167 ty_4.size zr_4 z z z z (el1 (.one _) z el0) z) z <| ?_
      obtain ⟨r23, e24, H⟩ := ob H
      refine lh (p_ch (ids := [0]) (machine_checker_must_ok e24) ent_84 z z (rc z rdd rn) (rc z rdd rn) z ⟨z, q⟩ (by decide) z z z (oc od on) (oc od on) z) z <| wl_nil <| ?_
      refine e_bn (e_bn (e_n ?_))
      exact ⟨r23, r11.2, H, en [(0, 0), (1, 1), (7, 7)] (ws z z z (ws z z z (wd z (wd z (wd z w0))))) z (hc z (hs z z z (hr z h0)))⟩
    refine c_f z b22 <| wc_seq <| wc_draw [0, 1, 3, 7, 15, 0, 32, 127, 255, 0, 1023] mixed z <| dm z z <| dr (p_nl z) z <| dr (p_fd fld_150_0 z) z <| dr (p_fd fld_27_3 z) z <| dr (p_ld ty_22 z z z) z <| dr (p_fd fld_100_2 z) z <| dr (p_ld ty_3 z z z) z <| ?_
    obtain ⟨r25, e26, H⟩ := ob H
    refine dr (p_ixL Tryz.underlying22 ty_100.size z z e26) z <| dr (p_ldA (ds := encMachReg r25) ty_100 z z z) z <| drh (p_al 8 zr_100 z) z <| dr0h (p_stA (ds := (encMachReg r25).map .data) ty_100 z z z z z z) <| ?_
    refine wd_nil ?_ (by kernel_rfl)
    refine e_n <| wc_draw [0, 0, 2, 6, 0, 16, 0, 64, 240, 0, 512, 1536, 0, 4096, 0, 16384, 0, 65536, 245760, 523776, 1048574, 2097151] mixed z <| dm z z <| dr (p_fd fld_100_2 z) z <| dr (p_ld ty_3 z z z) z <| dr (p_eql z z) z <| dr (p_fd fld_100_1 z) z <| dr (p_ld ty_3 z z z) z <| dr (p_fd fld_100_1 z) z <| dr (p_ld ty_3 z z z) z <| dr (p_lss z z) z <| dr (p_fd fld_100_1 z) z <| dr (p_ld ty_3 z z z) z <| ?_
    obtain ⟨r27, e28, H⟩ := ob H
    refine dr (p_c (machine_within_ok e28) ent_64 z z z) z <| dr (p_fd fld_100_3 z) z <| dr (p_ld ty_3 z z z) z <| dr (p_fd fld_100_1 z) z <| dr (p_ld ty_3 z z z) z <| dr (p_fd fld_100_1 z) z <| dr (p_ld ty_3 z z z) z <| dr (p_sub z z) z <| ?_
    obtain ⟨r29, e30, H⟩ := ob H
    refine dr (p_c (machine_within_ok e30) ent_64 z z z) z <| dr (p_bs (f := eT) [.tmp 47, .tmp 52, .tmp 55, .tmp 63] [r25.Of == (-1), decide (r9.Width < r25.Width), r27, r29] Tryz.underlying167 ty_4.size zr_4 z z z z (el1 (.one _) z (el1 (.one _) z (el1 (.one _) z (el1 (.one _) z el0)))) z) z <| ?_
    obtain ⟨r31, e32, H⟩ := ob H
    refine drh (p_ch (ids := [0]) (machine_checker_must_ok e32) ent_84 z z (rc z rdd rn) (rc z rdd rn) z ⟨z, q⟩ (by decide) z z z (oc od on) (oc od on) z) z <| ?_
    refine wd_nil ?_ (by kernel_rfl)
    refine e_bn (e_bn (e_n ?_))
    exact ⟨r31, r11.2, H, en [(0, 0), (1, 1), (7, 7)] (ws z z z (ws z z z (wd z (wd z (wd z w0))))) z (hc z (hs z z z (hr z h0)))⟩
  refine c_f z b6 <| wc_exit <| ?_
  refine e_te (e_te (e_h ?_))
  obtain rfl := sm H
  exact fin (Or.inl z) rs0 (re2 [(0, 0)] q z (hc z h0))

def slices_Index_int_int_k1 : Unit → Option Int
  | () =>
    some (-1)
def slices_Index_int_int_b2 (x0 : List Int) (x1 : Int) (k1 : Unit → Option Int) (rec2 : Int → Option Int) : Int → Option Int
  | v1 =>
    bif decide (v1 < (x0.length : Int)) then
      (ix x0 v1).bind fun r3 =>
      bif x1 == r3 then some v1 else rec2 (w64 (v1 + 1))
    else
      k1 ()
def slices_Index_int_int (x0 : List Int) (x1 : Int) : Option Int :=
  jn slices_Index_int_int_k1 fun k1 =>
  lp (slices_Index_int_int_b2 x0 x1 k1) (x0.length + 1) 0
theorem slices_Index_int_int_ok {x0 : List Int} {x1 : Int} {R : Int} (H : slices_Index_int_int x0 x1 = some R) : FnOk Tryz.prog K0 92 [(aL 1 (eN .i64) x0), (aN .i64 x1)] [] (aN .i64 R) [] := by
  refine fn_w (nt := 19) (np := 0) Tryz.func92 z z (by simp) (np_of2 z) <| ?_
  unfold slices_Index_int_int at H
  refine sgr z <| la z z <| ne <| ?_
  refine w_jn0 H (⟨[], []⟩) ?_ ?_
  · intro H
    rw [slices_Index_int_int_k1] at H
    refine sgr z <| la z z <| ne <| wc_ret <| ?_
    obtain rfl := sm H
    exact fin (Or.inr z) (rs1 (rv z) rs0) (re [] (.dat) z h0)
  intro H
  refine sgr z <| lm z z <| l (p_lenL Tryz.underlying29 z) z <| lm z z <| ne <| wc_block <| w_lp1 H (fun v1 => ⟨[(0, (aL 1 (eN .i64) x0)), (1, (aN .i64 x1)), (7, (aN .i64 (x0.length : Int))), (8, (aN .i64 v1))], []⟩) (en [] (wd z (wd z (wd z (wd z w0)))) z h0) <| ?_
  intro n2 v1 H
  rw [slices_Index_int_int_b2] at H
  refine sgr z <| l (p_lss z z) z <| ne <| wc_seq <| ?_
  rcases cn H with ⟨b2, H⟩ | ⟨b2, H⟩
  · refine c_t z b2 ?_
    refine se <| wc_seq <| wc_block <| sgr z <| lm z z <| la z z <| ne <| sgr z <| lm z z <| lm z z <| lm z z <| ?_
    obtain ⟨r3, e4, H⟩ := ob H
    refine l (p_ixL Tryz.underlying29 ty_3.size z z e4) z <| l (p_ldP ty_3 z z) z <| l (p_eql z z) z <| ne <| ?_
    rcases cn H with ⟨b5, H⟩ | ⟨b5, H⟩
    · refine c_t z b5 ?_
      refine sgr z <| lm z z <| la z z <| ne <| wc_ret <| ?_
      refine e_br (e_tr (e_tr (e_br (e_tr ?_))))
      obtain rfl := sm H
      exact fin (Or.inr z) (rs1 (rv z) rs0) (re [] (.dat) z h0)
    refine c_f z b5 <| wc_skip <| ?_
    refine e_bn (e_n ?_)
    refine wc_region z <| l (p_add z z) z <| lm z z <| ne <| ?_
    exact ⟨w64 (v1 + 1), H, en [] (wd z (wd z (wd z (wd z w0)))) z h0⟩
  refine c_f z b2 <| wc_exit <| ?_
  refine e_te (e_te (e_h (e_n ?_)))
  exact ⟨H, en [] w0 z h0⟩

def slices_Contains_int_int (x0 : List Int) (x1 : Int) : Option Bool :=
  (slices_Index_int_int x0 x1).bind fun r1 =>
  some (decide (0 ≤ r1))
theorem slices_Contains_int_int_ok {x0 : List Int} {x1 : Int} {R : Bool} (H : slices_Contains_int_int x0 x1 = some R) : FnOk Tryz.prog K0 66 [(aL 1 (eN .i64) x0), (aN .i64 x1)] [] (aT R) [] := by
  refine fn_w (nt := 9) (np := 0) Tryz.func66 z z (by simp) (np_of2 z) <| ?_
  unfold slices_Contains_int_int at H
  refine sgr z <| la z z <| ne <| sgr z <| lm z z <| lm z z <| ?_
  obtain ⟨r1, e2, H⟩ := ob H
  refine l (p_c (slices_Index_int_int_ok e2) ent_92 z z z) z <| l (p_geq z z) z <| la z z <| ne <| wc_ret <| ?_
  obtain rfl := sm H
  exact fin (Or.inr z) (rs1 (rv z) rs0) (re [] (.dat) z h0)

def machine_checker_banks_k2 (v1 : Int) (rec1 : Int × machine_checker × (List ByteArray) → Option machine_checker) : machine_checker × (List ByteArray) → Option machine_checker
  | (v5, v6) =>
    rec1 ((w64 (v1 + 1), v5, v6))
def machine_checker_banks_k4 (v13 : Int) (rec3 : Int × machine_checker → Option machine_checker) : machine_checker → Option machine_checker
  | v16 =>
    rec3 ((w64 (v13 + 1), v16))
def machine_checker_banks_b3 (k2 : machine_checker × (List ByteArray) → Option machine_checker) (r7 : MachBank) (r9 : Bool × (List ByteArray)) (rec3 : Int × machine_checker → Option machine_checker) : Int × machine_checker → Option machine_checker
  | (v13, v14) =>
    bif decide (v13 < (r7.Regs.length : Int)) then
      jn (machine_checker_banks_k4 v13 rec3) fun k4 =>
      (ix r7.Regs v13).bind fun r17 =>
      (machine_within r17 0 (w64 ((v14.Machine.Regs.length : Int) - 1))).bind fun r19 =>
      asr (subOk 0 v13 r7.Regs.length) <|
      (slices_Contains_int_int (lSub r7.Regs 0 v13) r17).bind fun r22 =>
      (machine_checker_must v14 [r19, !r22]).bind fun r24 =>
      bif r24.ok then
        (ix r24.Machine.Regs r17).bind fun r27 =>
        (ix r7.Regs 0).bind fun r29 =>
        (ix r24.Machine.Regs r29).bind fun r31 =>
        (machine_checker_must r24 [r27.Width == r31.Width]).bind fun r33 =>
        k4 r33
      else
        k4 r24
    else
      k2 (v14, r9.2)
def machine_checker_banks_b1 (x0 : machine_checker) (rec1 : Int × machine_checker × (List ByteArray) → Option machine_checker) : Int × machine_checker × (List ByteArray) → Option machine_checker
  | (v1, v2, v3) =>
    bif decide (v1 < (x0.Machine.Banks.length : Int)) then
      jn (machine_checker_banks_k2 v1 rec1) fun k2 =>
      (ix x0.Machine.Banks v1).bind fun r7 =>
      (machine_names_fresh v3 r7.Name).bind fun r9 =>
      (machine_checker_must v2 [r9.1, decide (0 < (r7.Regs.length : Int))]).bind fun r11 =>
      lp (machine_checker_banks_b3 k2 r7 r9) (r7.Regs.length + 1) (0, r11)
    else
      some v2
def machine_checker_banks (x0 : machine_checker) : Option machine_checker :=
  lp (machine_checker_banks_b1 x0) (x0.Machine.Banks.length + 1) ((0, x0, ([] : List ByteArray)))
theorem machine_checker_banks_ok {x0 : machine_checker} {R : machine_checker} (H : machine_checker_banks x0 = some R) : FnOk Tryz.prog K0 87 [(.ptr 0 0)] [(0, (oD 150 (encmachine_checker x0)))] (.tup []) [(0, (oD 150 (encmachine_checker R)))] := by
  refine fn_w (nt := 85) (np := 1) Tryz.func87 z z (by simp) (np_of2 z) <| ?_
  unfold machine_checker_banks at H
  refine sgr z <| lh (p_al 1 zr_154 z) z <| wl_ent (nrc (j := 1) (i := 0) (f := eS) (sz := 1) (e := 9) 2 z z z) <| ne <| sgr z <| lm z z <| l (p_nl z) z <| l (p_fd fld_150_0 z) z <| l (p_fd fld_27_4 z) z <| l (p_ld ty_23 z z z) z <| l (p_lenL Tryz.underlying23 z) z <| lm z z <| ne <| wc_block <| w_lp3 H (fun v1 v2 v3 => ⟨[(0, (.ptr 0 0)), (2, (.ptr 1 0)), (11, (aL 2 encMachBank x0.Machine.Banks)), (12, (aN .i64 (x0.Machine.Banks.length : Int))), (13, (aN .i64 v1))], [(0, (oD 150 (encmachine_checker v2))), (1, (oC 154 [(.row 2)])), (2, (oR 9 1 eS v3))]⟩) (en [(0, 0), (1, 1), (2, 2)] (ws z z z (ws z z z (wd z (wd z (wd z w0))))) z (hc z (hs z z z (hr z h0)))) <| ?_
  intro n1 v1 v2 v3 H
  rw [machine_checker_banks_b1] at H
  refine sgr z <| l (p_lss z z) z <| ne <| wc_seq <| ?_
  rcases cn H with ⟨b4, H⟩ | ⟨b4, H⟩
  · refine c_t z b4 ?_
    refine se <| ?_
    refine w_jn2 H (fun v5 v6 => ⟨[(0, (.ptr 0 0)), (2, (.ptr 1 0)), (11, (aL 2 encMachBank x0.Machine.Banks)), (12, (aN .i64 (x0.Machine.Banks.length : Int))), (13, (aN .i64 v1))], [(0, (oD 150 (encmachine_checker v5))), (1, (oC 154 [(.row 6)])), (6, (oR 9 1 eS v6))]⟩) ?_ ?_
    · intro v5 v6 H
      rw [machine_checker_banks_k2] at H
      refine wc_region z <| l (p_add z z) z <| lm z z <| ne <| ?_
      exact ⟨w64 (v1 + 1), v5, v6, H, en [(0, 0), (1, 1), (6, 2)] (ws z z z (ws z z z (wd z (wd z (wd z w0))))) z (hc z (hs z z z (hr z h0)))⟩
    intro H
    refine wc_block <| sgr z <| ?_
    obtain ⟨r7, e8, H⟩ := ob H
    refine l (p_ixL Tryz.underlying23 ty_97.size z z e8) z <| l (p_ldA (ds := encMachBank r7) ty_97 z z z) z <| lh (p_al 5 zr_97 z) z <| l0h (p_stA (ds := (encMachBank r7).map .data) ty_97 z z z z z z) <| ne <| wc_seq <| wc_draw [0, 0, 2, 6, 0, 16, 48, 112, 254, 511] mixed z <| dm z z <| dr (p_fd fld_97_0 z) z <| dr (p_ld ty_9 z z z) z <| ?_
    obtain ⟨r9, e10, H⟩ := ob H
    refine drh (p_ch (ids := [1, 2, 6]) (machine_names_fresh_ok e10) ent_89 z z (rc z z (rc z rm (rc z z rn))) (rc z z (rc z z (rc z rm rn))) z ⟨z, ⟨z, ⟨z, q⟩⟩⟩ (by decide) z z z (oc z (oc om (oc z on))) (oc z (oc z (oc om on))) z) z <| dr (p_fd fld_97_1 z) z <| dr (p_ld ty_29 z z z) z <| dr (p_lenL Tryz.underlying29 z) z <| dr (p_gtr z z) z <| dr (p_bs (f := eT) [.tmp 20, .tmp 24] [r9.1, decide (0 < (r7.Regs.length : Int))] Tryz.underlying167 ty_4.size zr_4 z z z z (el1 (.one _) z (el1 (.one _) z el0)) z) z <| ?_
    obtain ⟨r11, e12, H⟩ := ob H
    refine drh (p_ch (ids := [0]) (machine_checker_must_ok e12) ent_84 z z (rc z rdd rn) (rc z rdd rn) z ⟨z, q⟩ (by decide) z z z (oc od on) (oc od on) z) z <| ?_
    refine wd_nil ?_ (by kernel_rfl)
    refine e_n <| sgr z <| l (p_fd fld_97_1 z) z <| l (p_ld ty_29 z z z) z <| l (p_lenL Tryz.underlying29 z) z <| lm z z <| ne <| wc_block <| w_lp2 H (fun v13 v14 => ⟨[(0, (.ptr 0 0)), (2, (.ptr 1 0)), (4, (.ptr 5 0)), (11, (aL 2 encMachBank x0.Machine.Banks)), (12, (aN .i64 (x0.Machine.Banks.length : Int))), (13, (aN .i64 v1)), (28, (aL 1 (eN .i64) r7.Regs)), (29, (aN .i64 (r7.Regs.length : Int))), (30, (aN .i64 v13))], [(0, (oD 150 (encmachine_checker v14))), (1, (oC 154 [(.row 6)])), (5, (oD 97 (encMachBank r7))), (6, (oR 9 1 eS r9.2))]⟩) (en [(0, 0), (1, 1), (5, 5), (6, 6)] (ws z z z (ws z z z (ws z z z (wd z (wd z (wd z (wd z (wd z (wd z w0))))))))) z (hc z (hs z z z (hc z (hr z h0))))) <| ?_
    intro n3 v13 v14 H
    rw [machine_checker_banks_b3] at H
    refine sgr z <| l (p_lss z z) z <| ne <| wc_seq <| ?_
    rcases cn H with ⟨b15, H⟩ | ⟨b15, H⟩
    · refine c_t z b15 ?_
      refine se <| ?_
      refine w_jn1 H (fun v16 => ⟨[(0, (.ptr 0 0)), (2, (.ptr 1 0)), (4, (.ptr 5 0)), (11, (aL 2 encMachBank x0.Machine.Banks)), (12, (aN .i64 (x0.Machine.Banks.length : Int))), (13, (aN .i64 v1)), (28, (aL 1 (eN .i64) r7.Regs)), (29, (aN .i64 (r7.Regs.length : Int))), (30, (aN .i64 v13))], [(0, (oD 150 (encmachine_checker v16))), (1, (oC 154 [(.row 6)])), (5, (oD 97 (encMachBank r7))), (6, (oR 9 1 eS r9.2))]⟩) ?_ ?_
      · intro v16 H
        rw [machine_checker_banks_k4] at H
        refine wc_region z <| l (p_add z z) z <| lm z z <| ne <| ?_
        exact ⟨w64 (v13 + 1), v16, H, en [(0, 0), (1, 1), (5, 5), (6, 6)] (ws z z z (ws z z z (ws z z z (wd z (wd z (wd z (wd z (wd z (wd z w0))))))))) z (hc z (hs z z z (hc z (hr z h0))))⟩
      intro H
      refine wc_block <| sgr z <| lm z z <| ?_
      obtain ⟨r17, e18, H⟩ := ob H
      refine l (p_ixL Tryz.underlying29 ty_3.size z z e18) z <| l (p_ldP ty_3 z z) z <| la z z <| la z z <| ne <| wc_seq <| wc_draw [0, 0, 0, 4, 12, 28, 60, 124, 252, 510, 0, 1024, 0, 7168, 0, 32766, 65534, 131070, 262143] mixed z <| dm z z <| dm z z <| dm z z <| dr (p_nl z) z <| dr (p_fd fld_150_0 z) z <| dr (p_fd fld_27_3 z) z <| dr (p_ld ty_22 z z z) z <| dr (p_lenL Tryz.underlying22 z) z <| dr (p_sub z z) z <| ?_
      obtain ⟨r19, e20, H⟩ := ob H
      refine dr (p_c (machine_within_ok e20) ent_64 z z z) z <| dr (p_fd fld_97_1 z) z <| dr (p_ld ty_29 z z z) z <| dm z z <| ?_
      obtain ⟨e21, H⟩ := as_ H
      refine dr (p_slL Tryz.underlying29 ty_3.size z .no (.yes z) e21) z <| dm z z <| ?_
      obtain ⟨r22, e23, H⟩ := ob H
      refine dr (p_c (slices_Contains_int_int_ok e23) ent_66 z z z) z <| dr (p_not z) z <| dr (p_bs (f := eT) [.tmp 44, .tmp 51] [r19, !r22] Tryz.underlying167 ty_4.size zr_4 z z z z (el1 (.one _) z (el1 (.one _) z el0)) z) z <| ?_
      obtain ⟨r24, e25, H⟩ := ob H
      refine drh (p_ch (ids := [0]) (machine_checker_must_ok e25) ent_84 z z (rc z rdd rn) (rc z rdd rn) z ⟨z, q⟩ (by decide) z z z (oc od on) (oc od on) z) z <| ?_
      refine wd_nil ?_ (by kernel_rfl)
      refine e_n <| sgr z <| lm z z <| l (p_nl z) z <| l (p_fd fld_150_1 z) z <| l (p_ld ty_4 z z z) z <| ne <| ?_
      rcases cn H with ⟨b26, H⟩ | ⟨b26, H⟩
      · refine c_t z b26 ?_
        refine wc_draw [0, 0, 2, 6, 14, 30, 0, 126, 254, 510, 0, 1024, 3072, 7168, 15360, 0, 32768, 98304, 229376, 523264, 1047552, 2096128, 4194302, 8388606, 16777215] mixed z <| dm z z <| dm z z <| dr (p_nl z) z <| dr (p_fd fld_150_0 z) z <| dr (p_fd fld_27_3 z) z <| dr (p_ld ty_22 z z z) z <| dm z z <| ?_
        obtain ⟨r27, e28, H⟩ := ob H
        refine dr (p_ixL Tryz.underlying22 ty_100.size z z e28) z <| dr (p_fdP fld_100_1 z) z <| dr (p_ldP ty_3 z z) z <| dm z z <| dr (p_nl z) z <| dr (p_fd fld_150_0 z) z <| dr (p_fd fld_27_3 z) z <| dr (p_ld ty_22 z z z) z <| dr (p_fd fld_97_1 z) z <| dr (p_ld ty_29 z z z) z <| ?_
        obtain ⟨r29, e30, H⟩ := ob H
        refine dr (p_ixL Tryz.underlying29 ty_3.size z z e30) z <| dr (p_ldP ty_3 z z) z <| ?_
        obtain ⟨r31, e32, H⟩ := ob H
        refine dr (p_ixL Tryz.underlying22 ty_100.size z z e32) z <| dr (p_fdP fld_100_1 z) z <| dr (p_ldP ty_3 z z) z <| dr (p_eql z z) z <| dr (p_bs (f := eT) [.tmp 80] [r27.Width == r31.Width] Tryz.underlying167 ty_4.size zr_4 z z z z (el1 (.one _) z el0) z) z <| ?_
        obtain ⟨r33, e34, H⟩ := ob H
        refine drh (p_ch (ids := [0]) (machine_checker_must_ok e34) ent_84 z z (rc z rdd rn) (rc z rdd rn) z ⟨z, q⟩ (by decide) z z z (oc od on) (oc od on) z) z <| ?_
        refine wd_nil ?_ (by kernel_rfl)
        refine e_bn (e_n ?_)
        exact ⟨r33, H, en [(0, 0), (1, 1), (5, 5), (6, 6)] (ws z z z (ws z z z (ws z z z (wd z (wd z (wd z (wd z (wd z (wd z w0))))))))) z (hc z (hs z z z (hc z (hr z h0))))⟩
      refine c_f z b26 <| wc_skip <| ?_
      refine e_bn (e_n ?_)
      exact ⟨r24, H, en [(0, 0), (1, 1), (5, 5), (6, 6)] (ws z z z (ws z z z (ws z z z (wd z (wd z (wd z (wd z (wd z (wd z w0))))))))) z (hc z (hs z z z (hc z (hr z h0))))⟩
    refine c_f z b15 <| wc_exit <| ?_
    refine e_te (e_te (e_h (e_bn (e_n ?_))))
    exact ⟨v14, r9.2, H, en [(0, 0), (1, 1), (6, 6)] (ws z z z (ws z z z (wd z (wd z (wd z w0))))) z (hc z (hs z z z (hr z h0)))⟩
  refine c_f z b4 <| wc_exit <| ?_
  refine e_te (e_te (e_h ?_))
  obtain rfl := sm H
  exact fin (Or.inl z) rs0 (re2 [(0, 0)] q z (hc z h0))

def machine_checker_units_b1 (r1 : machine_checker) (rec1 : Int × machine_checker × (List ByteArray) → Option machine_checker) : Int × machine_checker × (List ByteArray) → Option machine_checker
  | (v3, v4, v5) =>
    bif decide (v3 < (r1.Machine.Units.length : Int)) then
      (ix r1.Machine.Units v3).bind fun r7 =>
      (machine_names_fresh v5 r7.Name).bind fun r9 =>
      (machine_within r7.Count 1 4).bind fun r11 =>
      (machine_checker_must v4 [r9.1, r11]).bind fun r13 =>
      rec1 ((w64 (v3 + 1), r13, r9.2))
    else
      some v4
def machine_checker_units (x0 : machine_checker) : Option machine_checker :=
  (machine_checker_must x0 [decide (0 < (x0.Machine.Units.length : Int))]).bind fun r1 =>
  lp (machine_checker_units_b1 r1) (r1.Machine.Units.length + 1) ((0, r1, ([] : List ByteArray)))
theorem machine_checker_units_ok {x0 : machine_checker} {R : machine_checker} (H : machine_checker_units x0 = some R) : FnOk Tryz.prog K0 88 [(.ptr 0 0)] [(0, (oD 150 (encmachine_checker x0)))] (.tup []) [(0, (oD 150 (encmachine_checker R)))] := by
  refine fn_w (nt := 35) (np := 1) Tryz.func88 z z (by simp) (np_of2 z) <| ?_
  unfold machine_checker_units at H
  refine sgr z <| lh (p_al 1 zr_154 z) z <| wl_ent (nrc (j := 1) (i := 0) (f := eS) (sz := 1) (e := 9) 2 z z z) <| ne <| sgr z <| lm z z <| lm z z <| l (p_nl z) z <| l (p_fd fld_150_0 z) z <| l (p_fd fld_27_5 z) z <| l (p_ld ty_24 z z z) z <| l (p_lenL Tryz.underlying24 z) z <| l (p_gtr z z) z <| l (p_bs (f := eT) [.tmp 12] [decide (0 < (x0.Machine.Units.length : Int))] Tryz.underlying167 ty_4.size zr_4 z z z z (el1 (.one _) z el0) z) z <| ?_
  obtain ⟨r1, e2, H⟩ := ob H
  refine lh (p_ch (ids := [0]) (machine_checker_must_ok e2) ent_84 z z (rc z rdd rn) (rc z rdd rn) z ⟨z, q⟩ (by decide) z z z (oc od on) (oc od on) z) z <| ne <| sgr z <| lm z z <| l (p_nl z) z <| l (p_fd fld_150_0 z) z <| l (p_fd fld_27_5 z) z <| l (p_ld ty_24 z z z) z <| l (p_lenL Tryz.underlying24 z) z <| lm z z <| ne <| wc_block <| w_lp3 H (fun v3 v4 v5 => ⟨[(0, (.ptr 0 0)), (2, (.ptr 1 0)), (19, (aL 2 encMachUnit r1.Machine.Units)), (20, (aN .i64 (r1.Machine.Units.length : Int))), (21, (aN .i64 v3))], [(0, (oD 150 (encmachine_checker v4))), (1, (oC 154 [(.row 2)])), (2, (oR 9 1 eS v5))]⟩) (en [(0, 0), (1, 1), (2, 2)] (ws z z z (ws z z z (wd z (wd z (wd z w0))))) z (hc z (hs z z z (hr z h0)))) <| ?_
  intro n1 v3 v4 v5 H
  rw [machine_checker_units_b1] at H
  refine sgr z <| l (p_lss z z) z <| ne <| wc_seq <| ?_
  rcases cn H with ⟨b6, H⟩ | ⟨b6, H⟩
  · refine c_t z b6 ?_
    refine se <| wc_seq <| wc_block <| sgr z <| ?_
    obtain ⟨r7, e8, H⟩ := ob H
    refine l (p_ixL Tryz.underlying24 ty_92.size z z e8) z <| l (p_ldA (ds := encMachUnit r7) ty_92 z z z) z <| lh (p_al 5 zr_92 z) z <| l0h (p_stA (ds := (encMachUnit r7).map .data) ty_92 z z z z z z) <| ne <| wc_draw [0, 0, 2, 6, 0, 16, 62, 126, 255] mixed z <| dm z z <| dr (p_fd fld_92_0 z) z <| dr (p_ld ty_9 z z z) z <| ?_
    obtain ⟨r9, e10, H⟩ := ob H
    refine drh (p_ch (ids := [1, 2, 6]) (machine_names_fresh_ok e10) ent_89 z z (rc z z (rc z rm (rc z z rn))) (rc z z (rc z z (rc z rm rn))) z ⟨z, ⟨z, ⟨z, q⟩⟩⟩ (by decide) z z z (oc z (oc om (oc z on))) (oc z (oc z (oc om on))) z) z <| dr (p_fd fld_92_1 z) z <| dr (p_ld ty_3 z z z) z <| ?_
    obtain ⟨r11, e12, H⟩ := ob H
    refine dr (p_c (machine_within_ok e12) ent_64 z z z) z <| dr (p_bs (f := eT) [.tmp 28, .tmp 31] [r9.1, r11] Tryz.underlying167 ty_4.size zr_4 z z z z (el1 (.one _) z (el1 (.one _) z el0)) z) z <| ?_
    obtain ⟨r13, e14, H⟩ := ob H
    refine drh (p_ch (ids := [0]) (machine_checker_must_ok e14) ent_84 z z (rc z rdd rn) (rc z rdd rn) z ⟨z, q⟩ (by decide) z z z (oc od on) (oc od on) z) z <| ?_
    refine wd_nil ?_ (by kernel_rfl)
    refine e_bn (e_n ?_)
    refine wc_region z <| l (p_add z z) z <| lm z z <| ne <| ?_
    exact ⟨w64 (v3 + 1), r13, r9.2, H, en [(0, 0), (1, 1), (6, 2)] (ws z z z (ws z z z (wd z (wd z (wd z w0))))) z (hc z (hs z z z (hr z h0)))⟩
  refine c_f z b6 <| wc_exit <| ?_
  refine e_te (e_te (e_h ?_))
  obtain rfl := sm H
  exact fin (Or.inl z) rs0 (re2 [(0, 0)] q z (hc z h0))

def bits_wide (x0 : Int) : Option Bool :=
  some ((decide (1 ≤ x0)) && (decide (x0 ≤ 64)))
theorem bits_wide_ok {x0 : Int} {R : Bool} (H : bits_wide x0 = some R) : FnOk Tryz.prog K0 117 [(aN .i64 x0)] [] (aT R) [] := by
  refine fn_w (nt := 9) (np := 0) Tryz.func117 z z (by simp) (np_of2 z) <| ?_
  unfold bits_wide at H
  refine sgr z <| la z z <| ne <| sgr z <| lm z z <| l (p_geq z z) z <| lm z z <| lw z (Grd.plain _) z [0] z (s1 strip_same s0) (fun hw => p_mv z) ⟨z, q⟩ (by exact q) z z <| lw z (Grd.plain _) z [6] z (s1 (strip_when id) s0) (fun hw => p_leq z z) ⟨z, q⟩ (by exact q) z z <| l (p_pkA z z q (strip_when (wt))) z <| la z z <| ne <| wc_ret <| ?_
  obtain rfl := sm H
  exact fin (Or.inr z) (rs1 (rv z) rs0) (re [] (.dat) z h0)

def bits_Mask (x0 : Int) : Option Int :=
  (bits_wide x0).bind fun r1 =>
  bif !r1 then
    some 0
  else
    asr (decide (0 ≤ w64 (64 - x0))) <|
    some (sShr .u64 18446744073709551615 (w64 (64 - x0)))
theorem bits_Mask_ok {x0 : Int} {R : Int} (H : bits_Mask x0 = some R) : FnOk Tryz.prog K0 98 [(aN .i64 x0)] [] (aN .u64 R) [] := by
  refine fn_w (nt := 9) (np := 0) Tryz.func98 z z (by simp) (np_of2 z) <| ?_
  unfold bits_Mask at H
  refine sgr z <| la z z <| ne <| wc_seq <| sgr z <| lm z z <| ?_
  obtain ⟨r1, e2, H⟩ := ob H
  refine l (p_c (bits_wide_ok e2) ent_117 z z z) z <| l (p_not z) z <| ne <| ?_
  rcases cn H with ⟨b3, H⟩ | ⟨b3, H⟩
  · refine c_t z b3 ?_
    refine sgr z <| la z z <| ne <| wc_ret <| e_tr <| ?_
    obtain rfl := sm H
    exact fin (Or.inr z) (rs1 (rv z) rs0) (re [] (.dat) z h0)
  refine c_f z b3 <| se <| sgr z <| lm z z <| l (p_sub z z) z <| ?_
  obtain ⟨e4, H⟩ := as_ H
  refine l (p_shr z z e4) z <| la z z <| ne <| wc_ret <| ?_
  obtain rfl := sm H
  exact fin (Or.inr z) (rs1 (rv z) rs0) (re [] (.dat) z h0)

def machine_field_k1 : Int → Option Int
  | v1 =>
    some v1
def machine_field_b2 (x0 : MachOperand) (k1 : Int → Option Int) (rec2 : Int × Int → Option Int) : Int × Int → Option Int
  | (v2, v3) =>
    bif decide (v3 < (x0.Pieces.length : Int)) then
      (ix x0.Pieces v3).bind fun r5 =>
      rec2 ((w64 (v2 + r5.Len), w64 (v3 + 1)))
    else
      k1 v2
def machine_field (x0 : MachOperand) : Option Int :=
  jn machine_field_k1 fun k1 =>
  lp (machine_field_b2 x0 k1) (x0.Pieces.length + 1) (0, 0)
theorem machine_field_ok {x0 : MachOperand} {R : Int} (H : machine_field x0 = some R) : FnOk Tryz.prog K0 91 [(aA (encMachOperand x0))] [] (aN .i64 R) [] := by
  refine fn_w (nt := 18) (np := 0) Tryz.func91 z z (by simp) (np_of2 z) <| ?_
  unfold machine_field at H
  refine sgr z <| lh (p_bx 0 z q z) z <| la z z <| ne <| ?_
  refine w_jn1 H (fun v1 => ⟨[(2, (aN .i64 v1))], []⟩) ?_ ?_
  · intro v1 H
    rw [machine_field_k1] at H
    refine sgr z <| lm z z <| la z z <| ne <| wc_ret <| ?_
    obtain rfl := sm H
    exact fin (Or.inr z) (rs1 (rv z) rs0) (re [] (.dat) z h0)
  intro H
  refine sgr z <| l (p_fd fld_107_4 z) z <| l (p_ld ty_105 z z z) z <| l (p_lenL Tryz.underlying105 z) z <| lm z z <| ne <| wc_block <| w_lp2 H (fun v2 v3 => ⟨[(2, (aN .i64 v2)), (6, (aL 2 encMachPiece x0.Pieces)), (7, (aN .i64 (x0.Pieces.length : Int))), (8, (aN .i64 v3))], []⟩) (en [] (wd z (wd z (wd z (wd z w0)))) z h0) <| ?_
  intro n2 v2 v3 H
  rw [machine_field_b2] at H
  refine sgr z <| l (p_lss z z) z <| ne <| wc_seq <| ?_
  rcases cn H with ⟨b4, H⟩ | ⟨b4, H⟩
  · refine c_t z b4 ?_
    refine se <| wc_seq <| wc_block <| sgr z <| ?_
    obtain ⟨r5, e6, H⟩ := ob H
    refine l (p_ixL Tryz.underlying105 ty_110.size z z e6) z <| l (p_ldA (ds := encMachPiece r5) ty_110 z z z) z <| lh (p_al 2 zr_110 z) z <| l0h (p_stA (ds := (encMachPiece r5).map .data) ty_110 z z z z z z) <| ne <| wc_region z <| lm z z <| l (p_fd fld_110_1 z) z <| l (p_ld ty_3 z z z) z <| l (p_add z z) z <| la z z <| wl_nil <| ?_
    refine e_bn (e_n ?_)
    refine wc_region z <| l (p_add z z) z <| lm z z <| ne <| ?_
    exact ⟨w64 (v2 + r5.Len), w64 (v3 + 1), H, en [] (wd z (wd z (wd z (wd z w0)))) z h0⟩
  refine c_f z b4 <| wc_exit <| ?_
  refine e_te (e_te (e_h (e_n ?_)))
  exact ⟨v2, H, en [] (wd z w0) z h0⟩

end Go.Proofs.YtgmpgoafokdcbaaGreatDoor.Sx
