/-
  Conditions of functions, printed by a program of ours; the kernel checks each against vcFunc.
-/
import Derived.Test.YtomeglmlhmpbhaaRows
import Derived.Test.YtomeglmlhmpbhaaVc5
namespace Go.Proofs.Ytomeglmlhmpbhaa
set_option maxRecDepth 100000
set_option linter.unusedVariables false

abbrev fn_bits_Get32 : Nat := 51
abbrev fn_bits_Get64 : Nat := 50
abbrev fn_bits_Put32 : Nat := 39
abbrev fn_bits_Put64 : Nat := 40
abbrev fn_bits_get : Nat := 64
abbrev fn_bits_put : Nat := 59
abbrev fn_crc_New : Nat := 60
abbrev fn_crc_Of : Nat := 41
abbrev fn_crc_Sum_Add : Nat := 61
abbrev fn_crc_Sum_Value : Nat := 62
abbrev fn_frame_Decode : Nat := 29
abbrev fn_frame_Encode : Nat := 13
abbrev fn_frame_Plain : Nat := 18
abbrev fn_frame_Plain_1 : Nat := 43
abbrev fn_frame_within : Nat := 37
abbrev fn_scarpalike_Block : Nat := 14
abbrev fn_scarpalike_Bytes : Nat := 16
abbrev fn_scarpalike_Round : Nat := 22
abbrev fn_scarplaw8_FrameApart : Nat := 4
abbrev fn_scarplaw8_FrameBack : Nat := 8
abbrev fn_scarplaw8_FrameCodes : Nat := 7
abbrev fn_scarplaw8_FrameLimits : Nat := 3
abbrev fn_scarplaw8_FrameTorn : Nat := 9
abbrev fn_scarplaw8_awake : Nat := 12
abbrev fn_scarplaw8_made : Nat := 15
abbrev fn_scarplaw8_same : Nat := 17
abbrev fn_scarplaw9_ZdevApart : Nat := 11
abbrev fn_scarplaw9_ZdevFull : Nat := 6
abbrev fn_scarplaw9_ZdevNothing : Nat := 10
abbrev fn_scarplaw9_ZdevZones : Nat := 5
abbrev fn_scarplaw9_awake : Nat := 19
abbrev fn_scarplaw9_least : Nat := 21
abbrev fn_scarpref6_Crc : Nat := 49
abbrev fn_scarpref6_Decode : Nat := 30
abbrev fn_scarpref6_Encode : Nat := 28
abbrev fn_scarpref6_Get : Nat := 53
abbrev fn_scarpref6_Put : Nat := 48
abbrev fn_slices_Clone_sbytebyte : Nat := 46
abbrev fn_slices_Concat_sbytebyte : Nat := 38
abbrev fn_slices_ContainsFunc_sbytebyte : Nat := 42
abbrev fn_slices_Equal_sbytebyte : Nat := 52
abbrev fn_slices_Grow_sbytebyte : Nat := 58
abbrev fn_slices_IndexFunc_sbytebyte : Nat := 63
abbrev fn_zdev_Dev_Append : Nat := 24
abbrev fn_zdev_Dev_Copy : Nat := 33
abbrev fn_zdev_Dev_Crash : Nat := 32
abbrev fn_zdev_Dev_Cut : Nat := 36
abbrev fn_zdev_Dev_Flush : Nat := 35
abbrev fn_zdev_Dev_Geometry : Nat := 34
abbrev fn_zdev_Dev_Off : Nat := 31
abbrev fn_zdev_Dev_Ops : Nat := 26
abbrev fn_zdev_Dev_Pointer : Nat := 25
abbrev fn_zdev_Dev_Read : Nat := 27
abbrev fn_zdev_Dev_Reset : Nat := 23
abbrev fn_zdev_Dev_at : Nat := 44
abbrev fn_zdev_Dev_begin : Nat := 45
abbrev fn_zdev_Dev_gone : Nat := 47
abbrev fn_zdev_New : Nat := 20
abbrev fn_zdev_own : Nat := 56
abbrev fn_zdev_pick : Nat := 54
abbrev fn_zdev_rest : Nat := 55
abbrev fn_zdev_tear : Nat := 57
abbrev ty_int : Nat := 3
abbrev ty_uint8 : Nat := 5
abbrev ty_suint8 : Nat := 23
abbrev ty_frame_Block : Nat := 29
abbrev ty_scarpref6_Block : Nat := 31
abbrev ty_api_Geometry : Nat := 42
abbrev ty_zdev_Dev : Nat := 78
abbrev ty_pzdev_zone : Nat := 79
abbrev ty_zdev_zone : Nat := 82
abbrev ty_crc_Sum : Nat := 102

def vcscarplaw8_FrameLimits (n : Int) (lba : Int) (seq : Int) (epoch : Int) (kind : Int) (h : Hp) (R : Value → Hp → Prop) : Prop :=
  IfB (decide (n < (0 : Int))) (HCalls Try.prog fn_scarplaw8_awake #[] h fun r vh =>
    ∃ c : Bool, r = .bool c ∧
    R (.bool c) vh)
  (IfB (decide (n > (60 : Int))) (HCalls Try.prog fn_scarplaw8_awake #[] h fun r1 vh1 =>
      ∃ c1 : Bool, r1 = .bool c1 ∧
      R (.bool c1) vh1)
    (HCalls Try.prog fn_scarpalike_Block #[.int .i64 n, .int .i64 (1 : Int)] h fun r2 vh2 =>
      ∃ c2 : Sl, r2 = .slice c2.base c2.len c2.cap ∧
      HCalls Try.prog fn_frame_Encode #[.agg #[.int .i64 kind, .int .i64 epoch, .int .i64 seq, .int .i64 lba, .slice c2.base c2.len c2.cap]] vh2 fun r3 vh3 =>
      ∃ c3 : Sl, ∃ c4 : Int, r3 = .tuple #[.slice c3.base c3.len c3.cap, .int .i64 c4] ∧
      IfB (decide (kind < (1 : Int))) (IfB (c4 == (1 : Int)) (HCalls Try.prog fn_scarplaw8_awake #[] vh3 fun r4 vh4 =>
          ∃ c5 : Bool, r4 = .bool c5 ∧
          R (.bool c5) vh4)
        (R (.bool false) vh3))
      (IfB (decide (kind > (4 : Int))) (IfB (c4 == (1 : Int)) (HCalls Try.prog fn_scarplaw8_awake #[] vh3 fun r5 vh5 =>
            ∃ c6 : Bool, r5 = .bool c6 ∧
            R (.bool c6) vh5)
          (R (.bool false) vh3))
        (IfB (decide (lba < (0 : Int))) (IfB (c4 == (1 : Int)) (HCalls Try.prog fn_scarplaw8_awake #[] vh3 fun r6 vh6 =>
              ∃ c7 : Bool, r6 = .bool c7 ∧
              R (.bool c7) vh6)
            (R (.bool false) vh3))
          (IfB (decide (lba > (1048576 : Int))) (IfB (c4 == (1 : Int)) (HCalls Try.prog fn_scarplaw8_awake #[] vh3 fun r7 vh7 =>
                ∃ c8 : Bool, r7 = .bool c8 ∧
                R (.bool c8) vh7)
              (R (.bool false) vh3))
            (IfB (decide (seq < (0 : Int))) (IfB (c4 == (1 : Int)) (HCalls Try.prog fn_scarplaw8_awake #[] vh3 fun r8 vh8 =>
                  ∃ c9 : Bool, r8 = .bool c9 ∧
                  R (.bool c9) vh8)
                (R (.bool false) vh3))
              (IfB (decide (seq > (1099511627776 : Int))) (IfB (c4 == (1 : Int)) (HCalls Try.prog fn_scarplaw8_awake #[] vh3 fun r9 vh9 =>
                    ∃ c10 : Bool, r9 = .bool c10 ∧
                    R (.bool c10) vh9)
                  (R (.bool false) vh3))
                (IfB (decide (epoch < (0 : Int))) (IfB (c4 == (1 : Int)) (HCalls Try.prog fn_scarplaw8_awake #[] vh3 fun r10 vh10 =>
                      ∃ c11 : Bool, r10 = .bool c11 ∧
                      R (.bool c11) vh10)
                    (R (.bool false) vh3))
                  (IfB (decide (epoch > (4294967295 : Int))) (IfB (c4 == (1 : Int)) (HCalls Try.prog fn_scarplaw8_awake #[] vh3 fun r11 vh11 =>
                        ∃ c12 : Bool, r11 = .bool c12 ∧
                        R (.bool c12) vh11)
                      (R (.bool false) vh3))
                    (IfB (decide (n > (40 : Int))) (IfB (c4 == (3 : Int)) (HCalls Try.prog fn_scarplaw8_awake #[] vh3 fun r12 vh12 =>
                          ∃ c13 : Bool, r12 = .bool c13 ∧
                          R (.bool c13) vh12)
                        (R (.bool false) vh3))
                      (IfB (c4 == (0 : Int)) (HCalls Try.prog fn_scarplaw8_awake #[] vh3 fun r13 vh13 =>
                          ∃ c14 : Bool, r13 = .bool c14 ∧
                          R (.bool c14) vh13)
                        (R (.bool false) vh3))))))))))))
theorem scarplaw8_FrameLimits_vc {n : Int} {lba : Int} {seq : Int} {epoch : Int} {kind : Int} {h : Hp} {R : Value → Hp → Prop} (H : vcscarplaw8_FrameLimits n lba seq epoch kind h R) : HCalls Try.prog fn_scarplaw8_FrameLimits #[.int .i64 n, .int .i64 lba, .int .i64 seq, .int .i64 epoch, .int .i64 kind] h R :=
  vc_fn (annOf [] []) Try.func3 [.int .i64 n, .int .i64 lba, .int .i64 seq, .int .i64 epoch, .int .i64 kind] (by kernel_rfl) (V := vcscarplaw8_FrameLimits n lba seq epoch kind h R) (by kernel_rfl) H

def vcscarplaw8_FrameApart (a : Int) (a1 : Int) (a2 : Int) (a3 : Int) (a4 : Sl) (b : Int) (b1 : Int) (b2 : Int) (b3 : Int) (b4 : Sl) (h : Hp) (R : Value → Hp → Prop) : Prop :=
  let vh := alc h [.int .i64 a, .int .i64 a1, .int .i64 a2, .int .i64 a3, .slice a4.base a4.len a4.cap] ty_scarpref6_Block;
  let vh1 := alc vh [.int .i64 b, .int .i64 b1, .int .i64 b2, .int .i64 b3, .slice b4.base b4.len b4.cap] ty_scarpref6_Block;
  ∃ c : Sl, hcell vh1 ((nw h).add 4) = some (.slice c.base c.len c.cap) ∧
  IfB (decide ((c.len : Int) > (39 : Int))) (HCalls Try.prog fn_scarplaw8_awake #[] vh1 fun r vh2 =>
    ∃ c1 : Bool, r = .bool c1 ∧
    R (.bool c1) vh2)
  (∃ c2 : Sl, hcell vh1 ((nw vh).add 4) = some (.slice c2.base c2.len c2.cap) ∧
    IfB (decide ((c2.len : Int) > (300 : Int))) (HCalls Try.prog fn_scarplaw8_awake #[] vh1 fun r1 vh3 =>
      ∃ c3 : Bool, r1 = .bool c3 ∧
      R (.bool c3) vh3)
    (∃ c4 : Int, ∃ c5 : Int, ∃ c6 : Int, ∃ c7 : Int, ∃ c8 : Sl, hcell vh1 ((nw h)) = some (.int .i64 c4) ∧ hcell vh1 ((nw h).add 1) = some (.int .i64 c5) ∧ hcell vh1 ((nw h).add 2) = some (.int .i64 c6) ∧ hcell vh1 ((nw h).add 3) = some (.int .i64 c7) ∧ hcell vh1 ((nw h).add 4) = some (.slice c8.base c8.len c8.cap) ∧
      HCalls Try.prog fn_scarplaw8_made #[.agg #[.int .i64 c4, .int .i64 c5, .int .i64 c6, .int .i64 c7, .slice c8.base c8.len c8.cap]] vh1 fun r2 vh4 =>
      ∃ c9 : Int, ∃ c10 : Int, ∃ c11 : Int, ∃ c12 : Int, ∃ c13 : Sl, r2 = .agg #[.int .i64 c9, .int .i64 c10, .int .i64 c11, .int .i64 c12, .slice c13.base c13.len c13.cap] ∧
      HCalls Try.prog fn_frame_Encode #[.agg #[.int .i64 c9, .int .i64 c10, .int .i64 c11, .int .i64 c12, .slice c13.base c13.len c13.cap]] vh4 fun r3 vh5 =>
      ∃ c14 : Sl, ∃ c15 : Int, r3 = .tuple #[.slice c14.base c14.len c14.cap, .int .i64 c15] ∧
      ∃ c16 : Int, ∃ c17 : Int, ∃ c18 : Int, ∃ c19 : Int, ∃ c20 : Sl, hcell vh5 ((nw vh)) = some (.int .i64 c16) ∧ hcell vh5 ((nw vh).add 1) = some (.int .i64 c17) ∧ hcell vh5 ((nw vh).add 2) = some (.int .i64 c18) ∧ hcell vh5 ((nw vh).add 3) = some (.int .i64 c19) ∧ hcell vh5 ((nw vh).add 4) = some (.slice c20.base c20.len c20.cap) ∧
      HCalls Try.prog fn_scarplaw8_made #[.agg #[.int .i64 c16, .int .i64 c17, .int .i64 c18, .int .i64 c19, .slice c20.base c20.len c20.cap]] vh5 fun r4 vh6 =>
      ∃ c21 : Int, ∃ c22 : Int, ∃ c23 : Int, ∃ c24 : Int, ∃ c25 : Sl, r4 = .agg #[.int .i64 c21, .int .i64 c22, .int .i64 c23, .int .i64 c24, .slice c25.base c25.len c25.cap] ∧
      HCalls Try.prog fn_frame_Encode #[.agg #[.int .i64 c21, .int .i64 c22, .int .i64 c23, .int .i64 c24, .slice c25.base c25.len c25.cap]] vh6 fun r5 vh7 =>
      ∃ c26 : Sl, ∃ c27 : Int, r5 = .tuple #[.slice c26.base c26.len c26.cap, .int .i64 c27] ∧
      IfB (c15 != (0 : Int)) (HCalls Try.prog fn_scarplaw8_awake #[] vh7 fun r6 vh8 =>
        ∃ c28 : Bool, r6 = .bool c28 ∧
        R (.bool c28) vh8)
      (IfB (c27 != (0 : Int)) (HCalls Try.prog fn_scarplaw8_awake #[] vh7 fun r7 vh9 =>
          ∃ c29 : Bool, r7 = .bool c29 ∧
          R (.bool c29) vh9)
        (∃ c30 : Int, ∃ c31 : Int, ∃ c32 : Int, ∃ c33 : Int, ∃ c34 : Sl, hcell vh7 ((nw h)) = some (.int .i64 c30) ∧ hcell vh7 ((nw h).add 1) = some (.int .i64 c31) ∧ hcell vh7 ((nw h).add 2) = some (.int .i64 c32) ∧ hcell vh7 ((nw h).add 3) = some (.int .i64 c33) ∧ hcell vh7 ((nw h).add 4) = some (.slice c34.base c34.len c34.cap) ∧
          let vh10 := alc vh7 [.int .i64 (0 : Int), .int .i64 (0 : Int), .int .i64 (0 : Int), .int .i64 (0 : Int), .slice Sl.nil.base Sl.nil.len Sl.nil.cap] ty_scarpref6_Block;
          stCells (nw vh7) 0 [.int .i64 c30, .int .i64 c31, .int .i64 c32, .int .i64 c33, .slice c34.base c34.len c34.cap] vh10 fun vh11 =>
          let vh12 := alc vh11 [] ty_uint8;
          ∃ c35 : Sl, hcell vh12 ((nw h).add 4) = some (.slice c35.base c35.len c35.cap) ∧
          AppC ty_uint8 1 1 #[.int .u8 (0 : Int)] (Sl.mk (some (nw vh11)) 0 0) c35 vh12 fun s vh13 =>
          let vh14 := alc vh13 [.int .u8 (0 : Int)] ty_uint8;
          AppC ty_uint8 1 1 #[.int .u8 (0 : Int)] s (Sl.mk (some (nw vh13)) 1 1) vh14 fun s1 vh15 =>
          StOk vh15 ((nw vh7).add 4) ∧
          Lt (hset vh15 ((nw vh7).add 4) (.slice s1.base s1.len s1.cap)) fun vh16 =>
          ∃ c36 : Int, ∃ c37 : Int, ∃ c38 : Int, ∃ c39 : Int, ∃ c40 : Sl, hcell vh16 ((nw vh7)) = some (.int .i64 c36) ∧ hcell vh16 ((nw vh7).add 1) = some (.int .i64 c37) ∧ hcell vh16 ((nw vh7).add 2) = some (.int .i64 c38) ∧ hcell vh16 ((nw vh7).add 3) = some (.int .i64 c39) ∧ hcell vh16 ((nw vh7).add 4) = some (.slice c40.base c40.len c40.cap) ∧
          HCalls Try.prog fn_scarplaw8_made #[.agg #[.int .i64 c36, .int .i64 c37, .int .i64 c38, .int .i64 c39, .slice c40.base c40.len c40.cap]] vh16 fun r8 vh17 =>
          ∃ c41 : Int, ∃ c42 : Int, ∃ c43 : Int, ∃ c44 : Int, ∃ c45 : Sl, r8 = .agg #[.int .i64 c41, .int .i64 c42, .int .i64 c43, .int .i64 c44, .slice c45.base c45.len c45.cap] ∧
          HCalls Try.prog fn_frame_Encode #[.agg #[.int .i64 c41, .int .i64 c42, .int .i64 c43, .int .i64 c44, .slice c45.base c45.len c45.cap]] vh17 fun r9 vh18 =>
          ∃ c46 : Sl, ∃ c47 : Int, r9 = .tuple #[.slice c46.base c46.len c46.cap, .int .i64 c47] ∧
          ∃ c48 : Int, ∃ c49 : Int, ∃ c50 : Int, ∃ c51 : Int, ∃ c52 : Sl, hcell vh18 ((nw h)) = some (.int .i64 c48) ∧ hcell vh18 ((nw h).add 1) = some (.int .i64 c49) ∧ hcell vh18 ((nw h).add 2) = some (.int .i64 c50) ∧ hcell vh18 ((nw h).add 3) = some (.int .i64 c51) ∧ hcell vh18 ((nw h).add 4) = some (.slice c52.base c52.len c52.cap) ∧
          ∃ c53 : Int, ∃ c54 : Int, ∃ c55 : Int, ∃ c56 : Int, ∃ c57 : Sl, hcell vh18 ((nw vh)) = some (.int .i64 c53) ∧ hcell vh18 ((nw vh).add 1) = some (.int .i64 c54) ∧ hcell vh18 ((nw vh).add 2) = some (.int .i64 c55) ∧ hcell vh18 ((nw vh).add 3) = some (.int .i64 c56) ∧ hcell vh18 ((nw vh).add 4) = some (.slice c57.base c57.len c57.cap) ∧
          HCalls Try.prog fn_scarpalike_Bytes #[.slice c14.base c14.len c14.cap, .slice c26.base c26.len c26.cap] vh18 fun r10 vh19 =>
          ∃ c58 : Bool, r10 = .bool c58 ∧
          Ext vh18 vh19 ∧
          HCalls Try.prog fn_scarplaw8_made #[.agg #[.int .i64 c48, .int .i64 c49, .int .i64 c50, .int .i64 c51, .slice c52.base c52.len c52.cap]] vh19 fun r11 vh20 =>
          ∃ c59 : Int, ∃ c60 : Int, ∃ c61 : Int, ∃ c62 : Int, ∃ c63 : Sl, r11 = .agg #[.int .i64 c59, .int .i64 c60, .int .i64 c61, .int .i64 c62, .slice c63.base c63.len c63.cap] ∧
          Ext vh18 vh20 ∧
          HCalls Try.prog fn_scarplaw8_same #[.agg #[.int .i64 c59, .int .i64 c60, .int .i64 c61, .int .i64 c62, .slice c63.base c63.len c63.cap], .agg #[.int .i64 c53, .int .i64 c54, .int .i64 c55, .int .i64 c56, .slice c57.base c57.len c57.cap]] vh20 fun r12 vh21 =>
          ∃ c64 : Bool, r12 = .bool c64 ∧
          Ext vh18 vh21 ∧
          IfB (c58 == c64) (IfB (c47 == (0 : Int)) (HCalls Try.prog fn_scarpalike_Bytes #[.slice c14.base c14.len c14.cap, .slice c46.base c46.len c46.cap] vh21 fun r13 vh22 =>
              ∃ c65 : Bool, r13 = .bool c65 ∧
              Ext vh18 vh22 ∧
              IfB (!c65) (HCalls Try.prog fn_frame_Plain #[.slice c14.base c14.len c14.cap] vh22 fun r14 vh23 =>
                ∃ c66 : Bool, r14 = .bool c66 ∧
                Ext vh18 vh23 ∧
                IfB (!c66) (HCalls Try.prog fn_scarplaw8_awake #[] vh23 fun r15 vh24 =>
                  ∃ c67 : Bool, r15 = .bool c67 ∧
                  Ext vh18 vh24 ∧
                  R (.bool c67) vh24)
                (R (.bool false) vh23))
              (R (.bool false) vh22))
            (R (.bool false) vh21))
          (R (.bool false) vh21)))))
theorem scarplaw8_FrameApart_vc {a : Int} {a1 : Int} {a2 : Int} {a3 : Int} {a4 : Sl} {b : Int} {b1 : Int} {b2 : Int} {b3 : Int} {b4 : Sl} {h : Hp} {R : Value → Hp → Prop} (H : vcscarplaw8_FrameApart a a1 a2 a3 a4 b b1 b2 b3 b4 h R) : HCalls Try.prog fn_scarplaw8_FrameApart #[.agg #[.int .i64 a, .int .i64 a1, .int .i64 a2, .int .i64 a3, .slice a4.base a4.len a4.cap], .agg #[.int .i64 b, .int .i64 b1, .int .i64 b2, .int .i64 b3, .slice b4.base b4.len b4.cap]] h R :=
  vc_fn (annOf [] []) Try.func4 [.agg #[.int .i64 a, .int .i64 a1, .int .i64 a2, .int .i64 a3, .slice a4.base a4.len a4.cap], .agg #[.int .i64 b, .int .i64 b1, .int .i64 b2, .int .i64 b3, .slice b4.base b4.len b4.cap]] (by kernel_rfl) (V := vcscarplaw8_FrameApart a a1 a2 a3 a4 b b1 b2 b3 b4 h R) (by kernel_rfl) H

def vcscarplaw9_ZdevFull (size : Int) (zone : Int) (turns : Int) (h : Hp) (R : Value → Hp → Prop) : Prop :=
  IfB (decide (size < (96 : Int))) (HCalls Try.prog fn_scarplaw9_awake #[] h fun r vh =>
    ∃ c : Bool, r = .bool c ∧
    R (.bool c) vh)
  (IfB (decide (size > (192 : Int))) (HCalls Try.prog fn_scarplaw9_awake #[] h fun r1 vh1 =>
      ∃ c1 : Bool, r1 = .bool c1 ∧
      R (.bool c1) vh1)
    (IfB (decide (zone < (0 : Int))) (HCalls Try.prog fn_scarplaw9_awake #[] h fun r2 vh2 =>
        ∃ c2 : Bool, r2 = .bool c2 ∧
        R (.bool c2) vh2)
      (IfB (decide (zone ≥ (8 : Int))) (HCalls Try.prog fn_scarplaw9_awake #[] h fun r3 vh3 =>
          ∃ c3 : Bool, r3 = .bool c3 ∧
          R (.bool c3) vh3)
        (IfB (decide (turns < (1 : Int))) (HCalls Try.prog fn_scarplaw9_awake #[] h fun r4 vh4 =>
            ∃ c4 : Bool, r4 = .bool c4 ∧
            R (.bool c4) vh4)
          (IfB (decide (turns > (4 : Int))) (HCalls Try.prog fn_scarplaw9_awake #[] h fun r5 vh5 =>
              ∃ c5 : Bool, r5 = .bool c5 ∧
              R (.bool c5) vh5)
            (HCalls Try.prog fn_zdev_New #[.agg #[.int .i64 (8 : Int), .int .i64 size]] h fun r6 vh6 =>
              ∃ c6 : Option Addr, ∃ c7 : Int, r6 = .tuple #[.pointer c6, .int .i64 c7] ∧
              IfB (c7 != (0 : Int)) (R (.bool false) vh6)
              (IfB (isNone? c6) (R (.bool false) vh6)
                (∃ (vI : Int → Nat → Hp → Prop) (n : Nat), vI (0 : Int) n vh6 ∧
                  ∀ _junk : Nat → Value, ∀ k : Int, ∀ (n1 : Nat) (vh7 : Hp), vI k n1 vh7 →
                  IfB (decide (k < turns)) (∃ (vI1 : Int → Nat → Hp → Prop) (n3 : Nat), vI1 (0 : Int) n3 vh7 ∧
                    ∀ _junk : Nat → Value, ∀ i : Int, ∀ (n4 : Nat) (vh8 : Hp), vI1 i n4 vh8 →
                    IfB (decide (i < size)) (HCalls Try.prog fn_scarpalike_Block #[.int .i64 (64 : Int), .int .i64 i] vh8 fun r7 vh9 =>
                      ∃ c8 : Sl, r7 = .slice c8.base c8.len c8.cap ∧
                      HCalls Try.prog fn_zdev_Dev_Append #[.pointer c6, .int .i64 zone, .slice c8.base c8.len c8.cap] vh9 fun r8 vh10 =>
                      ∃ c9 : Int, ∃ c10 : Int, r8 = .tuple #[.int .i64 c9, .int .i64 c10] ∧
                      IfB (c10 != (0 : Int)) (R (.bool false) vh10)
                      (IfB (c9 != i) (R (.bool false) vh10)
                        (∃ n5, n5 < n4 ∧ vI1 (iAdd .i64 i (1 : Int)) n5 vh10)))
                    (HCalls Try.prog fn_scarpalike_Block #[.int .i64 (64 : Int), .int .i64 (1 : Int)] vh8 fun r9 vh11 =>
                      ∃ c11 : Sl, r9 = .slice c11.base c11.len c11.cap ∧
                      HCalls Try.prog fn_zdev_Dev_Append #[.pointer c6, .int .i64 zone, .slice c11.base c11.len c11.cap] vh11 fun r10 vh12 =>
                      ∃ c12 : Int, ∃ c13 : Int, r10 = .tuple #[.int .i64 c12, .int .i64 c13] ∧
                      HCalls Try.prog fn_zdev_Dev_Read #[.pointer c6, .int .i64 zone, .int .i64 size] vh12 fun r11 vh13 =>
                      ∃ c14 : Sl, ∃ c15 : Int, r11 = .tuple #[.slice c14.base c14.len c14.cap, .int .i64 c15] ∧
                      IfB (c13 != (9 : Int)) (R (.bool false) vh13)
                      (IfB (c15 != (14 : Int)) (R (.bool false) vh13)
                        (HCalls Try.prog fn_zdev_Dev_Reset #[.pointer c6, .int .i64 zone] vh13 fun r12 vh14 =>
                          ∃ c16 : Int, r12 = .int .i64 c16 ∧
                          IfB (c16 != (0 : Int)) (R (.bool false) vh14)
                          (HCalls Try.prog fn_zdev_Dev_Pointer #[.pointer c6, .int .i64 zone] vh14 fun r13 vh15 =>
                            ∃ c17 : Int, ∃ c18 : Int, r13 = .tuple #[.int .i64 c17, .int .i64 c18] ∧
                            IfB (c18 != (0 : Int)) (R (.bool false) vh15)
                            (IfB (c17 != (0 : Int)) (R (.bool false) vh15)
                              (∃ n2, n2 < n1 ∧ vI (iAdd .i64 k (1 : Int)) n2 vh15)))))))
                  (HCalls Try.prog fn_zdev_Dev_Ops #[.pointer c6] vh7 fun r14 vh16 =>
                    ∃ c19 : Int, r14 = .int .i64 c19 ∧
                    IfB (c19 == (iMul .i64 turns (iAdd .i64 size (2 : Int)))) (HCalls Try.prog fn_scarplaw9_awake #[] vh16 fun r15 vh17 =>
                      ∃ c20 : Bool, r15 = .bool c20 ∧
                      R (.bool c20) vh17)
                    (R (.bool false) vh16))))))))))
theorem scarplaw9_ZdevFull_vc {size : Int} {zone : Int} {turns : Int} {h : Hp} {R : Value → Hp → Prop} (H : vcscarplaw9_ZdevFull size zone turns h R) : HCalls Try.prog fn_scarplaw9_ZdevFull #[.int .i64 size, .int .i64 zone, .int .i64 turns] h R :=
  vc_fn (annOf [(0, [(9, .int .i64)]), (1, [(10, .int .i64)])] []) Try.func6 [.int .i64 size, .int .i64 zone, .int .i64 turns] (by kernel_rfl) (V := vcscarplaw9_ZdevFull size zone turns h R) (by kernel_rfl) H

def vcscarplaw8_FrameCodes (b : Int) (b1 : Int) (b2 : Int) (b3 : Int) (b4 : Sl) (p : Sl) (h : Hp) (R : Value → Hp → Prop) : Prop :=
  let vh := alc h [.int .i64 b, .int .i64 b1, .int .i64 b2, .int .i64 b3, .slice b4.base b4.len b4.cap] ty_scarpref6_Block;
  ∃ c : Sl, hcell vh ((nw h).add 4) = some (.slice c.base c.len c.cap) ∧
  IfB (decide ((c.len : Int) > (300 : Int))) (HCalls Try.prog fn_scarplaw8_awake #[] vh fun r vh1 =>
    ∃ c1 : Bool, r = .bool c1 ∧
    R (.bool c1) vh1)
  (IfB (decide ((p.len : Int) > (300 : Int))) (HCalls Try.prog fn_scarplaw8_awake #[] vh fun r1 vh2 =>
      ∃ c2 : Bool, r1 = .bool c2 ∧
      R (.bool c2) vh2)
    (∃ c3 : Int, ∃ c4 : Int, ∃ c5 : Int, ∃ c6 : Int, ∃ c7 : Sl, hcell vh ((nw h)) = some (.int .i64 c3) ∧ hcell vh ((nw h).add 1) = some (.int .i64 c4) ∧ hcell vh ((nw h).add 2) = some (.int .i64 c5) ∧ hcell vh ((nw h).add 3) = some (.int .i64 c6) ∧ hcell vh ((nw h).add 4) = some (.slice c7.base c7.len c7.cap) ∧
      HCalls Try.prog fn_scarplaw8_made #[.agg #[.int .i64 c3, .int .i64 c4, .int .i64 c5, .int .i64 c6, .slice c7.base c7.len c7.cap]] vh fun r2 vh3 =>
      ∃ c8 : Int, ∃ c9 : Int, ∃ c10 : Int, ∃ c11 : Int, ∃ c12 : Sl, r2 = .agg #[.int .i64 c8, .int .i64 c9, .int .i64 c10, .int .i64 c11, .slice c12.base c12.len c12.cap] ∧
      HCalls Try.prog fn_frame_Encode #[.agg #[.int .i64 c8, .int .i64 c9, .int .i64 c10, .int .i64 c11, .slice c12.base c12.len c12.cap]] vh3 fun r3 vh4 =>
      ∃ c13 : Sl, ∃ c14 : Int, r3 = .tuple #[.slice c13.base c13.len c13.cap, .int .i64 c14] ∧
      ∃ c15 : Int, ∃ c16 : Int, ∃ c17 : Int, ∃ c18 : Int, ∃ c19 : Sl, hcell vh4 ((nw h)) = some (.int .i64 c15) ∧ hcell vh4 ((nw h).add 1) = some (.int .i64 c16) ∧ hcell vh4 ((nw h).add 2) = some (.int .i64 c17) ∧ hcell vh4 ((nw h).add 3) = some (.int .i64 c18) ∧ hcell vh4 ((nw h).add 4) = some (.slice c19.base c19.len c19.cap) ∧
      HCalls Try.prog fn_scarpref6_Encode #[.agg #[.int .i64 c15, .int .i64 c16, .int .i64 c17, .int .i64 c18, .slice c19.base c19.len c19.cap]] vh4 fun r4 vh5 =>
      ∃ c20 : Sl, ∃ c21 : Int, r4 = .tuple #[.slice c20.base c20.len c20.cap, .int .i64 c21] ∧
      HCalls Try.prog fn_frame_Decode #[.slice p.base p.len p.cap] vh5 fun r5 vh6 =>
      ∃ c22 : Int, ∃ c23 : Int, ∃ c24 : Int, ∃ c25 : Int, ∃ c26 : Sl, ∃ c27 : Int, r5 = .tuple #[.agg #[.int .i64 c22, .int .i64 c23, .int .i64 c24, .int .i64 c25, .slice c26.base c26.len c26.cap], .int .i64 c27] ∧
      let vh7 := alc vh6 [.int .i64 (0 : Int), .int .i64 (0 : Int), .int .i64 (0 : Int), .int .i64 (0 : Int), .slice Sl.nil.base Sl.nil.len Sl.nil.cap] ty_frame_Block;
      stCells (nw vh6) 0 [.int .i64 c22, .int .i64 c23, .int .i64 c24, .int .i64 c25, .slice c26.base c26.len c26.cap] vh7 fun vh8 =>
      HCalls Try.prog fn_scarpref6_Decode #[.slice p.base p.len p.cap] vh8 fun r6 vh9 =>
      ∃ c28 : Int, ∃ c29 : Int, ∃ c30 : Int, ∃ c31 : Int, ∃ c32 : Sl, ∃ c33 : Int, r6 = .tuple #[.agg #[.int .i64 c28, .int .i64 c29, .int .i64 c30, .int .i64 c31, .slice c32.base c32.len c32.cap], .int .i64 c33] ∧
      let vh10 := alc vh9 [.int .i64 (0 : Int), .int .i64 (0 : Int), .int .i64 (0 : Int), .int .i64 (0 : Int), .slice Sl.nil.base Sl.nil.len Sl.nil.cap] ty_scarpref6_Block;
      stCells (nw vh9) 0 [.int .i64 c28, .int .i64 c29, .int .i64 c30, .int .i64 c31, .slice c32.base c32.len c32.cap] vh10 fun vh11 =>
      ∃ (vI : Bool → Int → Nat → Hp → Prop) (n : Nat), vI ((p.len : Int) == (64 : Int)) (0 : Int) n vh11 ∧
      ∀ _junk : Nat → Value, ∀ plain : Bool, ∀ i : Int, ∀ (n1 : Nat) (vh12 : Hp), vI plain i n1 vh12 →
      IfB (decide (i < (p.len : Int))) (IfB plain (∃ a : Addr, p.base = some a ∧ 0 ≤ i ∧ i < (p.len : Int) ∧
          ∃ c34 : Int, hcell vh12 (a.add ((i).toNat * 1)) = some (.int .u8 c34) ∧
          ∃ n2, n2 < n1 ∧ vI (c34 == (0 : Int)) (iAdd .i64 i (1 : Int)) n2 vh12)
        (∃ n2, n2 < n1 ∧ vI false (iAdd .i64 i (1 : Int)) n2 vh12))
      (HCalls Try.prog fn_scarpalike_Bytes #[.slice c13.base c13.len c13.cap, .slice c20.base c20.len c20.cap] vh12 fun r7 vh13 =>
        ∃ c35 : Bool, r7 = .bool c35 ∧
        IfB c35 (IfB (c14 == c21) (∃ c36 : Int, ∃ c37 : Int, ∃ c38 : Int, ∃ c39 : Int, ∃ c40 : Sl, hcell vh13 ((nw vh6)) = some (.int .i64 c36) ∧ hcell vh13 ((nw vh6).add 1) = some (.int .i64 c37) ∧ hcell vh13 ((nw vh6).add 2) = some (.int .i64 c38) ∧ hcell vh13 ((nw vh6).add 3) = some (.int .i64 c39) ∧ hcell vh13 ((nw vh6).add 4) = some (.slice c40.base c40.len c40.cap) ∧
            ∃ c41 : Int, ∃ c42 : Int, ∃ c43 : Int, ∃ c44 : Int, ∃ c45 : Sl, hcell vh13 ((nw vh9)) = some (.int .i64 c41) ∧ hcell vh13 ((nw vh9).add 1) = some (.int .i64 c42) ∧ hcell vh13 ((nw vh9).add 2) = some (.int .i64 c43) ∧ hcell vh13 ((nw vh9).add 3) = some (.int .i64 c44) ∧ hcell vh13 ((nw vh9).add 4) = some (.slice c45.base c45.len c45.cap) ∧
            HCalls Try.prog fn_scarplaw8_same #[.agg #[.int .i64 c36, .int .i64 c37, .int .i64 c38, .int .i64 c39, .slice c40.base c40.len c40.cap], .agg #[.int .i64 c41, .int .i64 c42, .int .i64 c43, .int .i64 c44, .slice c45.base c45.len c45.cap]] vh13 fun r8 vh14 =>
            ∃ c46 : Bool, r8 = .bool c46 ∧
            IfB c46 (IfB (c27 == c33) (HCalls Try.prog fn_frame_Plain #[.slice p.base p.len p.cap] vh14 fun r9 vh15 =>
                ∃ c47 : Bool, r9 = .bool c47 ∧
                IfB (c47 == plain) (HCalls Try.prog fn_scarplaw8_awake #[] vh15 fun r10 vh16 =>
                  ∃ c48 : Bool, r10 = .bool c48 ∧
                  R (.bool c48) vh16)
                (R (.bool false) vh15))
              (R (.bool false) vh14))
            (R (.bool false) vh14))
          (R (.bool false) vh13))
        (R (.bool false) vh13))))
theorem scarplaw8_FrameCodes_vc {b : Int} {b1 : Int} {b2 : Int} {b3 : Int} {b4 : Sl} {p : Sl} {h : Hp} {R : Value → Hp → Prop} (H : vcscarplaw8_FrameCodes b b1 b2 b3 b4 p h R) : HCalls Try.prog fn_scarplaw8_FrameCodes #[.agg #[.int .i64 b, .int .i64 b1, .int .i64 b2, .int .i64 b3, .slice b4.base b4.len b4.cap], .slice p.base p.len p.cap] h R :=
  vc_fn (annOf [(0, [(13, .bool), (14, .int .i64)])] []) Try.func7 [.agg #[.int .i64 b, .int .i64 b1, .int .i64 b2, .int .i64 b3, .slice b4.base b4.len b4.cap], .slice p.base p.len p.cap] (by kernel_rfl) (V := vcscarplaw8_FrameCodes b b1 b2 b3 b4 p h R) (by kernel_rfl) H

def vcscarplaw8_FrameBack (b : Int) (b1 : Int) (b2 : Int) (b3 : Int) (b4 : Sl) (bit : Int) (cut : Int) (h : Hp) (R : Value → Hp → Prop) : Prop :=
  let vh := alc h [.int .i64 b, .int .i64 b1, .int .i64 b2, .int .i64 b3, .slice b4.base b4.len b4.cap] ty_scarpref6_Block;
  ∃ c : Sl, hcell vh ((nw h).add 4) = some (.slice c.base c.len c.cap) ∧
  IfB (decide ((c.len : Int) > (300 : Int))) (HCalls Try.prog fn_scarplaw8_awake #[] vh fun r vh1 =>
    ∃ c1 : Bool, r = .bool c1 ∧
    R (.bool c1) vh1)
  (∃ c2 : Int, ∃ c3 : Int, ∃ c4 : Int, ∃ c5 : Int, ∃ c6 : Sl, hcell vh ((nw h)) = some (.int .i64 c2) ∧ hcell vh ((nw h).add 1) = some (.int .i64 c3) ∧ hcell vh ((nw h).add 2) = some (.int .i64 c4) ∧ hcell vh ((nw h).add 3) = some (.int .i64 c5) ∧ hcell vh ((nw h).add 4) = some (.slice c6.base c6.len c6.cap) ∧
    HCalls Try.prog fn_scarplaw8_made #[.agg #[.int .i64 c2, .int .i64 c3, .int .i64 c4, .int .i64 c5, .slice c6.base c6.len c6.cap]] vh fun r1 vh2 =>
    ∃ c7 : Int, ∃ c8 : Int, ∃ c9 : Int, ∃ c10 : Int, ∃ c11 : Sl, r1 = .agg #[.int .i64 c7, .int .i64 c8, .int .i64 c9, .int .i64 c10, .slice c11.base c11.len c11.cap] ∧
    HCalls Try.prog fn_frame_Encode #[.agg #[.int .i64 c7, .int .i64 c8, .int .i64 c9, .int .i64 c10, .slice c11.base c11.len c11.cap]] vh2 fun r2 vh3 =>
    ∃ c12 : Sl, ∃ c13 : Int, r2 = .tuple #[.slice c12.base c12.len c12.cap, .int .i64 c13] ∧
    IfB (c13 != (0 : Int)) (IfB ((c12.len : Int) == (0 : Int)) (HCalls Try.prog fn_scarplaw8_awake #[] vh3 fun r3 vh4 =>
        ∃ c14 : Bool, r3 = .bool c14 ∧
        R (.bool c14) vh4)
      (R (.bool false) vh3))
    (IfB ((c12.len : Int) != (64 : Int)) (R (.bool false) vh3)
      (HCalls Try.prog fn_frame_Decode #[.slice c12.base c12.len c12.cap] vh3 fun r4 vh5 =>
        ∃ c15 : Int, ∃ c16 : Int, ∃ c17 : Int, ∃ c18 : Int, ∃ c19 : Sl, ∃ c20 : Int, r4 = .tuple #[.agg #[.int .i64 c15, .int .i64 c16, .int .i64 c17, .int .i64 c18, .slice c19.base c19.len c19.cap], .int .i64 c20] ∧
        let vh6 := alc vh5 [.int .i64 (0 : Int), .int .i64 (0 : Int), .int .i64 (0 : Int), .int .i64 (0 : Int), .slice Sl.nil.base Sl.nil.len Sl.nil.cap] ty_frame_Block;
        stCells (nw vh5) 0 [.int .i64 c15, .int .i64 c16, .int .i64 c17, .int .i64 c18, .slice c19.base c19.len c19.cap] vh6 fun vh7 =>
        let vh8 := alc vh7 [] ty_uint8;
        AppC ty_uint8 1 1 #[.int .u8 (0 : Int)] (Sl.mk (some (nw vh7)) 0 0) c12 vh8 fun s vh9 =>
        HCalls Try.prog fn_scarpalike_Round #[.int .i64 bit, .int .i64 (iMul .i64 (8 : Int) (s.len : Int))] vh9 fun r5 vh10 =>
        ∃ c21 : Int, r5 = .int .i64 c21 ∧
        (8 : Int) ≠ 0 ∧
        (8 : Int) ≠ 0 ∧
        ∃ a : Addr, s.base = some a ∧ 0 ≤ (iQuo .i64 c21 (8 : Int)) ∧ (iQuo .i64 c21 (8 : Int)) < (s.len : Int) ∧
        ∃ c22 : Int, hcell vh10 (a.add (((iQuo .i64 c21 (8 : Int))).toNat * 1)) = some (.int .u8 c22) ∧
        (8 : Int) ≠ 0 ∧
        0 ≤ (iRem c21 (8 : Int)) ∧
        ∃ a1 : Addr, s.base = some a1 ∧ 0 ≤ (iQuo .i64 c21 (8 : Int)) ∧ (iQuo .i64 c21 (8 : Int)) < (s.len : Int) ∧
        StOk vh10 (a1.add (((iQuo .i64 c21 (8 : Int))).toNat * 1)) ∧
        Lt (hset vh10 (a1.add (((iQuo .i64 c21 (8 : Int))).toNat * 1)) (.int .u8 (iXor .u8 c22 (iShl .u8 (1 : Int) (iRem c21 (8 : Int)))))) fun vh11 =>
        HCalls Try.prog fn_frame_Decode #[.slice s.base s.len s.cap] vh11 fun r6 vh12 =>
        ∃ c23 : Int, ∃ c24 : Int, ∃ c25 : Int, ∃ c26 : Int, ∃ c27 : Sl, ∃ c28 : Int, r6 = .tuple #[.agg #[.int .i64 c23, .int .i64 c24, .int .i64 c25, .int .i64 c26, .slice c27.base c27.len c27.cap], .int .i64 c28] ∧
        let vh13 := alc vh12 [.int .i64 (0 : Int), .int .i64 (0 : Int), .int .i64 (0 : Int), .int .i64 (0 : Int), .slice Sl.nil.base Sl.nil.len Sl.nil.cap] ty_frame_Block;
        stCells (nw vh12) 0 [.int .i64 c23, .int .i64 c24, .int .i64 c25, .int .i64 c26, .slice c27.base c27.len c27.cap] vh13 fun vh14 =>
        HCalls Try.prog fn_scarpalike_Round #[.int .i64 cut, .int .i64 (c12.len : Int)] vh14 fun r7 vh15 =>
        ∃ c29 : Int, r7 = .int .i64 c29 ∧
        0 ≤ (0 : Int) ∧ (0 : Int) ≤ c29 ∧ c29 ≤ (c12.cap : Int) ∧ (c12.cap : Int) ≤ (c12.cap : Int) ∧
        HCalls Try.prog fn_frame_Decode #[.slice (cutSl c12 (0 : Int) c29 (c12.cap : Int) 1).base (cutSl c12 (0 : Int) c29 (c12.cap : Int) 1).len (cutSl c12 (0 : Int) c29 (c12.cap : Int) 1).cap] vh15 fun r8 vh16 =>
        ∃ c30 : Int, ∃ c31 : Int, ∃ c32 : Int, ∃ c33 : Int, ∃ c34 : Sl, ∃ c35 : Int, r8 = .tuple #[.agg #[.int .i64 c30, .int .i64 c31, .int .i64 c32, .int .i64 c33, .slice c34.base c34.len c34.cap], .int .i64 c35] ∧
        let vh17 := alc vh16 [.int .i64 (0 : Int), .int .i64 (0 : Int), .int .i64 (0 : Int), .int .i64 (0 : Int), .slice Sl.nil.base Sl.nil.len Sl.nil.cap] ty_frame_Block;
        stCells (nw vh16) 0 [.int .i64 c30, .int .i64 c31, .int .i64 c32, .int .i64 c33, .slice c34.base c34.len c34.cap] vh17 fun vh18 =>
        IfB (c20 == (0 : Int)) (∃ c36 : Int, ∃ c37 : Int, ∃ c38 : Int, ∃ c39 : Int, ∃ c40 : Sl, hcell vh18 ((nw vh5)) = some (.int .i64 c36) ∧ hcell vh18 ((nw vh5).add 1) = some (.int .i64 c37) ∧ hcell vh18 ((nw vh5).add 2) = some (.int .i64 c38) ∧ hcell vh18 ((nw vh5).add 3) = some (.int .i64 c39) ∧ hcell vh18 ((nw vh5).add 4) = some (.slice c40.base c40.len c40.cap) ∧
          ∃ c41 : Int, ∃ c42 : Int, ∃ c43 : Int, ∃ c44 : Int, ∃ c45 : Sl, hcell vh18 ((nw h)) = some (.int .i64 c41) ∧ hcell vh18 ((nw h).add 1) = some (.int .i64 c42) ∧ hcell vh18 ((nw h).add 2) = some (.int .i64 c43) ∧ hcell vh18 ((nw h).add 3) = some (.int .i64 c44) ∧ hcell vh18 ((nw h).add 4) = some (.slice c45.base c45.len c45.cap) ∧
          HCalls Try.prog fn_scarplaw8_same #[.agg #[.int .i64 c36, .int .i64 c37, .int .i64 c38, .int .i64 c39, .slice c40.base c40.len c40.cap], .agg #[.int .i64 c41, .int .i64 c42, .int .i64 c43, .int .i64 c44, .slice c45.base c45.len c45.cap]] vh18 fun r9 vh19 =>
          ∃ c46 : Bool, r9 = .bool c46 ∧
          IfB c46 (IfB (c28 == (13 : Int)) (IfB (c35 == (3 : Int)) (HCalls Try.prog fn_scarplaw8_awake #[] vh19 fun r10 vh20 =>
                ∃ c47 : Bool, r10 = .bool c47 ∧
                R (.bool c47) vh20)
              (R (.bool false) vh19))
            (R (.bool false) vh19))
          (R (.bool false) vh19))
        (R (.bool false) vh18))))
theorem scarplaw8_FrameBack_vc {b : Int} {b1 : Int} {b2 : Int} {b3 : Int} {b4 : Sl} {bit : Int} {cut : Int} {h : Hp} {R : Value → Hp → Prop} (H : vcscarplaw8_FrameBack b b1 b2 b3 b4 bit cut h R) : HCalls Try.prog fn_scarplaw8_FrameBack #[.agg #[.int .i64 b, .int .i64 b1, .int .i64 b2, .int .i64 b3, .slice b4.base b4.len b4.cap], .int .i64 bit, .int .i64 cut] h R :=
  vc_fn (annOf [] []) Try.func8 [.agg #[.int .i64 b, .int .i64 b1, .int .i64 b2, .int .i64 b3, .slice b4.base b4.len b4.cap], .int .i64 bit, .int .i64 cut] (by kernel_rfl) (V := vcscarplaw8_FrameBack b b1 b2 b3 b4 bit cut h R) (by kernel_rfl) H

def vcscarplaw8_FrameTorn (b : Int) (b1 : Int) (b2 : Int) (b3 : Int) (b4 : Sl) (h : Hp) (R : Value → Hp → Prop) : Prop :=
  let vh := alc h [.int .i64 b, .int .i64 b1, .int .i64 b2, .int .i64 b3, .slice b4.base b4.len b4.cap] ty_scarpref6_Block;
  ∃ c : Sl, hcell vh ((nw h).add 4) = some (.slice c.base c.len c.cap) ∧
  IfB (decide ((c.len : Int) > (300 : Int))) (HCalls Try.prog fn_scarplaw8_awake #[] vh fun r vh1 =>
    ∃ c1 : Bool, r = .bool c1 ∧
    R (.bool c1) vh1)
  (∃ c2 : Int, ∃ c3 : Int, ∃ c4 : Int, ∃ c5 : Int, ∃ c6 : Sl, hcell vh ((nw h)) = some (.int .i64 c2) ∧ hcell vh ((nw h).add 1) = some (.int .i64 c3) ∧ hcell vh ((nw h).add 2) = some (.int .i64 c4) ∧ hcell vh ((nw h).add 3) = some (.int .i64 c5) ∧ hcell vh ((nw h).add 4) = some (.slice c6.base c6.len c6.cap) ∧
    HCalls Try.prog fn_scarplaw8_made #[.agg #[.int .i64 c2, .int .i64 c3, .int .i64 c4, .int .i64 c5, .slice c6.base c6.len c6.cap]] vh fun r1 vh2 =>
    ∃ c7 : Int, ∃ c8 : Int, ∃ c9 : Int, ∃ c10 : Int, ∃ c11 : Sl, r1 = .agg #[.int .i64 c7, .int .i64 c8, .int .i64 c9, .int .i64 c10, .slice c11.base c11.len c11.cap] ∧
    HCalls Try.prog fn_frame_Encode #[.agg #[.int .i64 c7, .int .i64 c8, .int .i64 c9, .int .i64 c10, .slice c11.base c11.len c11.cap]] vh2 fun r2 vh3 =>
    ∃ c12 : Sl, ∃ c13 : Int, r2 = .tuple #[.slice c12.base c12.len c12.cap, .int .i64 c13] ∧
    IfB (c13 != (0 : Int)) (HCalls Try.prog fn_scarplaw8_awake #[] vh3 fun r3 vh4 =>
      ∃ c14 : Bool, r3 = .bool c14 ∧
      R (.bool c14) vh4)
    (let vh5 := alc vh3 [] ty_uint8;
      AppC ty_uint8 1 1 #[.int .u8 (0 : Int)] (Sl.mk (some (nw vh3)) 0 0) c12 vh5 fun s vh6 =>
      ∃ (vI : Int → Nat → Hp → Prop) (n : Nat), vI (32 : Int) n vh6 ∧
      ∀ _junk : Nat → Value, ∀ i : Int, ∀ (n1 : Nat) (vh7 : Hp), vI i n1 vh7 →
      IfB (decide (i < (s.len : Int))) (∃ a : Addr, s.base = some a ∧ 0 ≤ i ∧ i < (s.len : Int) ∧
        ∃ c15 : Int, hcell vh7 (a.add ((i).toNat * 1)) = some (.int .u8 c15) ∧
        ∃ a1 : Addr, s.base = some a1 ∧ 0 ≤ i ∧ i < (s.len : Int) ∧
        StOk vh7 (a1.add ((i).toNat * 1)) ∧
        Lt (hset vh7 (a1.add ((i).toNat * 1)) (.int .u8 (iXor .u8 c15 (85 : Int)))) fun vh8 =>
        ∃ n2, n2 < n1 ∧ vI (iAdd .i64 i (1 : Int)) n2 vh8)
      (HCalls Try.prog fn_frame_Decode #[.slice s.base s.len s.cap] vh7 fun r4 vh9 =>
        ∃ c16 : Int, ∃ c17 : Int, ∃ c18 : Int, ∃ c19 : Int, ∃ c20 : Sl, ∃ c21 : Int, r4 = .tuple #[.agg #[.int .i64 c16, .int .i64 c17, .int .i64 c18, .int .i64 c19, .slice c20.base c20.len c20.cap], .int .i64 c21] ∧
        let vh10 := alc vh9 [.int .i64 (0 : Int), .int .i64 (0 : Int), .int .i64 (0 : Int), .int .i64 (0 : Int), .slice Sl.nil.base Sl.nil.len Sl.nil.cap] ty_frame_Block;
        stCells (nw vh9) 0 [.int .i64 c16, .int .i64 c17, .int .i64 c18, .int .i64 c19, .slice c20.base c20.len c20.cap] vh10 fun vh11 =>
        IfB (c21 == (13 : Int)) (HCalls Try.prog fn_scarplaw8_awake #[] vh11 fun r5 vh12 =>
          ∃ c22 : Bool, r5 = .bool c22 ∧
          R (.bool c22) vh12)
        (R (.bool false) vh11))))
theorem scarplaw8_FrameTorn_vc {b : Int} {b1 : Int} {b2 : Int} {b3 : Int} {b4 : Sl} {h : Hp} {R : Value → Hp → Prop} (H : vcscarplaw8_FrameTorn b b1 b2 b3 b4 h R) : HCalls Try.prog fn_scarplaw8_FrameTorn #[.agg #[.int .i64 b, .int .i64 b1, .int .i64 b2, .int .i64 b3, .slice b4.base b4.len b4.cap]] h R :=
  vc_fn (annOf [(0, [(6, .int .i64)])] []) Try.func9 [.agg #[.int .i64 b, .int .i64 b1, .int .i64 b2, .int .i64 b3, .slice b4.base b4.len b4.cap]] (by kernel_rfl) (V := vcscarplaw8_FrameTorn b b1 b2 b3 b4 h R) (by kernel_rfl) H

def vcscarplaw9_ZdevNothing (zone : Int) (vat : Int) (h : Hp) (R : Value → Hp → Prop) : Prop :=
  HCalls Try.prog fn_scarpalike_Block #[.int .i64 (64 : Int), .int .i64 (1 : Int)] h fun r vh =>
  ∃ c : Sl, r = .slice c.base c.len c.cap ∧
  HCalls Try.prog fn_zdev_Dev_Append #[.pointer none, .int .i64 zone, .slice c.base c.len c.cap] vh fun r1 vh1 =>
  ∃ c1 : Int, ∃ c2 : Int, r1 = .tuple #[.int .i64 c1, .int .i64 c2] ∧
  HCalls Try.prog fn_zdev_Dev_Read #[.pointer none, .int .i64 zone, .int .i64 vat] vh1 fun r2 vh2 =>
  ∃ c3 : Sl, ∃ c4 : Int, r2 = .tuple #[.slice c3.base c3.len c3.cap, .int .i64 c4] ∧
  HCalls Try.prog fn_zdev_Dev_Pointer #[.pointer none, .int .i64 zone] vh2 fun r3 vh3 =>
  ∃ c5 : Int, ∃ c6 : Int, r3 = .tuple #[.int .i64 c5, .int .i64 c6] ∧
  IfB (c2 == (1 : Int)) (IfB (c4 == (1 : Int)) (IfB (c6 == (1 : Int)) (HCalls Try.prog fn_zdev_Dev_Reset #[.pointer none, .int .i64 zone] vh3 fun r4 vh4 =>
        ∃ c7 : Int, r4 = .int .i64 c7 ∧
        IfB (c7 == (1 : Int)) (HCalls Try.prog fn_zdev_Dev_Off #[.pointer none] vh4 fun r5 vh5 =>
          ∃ c8 : Bool, r5 = .bool c8 ∧
          IfB c8 (HCalls Try.prog fn_zdev_Dev_Ops #[.pointer none] vh5 fun r6 vh6 =>
            ∃ c9 : Int, r6 = .int .i64 c9 ∧
            IfB (c9 == (0 : Int)) (HCalls Try.prog fn_zdev_Dev_Crash #[.pointer none, .slice Sl.nil.base Sl.nil.len Sl.nil.cap, .slice Sl.nil.base Sl.nil.len Sl.nil.cap] vh6 fun r7 vh7 =>
              ∃ c10 : Option Addr, r7 = .pointer c10 ∧
              IfB (isNone? c10) (HCalls Try.prog fn_zdev_Dev_Copy #[.pointer none] vh7 fun r8 vh8 =>
                ∃ c11 : Option Addr, r8 = .pointer c11 ∧
                IfB (isNone? c11) (HCalls Try.prog fn_zdev_Dev_Geometry #[.pointer none] vh8 fun r9 vh9 =>
                  ∃ c12 : Int, ∃ c13 : Int, r9 = .agg #[.int .i64 c12, .int .i64 c13] ∧
                  IfB ((c12 == (0 : Int)) && ((c13 == (0 : Int)) && true)) (HCalls Try.prog fn_scarplaw9_awake #[] vh9 fun r10 vh10 =>
                    ∃ c14 : Bool, r10 = .bool c14 ∧
                    R (.bool c14) vh10)
                  (R (.bool false) vh9))
                (R (.bool false) vh8))
              (R (.bool false) vh7))
            (R (.bool false) vh6))
          (R (.bool false) vh5))
        (R (.bool false) vh4))
      (R (.bool false) vh3))
    (R (.bool false) vh3))
  (R (.bool false) vh3)
theorem scarplaw9_ZdevNothing_vc {zone : Int} {vat : Int} {h : Hp} {R : Value → Hp → Prop} (H : vcscarplaw9_ZdevNothing zone vat h R) : HCalls Try.prog fn_scarplaw9_ZdevNothing #[.int .i64 zone, .int .i64 vat] h R :=
  vc_fn (annOf [] []) Try.func10 [.int .i64 zone, .int .i64 vat] (by kernel_rfl) (V := vcscarplaw9_ZdevNothing zone vat h R) (by kernel_rfl) H

def vcscarplaw9_ZdevApart (n : Int) (more : Sl) (h : Hp) (R : Value → Hp → Prop) : Prop :=
  IfB (decide (n < (0 : Int))) (HCalls Try.prog fn_scarplaw9_awake #[] h fun r vh =>
    ∃ c : Bool, r = .bool c ∧
    R (.bool c) vh)
  (IfB (decide (n > (60 : Int))) (HCalls Try.prog fn_scarplaw9_awake #[] h fun r1 vh1 =>
      ∃ c1 : Bool, r1 = .bool c1 ∧
      R (.bool c1) vh1)
    (IfB (decide ((more.len : Int) > (60 : Int))) (HCalls Try.prog fn_scarplaw9_awake #[] h fun r2 vh2 =>
        ∃ c2 : Bool, r2 = .bool c2 ∧
        R (.bool c2) vh2)
      (HCalls Try.prog fn_scarplaw9_least #[] h fun r3 vh3 =>
        ∃ c3 : Int, ∃ c4 : Int, r3 = .agg #[.int .i64 c3, .int .i64 c4] ∧
        HCalls Try.prog fn_zdev_New #[.agg #[.int .i64 c3, .int .i64 c4]] vh3 fun r4 vh4 =>
        ∃ c5 : Option Addr, ∃ c6 : Int, r4 = .tuple #[.pointer c5, .int .i64 c6] ∧
        IfB (c6 != (0 : Int)) (R (.bool false) vh4)
        (IfB (isNone? c5) (R (.bool false) vh4)
          (∃ (vI : Int → Nat → Hp → Prop) (n1 : Nat), vI (0 : Int) n1 vh4 ∧
            ∀ _junk : Nat → Value, ∀ i : Int, ∀ (n2 : Nat) (vh5 : Hp), vI i n2 vh5 →
            IfB (decide (i < n)) (HCalls Try.prog fn_scarpalike_Block #[.int .i64 (64 : Int), .int .i64 i] vh5 fun r5 vh6 =>
              ∃ c7 : Sl, r5 = .slice c7.base c7.len c7.cap ∧
              HCalls Try.prog fn_zdev_Dev_Append #[.pointer c5, .int .i64 (2 : Int), .slice c7.base c7.len c7.cap] vh6 fun r6 vh7 =>
              ∃ c8 : Int, ∃ c9 : Int, r6 = .tuple #[.int .i64 c8, .int .i64 c9] ∧
              ∃ n3, n3 < n2 ∧ vI (iAdd .i64 i (1 : Int)) n3 vh7)
            (HCalls Try.prog fn_zdev_Dev_Flush #[.pointer c5] vh5 fun r7 vh8 =>
              ∃ c10 : Int, r7 = .int .i64 c10 ∧
              HCalls Try.prog fn_zdev_Dev_Copy #[.pointer c5] vh8 fun r8 vh9 =>
              ∃ c11 : Option Addr, r8 = .pointer c11 ∧
              let vh10 := alc vh9 [.int .i64 (5 : Int)] ty_int;
              let vh11 := alc vh10 [.int .i64 (1 : Int)] ty_int;
              HCalls Try.prog fn_zdev_Dev_Crash #[.pointer c5, .slice (Sl.mk (some (nw vh9)) 1 1).base (Sl.mk (some (nw vh9)) 1 1).len (Sl.mk (some (nw vh9)) 1 1).cap, .slice (Sl.mk (some (nw vh10)) 1 1).base (Sl.mk (some (nw vh10)) 1 1).len (Sl.mk (some (nw vh10)) 1 1).cap] vh11 fun r9 vh12 =>
              ∃ c12 : Option Addr, r9 = .pointer c12 ∧
              IfB (isNone? c11) (R (.bool false) vh12)
              (IfB (isNone? c12) (R (.bool false) vh12)
                (HCalls Try.prog fn_zdev_Dev_Ops #[.pointer c11] vh12 fun r10 vh13 =>
                  ∃ c13 : Int, r10 = .int .i64 c13 ∧
                  IfB (c13 != (iAdd .i64 n (1 : Int))) (R (.bool false) vh13)
                  (HCalls Try.prog fn_zdev_Dev_Ops #[.pointer c12] vh13 fun r11 vh14 =>
                    ∃ c14 : Int, r11 = .int .i64 c14 ∧
                    IfB (c14 != (0 : Int)) (R (.bool false) vh14)
                    (∃ (vI1 : Int → Nat → Hp → Prop) (n4 : Nat), vI1 (0 : Int) n4 vh14 ∧
                      ∀ _junk : Nat → Value, ∀ i1 : Int, ∀ (n5 : Nat) (vh15 : Hp), vI1 i1 n5 vh15 →
                      IfB (decide (i1 < (more.len : Int))) (∃ a : Addr, more.base = some a ∧ 0 ≤ i1 ∧ i1 < (more.len : Int) ∧
                        ∃ c15 : Int, hcell vh15 (a.add ((i1).toNat * 1)) = some (.int .i64 c15) ∧
                        (5 : Int) ≠ 0 ∧
                        IfB ((iRem c15 (5 : Int)) == (0 : Int)) (HCalls Try.prog fn_zdev_Dev_Reset #[.pointer c5, .int .i64 (2 : Int)] vh15 fun r12 vh16 =>
                          ∃ c16 : Int, r12 = .int .i64 c16 ∧
                          ∃ n6, n6 < n5 ∧ vI1 (iAdd .i64 i1 (1 : Int)) n6 vh16)
                        (∃ a1 : Addr, more.base = some a1 ∧ 0 ≤ i1 ∧ i1 < (more.len : Int) ∧
                          ∃ c17 : Int, hcell vh15 (a1.add ((i1).toNat * 1)) = some (.int .i64 c17) ∧
                          HCalls Try.prog fn_scarpalike_Block #[.int .i64 (64 : Int), .int .i64 c17] vh15 fun r13 vh17 =>
                          ∃ c18 : Sl, r13 = .slice c18.base c18.len c18.cap ∧
                          HCalls Try.prog fn_zdev_Dev_Append #[.pointer c5, .int .i64 (2 : Int), .slice c18.base c18.len c18.cap] vh17 fun r14 vh18 =>
                          ∃ c19 : Int, ∃ c20 : Int, r14 = .tuple #[.int .i64 c19, .int .i64 c20] ∧
                          ∃ n6, n6 < n5 ∧ vI1 (iAdd .i64 i1 (1 : Int)) n6 vh18))
                      (HCalls Try.prog fn_zdev_Dev_Cut #[.pointer c5, .int .i64 (0 : Int)] vh15 fun r15 vh19 =>
                        r15 = .tuple #[] ∧
                        HCalls Try.prog fn_zdev_Dev_Pointer #[.pointer c11, .int .i64 (2 : Int)] vh19 fun r16 vh20 =>
                        ∃ c21 : Int, ∃ c22 : Int, r16 = .tuple #[.int .i64 c21, .int .i64 c22] ∧
                        HCalls Try.prog fn_zdev_Dev_Pointer #[.pointer c12, .int .i64 (2 : Int)] vh20 fun r17 vh21 =>
                        ∃ c23 : Int, ∃ c24 : Int, r17 = .tuple #[.int .i64 c23, .int .i64 c24] ∧
                        IfB (c22 != (0 : Int)) (R (.bool false) vh21)
                        (IfB (c24 != (0 : Int)) (R (.bool false) vh21)
                          (IfB (c21 != n) (R (.bool false) vh21)
                            (IfB (c23 != n) (R (.bool false) vh21)
                              (HCalls Try.prog fn_zdev_Dev_Off #[.pointer c11] vh21 fun r18 vh22 =>
                                ∃ c25 : Bool, r18 = .bool c25 ∧
                                IfB c25 (R (.bool false) vh22)
                                (HCalls Try.prog fn_zdev_Dev_Off #[.pointer c12] vh22 fun r19 vh23 =>
                                  ∃ c26 : Bool, r19 = .bool c26 ∧
                                  IfB c26 (R (.bool false) vh23)
                                  (∃ (vI2 : Int → Nat → Hp → Prop) (n7 : Nat), vI2 (0 : Int) n7 vh23 ∧
                                    ∀ _junk : Nat → Value, ∀ i2 : Int, ∀ (n8 : Nat) (vh24 : Hp), vI2 i2 n8 vh24 →
                                    IfB (decide (i2 < n)) (HCalls Try.prog fn_zdev_Dev_Read #[.pointer c11, .int .i64 (2 : Int), .int .i64 i2] vh24 fun r20 vh25 =>
                                      ∃ c27 : Sl, ∃ c28 : Int, r20 = .tuple #[.slice c27.base c27.len c27.cap, .int .i64 c28] ∧
                                      HCalls Try.prog fn_zdev_Dev_Read #[.pointer c12, .int .i64 (2 : Int), .int .i64 i2] vh25 fun r21 vh26 =>
                                      ∃ c29 : Sl, ∃ c30 : Int, r21 = .tuple #[.slice c29.base c29.len c29.cap, .int .i64 c30] ∧
                                      IfB (c28 != (0 : Int)) (R (.bool false) vh26)
                                      (IfB (c30 != (0 : Int)) (R (.bool false) vh26)
                                        (HCalls Try.prog fn_scarpalike_Block #[.int .i64 (64 : Int), .int .i64 i2] vh26 fun r22 vh27 =>
                                          ∃ c31 : Sl, r22 = .slice c31.base c31.len c31.cap ∧
                                          HCalls Try.prog fn_scarpalike_Bytes #[.slice c27.base c27.len c27.cap, .slice c31.base c31.len c31.cap] vh27 fun r23 vh28 =>
                                          ∃ c32 : Bool, r23 = .bool c32 ∧
                                          IfB (!c32) (R (.bool false) vh28)
                                          (HCalls Try.prog fn_scarpalike_Bytes #[.slice c29.base c29.len c29.cap, .slice c27.base c27.len c27.cap] vh28 fun r24 vh29 =>
                                            ∃ c33 : Bool, r24 = .bool c33 ∧
                                            IfB (!c33) (R (.bool false) vh29)
                                            (∃ n9, n9 < n8 ∧ vI2 (iAdd .i64 i2 (1 : Int)) n9 vh29)))))
                                    (HCalls Try.prog fn_scarpalike_Block #[.int .i64 (64 : Int), .int .i64 (1 : Int)] vh24 fun r25 vh30 =>
                                      ∃ c34 : Sl, r25 = .slice c34.base c34.len c34.cap ∧
                                      HCalls Try.prog fn_zdev_Dev_Append #[.pointer c11, .int .i64 (2 : Int), .slice c34.base c34.len c34.cap] vh30 fun r26 vh31 =>
                                      ∃ c35 : Int, ∃ c36 : Int, r26 = .tuple #[.int .i64 c35, .int .i64 c36] ∧
                                      IfB (c36 == (0 : Int)) (HCalls Try.prog fn_scarplaw9_awake #[] vh31 fun r27 vh32 =>
                                        ∃ c37 : Bool, r27 = .bool c37 ∧
                                        R (.bool c37) vh32)
                                      (R (.bool false) vh31)))))))))))))))))))
theorem scarplaw9_ZdevApart_vc {n : Int} {more : Sl} {h : Hp} {R : Value → Hp → Prop} (H : vcscarplaw9_ZdevApart n more h R) : HCalls Try.prog fn_scarplaw9_ZdevApart #[.int .i64 n, .slice more.base more.len more.cap] h R :=
  vc_fn (annOf [(0, [(7, .int .i64)]), (1, [(10, .int .i64)]), (2, [(15, .int .i64)])] []) Try.func11 [.int .i64 n, .slice more.base more.len more.cap] (by kernel_rfl) (V := vcscarplaw9_ZdevApart n more h R) (by kernel_rfl) H

def vcscarplaw8_awake (h : Hp) (R : Value → Hp → Prop) : Prop :=
  HCalls Try.prog fn_frame_Encode #[.agg #[.int .i64 (4 : Int), .int .i64 (0 : Int), .int .i64 (0 : Int), .int .i64 (0 : Int), .slice Sl.nil.base Sl.nil.len Sl.nil.cap]] h fun r vh =>
  ∃ c : Sl, ∃ c1 : Int, r = .tuple #[.slice c.base c.len c.cap, .int .i64 c1] ∧
  IfB (c1 == (0 : Int)) (IfB ((c.len : Int) == (64 : Int)) (∃ a : Addr, c.base = some a ∧ 0 ≤ (0 : Int) ∧ (0 : Int) < (c.len : Int) ∧
      ∃ c2 : Int, hcell vh (a.add (((0 : Int)).toNat * 1)) = some (.int .u8 c2) ∧
      IfB (c2 == (4 : Int)) (MkC ty_uint8 1 #[.int .u8 (0 : Int)] (64 : Int) (64 : Int) vh fun s vh1 =>
        HCalls Try.prog fn_frame_Plain #[.slice s.base s.len s.cap] vh1 fun r1 vh2 =>
        ∃ c3 : Bool, r1 = .bool c3 ∧
        IfB c3 (HCalls Try.prog fn_frame_Plain #[.slice c.base c.len c.cap] vh2 fun r2 vh3 =>
          ∃ c4 : Bool, r2 = .bool c4 ∧
          R (.bool (!c4)) vh3)
        (R (.bool false) vh2))
      (R (.bool false) vh))
    (R (.bool false) vh))
  (R (.bool false) vh)
theorem scarplaw8_awake_vc {h : Hp} {R : Value → Hp → Prop} (H : vcscarplaw8_awake h R) : HCalls Try.prog fn_scarplaw8_awake #[] h R :=
  vc_fn (annOf [] []) Try.func12 [] (by kernel_rfl) (V := vcscarplaw8_awake h R) (by kernel_rfl) H

def vcframe_Encode (b : Int) (b1 : Int) (b2 : Int) (b3 : Int) (b4 : Sl) (h : Hp) (R : Value → Hp → Prop) : Prop :=
  let vh := alc h [.int .i64 b, .int .i64 b1, .int .i64 b2, .int .i64 b3, .slice b4.base b4.len b4.cap] ty_frame_Block;
  ∃ c : Int, hcell vh (nw h) = some (.int .i64 c) ∧
  HCalls Try.prog fn_frame_within #[.int .i64 c, .int .i64 (1 : Int), .int .i64 (4 : Int)] vh fun r vh1 =>
  ∃ c1 : Bool, r = .bool c1 ∧
  IfB (!c1) (R (.tuple #[.slice Sl.nil.base Sl.nil.len Sl.nil.cap, .int .i64 (1 : Int)]) vh1)
  (∃ c2 : Int, hcell vh1 ((nw h).add 1) = some (.int .i64 c2) ∧
    HCalls Try.prog fn_frame_within #[.int .i64 c2, .int .i64 (0 : Int), .int .i64 (4294967295 : Int)] vh1 fun r1 vh2 =>
    ∃ c3 : Bool, r1 = .bool c3 ∧
    IfB (!c3) (R (.tuple #[.slice Sl.nil.base Sl.nil.len Sl.nil.cap, .int .i64 (1 : Int)]) vh2)
    (∃ c4 : Int, hcell vh2 ((nw h).add 2) = some (.int .i64 c4) ∧
      HCalls Try.prog fn_frame_within #[.int .i64 c4, .int .i64 (0 : Int), .int .i64 (1099511627776 : Int)] vh2 fun r2 vh3 =>
      ∃ c5 : Bool, r2 = .bool c5 ∧
      IfB (!c5) (R (.tuple #[.slice Sl.nil.base Sl.nil.len Sl.nil.cap, .int .i64 (1 : Int)]) vh3)
      (∃ c6 : Int, hcell vh3 ((nw h).add 3) = some (.int .i64 c6) ∧
        HCalls Try.prog fn_frame_within #[.int .i64 c6, .int .i64 (0 : Int), .int .i64 (1048576 : Int)] vh3 fun r3 vh4 =>
        ∃ c7 : Bool, r3 = .bool c7 ∧
        IfB (!c7) (R (.tuple #[.slice Sl.nil.base Sl.nil.len Sl.nil.cap, .int .i64 (1 : Int)]) vh4)
        (∃ c8 : Sl, hcell vh4 ((nw h).add 4) = some (.slice c8.base c8.len c8.cap) ∧
          IfB (decide ((c8.len : Int) > (40 : Int))) (R (.tuple #[.slice Sl.nil.base Sl.nil.len Sl.nil.cap, .int .i64 (3 : Int)]) vh4)
          (∃ c9 : Int, hcell vh4 (nw h) = some (.int .i64 c9) ∧
            ∃ c10 : Sl, hcell vh4 ((nw h).add 4) = some (.slice c10.base c10.len c10.cap) ∧
            ∃ c11 : Int, hcell vh4 ((nw h).add 1) = some (.int .i64 c11) ∧
            ∃ c12 : Int, hcell vh4 ((nw h).add 2) = some (.int .i64 c12) ∧
            ∃ c13 : Int, hcell vh4 ((nw h).add 3) = some (.int .i64 c13) ∧
            ∃ c14 : Sl, hcell vh4 ((nw h).add 4) = some (.slice c14.base c14.len c14.cap) ∧
            (let vh5 := alc vh4 [.int .u8 (iConv .u8 c9), .int .u8 (iConv .u8 (c10.len : Int))] ty_uint8;
              Ext vh4 vh5 ∧
              HCalls Try.prog fn_bits_Put32 #[.int .u32 (iConv .u32 c11)] vh5 fun r4 vh6 =>
              ∃ c15 : Sl, r4 = .slice c15.base c15.len c15.cap ∧
              Ext vh4 vh6 ∧
              HCalls Try.prog fn_bits_Put64 #[.int .u64 (iConv .u64 c12)] vh6 fun r5 vh7 =>
              ∃ c16 : Sl, r5 = .slice c16.base c16.len c16.cap ∧
              Ext vh4 vh7 ∧
              HCalls Try.prog fn_bits_Put32 #[.int .u32 (iConv .u32 c13)] vh7 fun r6 vh8 =>
              ∃ c17 : Sl, r6 = .slice c17.base c17.len c17.cap ∧
              Ext vh4 vh8 ∧
              let vh9 := alc vh8 [.slice (Sl.mk (some (nw vh4)) 2 2).base (Sl.mk (some (nw vh4)) 2 2).len (Sl.mk (some (nw vh4)) 2 2).cap, .slice c15.base c15.len c15.cap, .slice c16.base c16.len c16.cap, .slice c17.base c17.len c17.cap, .slice c14.base c14.len c14.cap] ty_suint8;
              Ext vh4 vh9 ∧
              HCalls Try.prog fn_slices_Concat_sbytebyte #[.slice (Sl.mk (some (nw vh8)) 5 5).base (Sl.mk (some (nw vh8)) 5 5).len (Sl.mk (some (nw vh8)) 5 5).cap] vh9 fun r7 vh10 =>
              ∃ c18 : Sl, r7 = .slice c18.base c18.len c18.cap ∧
              Ext vh4 vh10 ∧
              AppZ ty_uint8 1 1 #[.int .u8 (0 : Int)] c18 (iSub .i64 (60 : Int) (c18.len : Int)) vh10 fun s vh11 =>
              HCalls Try.prog fn_crc_Of #[.slice s.base s.len s.cap] vh11 fun r8 vh12 =>
              ∃ c19 : Int, r8 = .int .u32 c19 ∧
              HCalls Try.prog fn_bits_Put32 #[.int .u32 c19] vh12 fun r9 vh13 =>
              ∃ c20 : Sl, r9 = .slice c20.base c20.len c20.cap ∧
              AppC ty_uint8 1 1 #[.int .u8 (0 : Int)] s c20 vh13 fun s1 vh14 =>
              R (.tuple #[.slice s1.base s1.len s1.cap, .int .i64 (0 : Int)]) vh14) ∧
            (HCalls Try.prog fn_bits_Put32 #[.int .u32 (iConv .u32 c11)] vh4 fun r10 vh15 =>
              ∃ c21 : Sl, r10 = .slice c21.base c21.len c21.cap ∧
              Ext vh4 vh15 ∧
              (let vh16 := alc vh15 [.int .u8 (iConv .u8 c9), .int .u8 (iConv .u8 (c10.len : Int))] ty_uint8;
                Ext vh4 vh16 ∧
                HCalls Try.prog fn_bits_Put64 #[.int .u64 (iConv .u64 c12)] vh16 fun r11 vh17 =>
                ∃ c22 : Sl, r11 = .slice c22.base c22.len c22.cap ∧
                Ext vh4 vh17 ∧
                HCalls Try.prog fn_bits_Put32 #[.int .u32 (iConv .u32 c13)] vh17 fun r12 vh18 =>
                ∃ c23 : Sl, r12 = .slice c23.base c23.len c23.cap ∧
                Ext vh4 vh18 ∧
                let vh19 := alc vh18 [.slice (Sl.mk (some (nw vh15)) 2 2).base (Sl.mk (some (nw vh15)) 2 2).len (Sl.mk (some (nw vh15)) 2 2).cap, .slice c21.base c21.len c21.cap, .slice c22.base c22.len c22.cap, .slice c23.base c23.len c23.cap, .slice c14.base c14.len c14.cap] ty_suint8;
                Ext vh4 vh19 ∧
                HCalls Try.prog fn_slices_Concat_sbytebyte #[.slice (Sl.mk (some (nw vh18)) 5 5).base (Sl.mk (some (nw vh18)) 5 5).len (Sl.mk (some (nw vh18)) 5 5).cap] vh19 fun r13 vh20 =>
                ∃ c24 : Sl, r13 = .slice c24.base c24.len c24.cap ∧
                Ext vh4 vh20 ∧
                AppZ ty_uint8 1 1 #[.int .u8 (0 : Int)] c24 (iSub .i64 (60 : Int) (c24.len : Int)) vh20 fun s2 vh21 =>
                HCalls Try.prog fn_crc_Of #[.slice s2.base s2.len s2.cap] vh21 fun r14 vh22 =>
                ∃ c25 : Int, r14 = .int .u32 c25 ∧
                HCalls Try.prog fn_bits_Put32 #[.int .u32 c25] vh22 fun r15 vh23 =>
                ∃ c26 : Sl, r15 = .slice c26.base c26.len c26.cap ∧
                AppC ty_uint8 1 1 #[.int .u8 (0 : Int)] s2 c26 vh23 fun s3 vh24 =>
                R (.tuple #[.slice s3.base s3.len s3.cap, .int .i64 (0 : Int)]) vh24) ∧
              (HCalls Try.prog fn_bits_Put64 #[.int .u64 (iConv .u64 c12)] vh15 fun r16 vh25 =>
                ∃ c27 : Sl, r16 = .slice c27.base c27.len c27.cap ∧
                Ext vh4 vh25 ∧
                (let vh26 := alc vh25 [.int .u8 (iConv .u8 c9), .int .u8 (iConv .u8 (c10.len : Int))] ty_uint8;
                  Ext vh4 vh26 ∧
                  HCalls Try.prog fn_bits_Put32 #[.int .u32 (iConv .u32 c13)] vh26 fun r17 vh27 =>
                  ∃ c28 : Sl, r17 = .slice c28.base c28.len c28.cap ∧
                  Ext vh4 vh27 ∧
                  let vh28 := alc vh27 [.slice (Sl.mk (some (nw vh25)) 2 2).base (Sl.mk (some (nw vh25)) 2 2).len (Sl.mk (some (nw vh25)) 2 2).cap, .slice c21.base c21.len c21.cap, .slice c27.base c27.len c27.cap, .slice c28.base c28.len c28.cap, .slice c14.base c14.len c14.cap] ty_suint8;
                  Ext vh4 vh28 ∧
                  HCalls Try.prog fn_slices_Concat_sbytebyte #[.slice (Sl.mk (some (nw vh27)) 5 5).base (Sl.mk (some (nw vh27)) 5 5).len (Sl.mk (some (nw vh27)) 5 5).cap] vh28 fun r18 vh29 =>
                  ∃ c29 : Sl, r18 = .slice c29.base c29.len c29.cap ∧
                  Ext vh4 vh29 ∧
                  AppZ ty_uint8 1 1 #[.int .u8 (0 : Int)] c29 (iSub .i64 (60 : Int) (c29.len : Int)) vh29 fun s4 vh30 =>
                  HCalls Try.prog fn_crc_Of #[.slice s4.base s4.len s4.cap] vh30 fun r19 vh31 =>
                  ∃ c30 : Int, r19 = .int .u32 c30 ∧
                  HCalls Try.prog fn_bits_Put32 #[.int .u32 c30] vh31 fun r20 vh32 =>
                  ∃ c31 : Sl, r20 = .slice c31.base c31.len c31.cap ∧
                  AppC ty_uint8 1 1 #[.int .u8 (0 : Int)] s4 c31 vh32 fun s5 vh33 =>
                  R (.tuple #[.slice s5.base s5.len s5.cap, .int .i64 (0 : Int)]) vh33) ∧
                (HCalls Try.prog fn_bits_Put32 #[.int .u32 (iConv .u32 c13)] vh25 fun r21 vh34 =>
                  ∃ c32 : Sl, r21 = .slice c32.base c32.len c32.cap ∧
                  Ext vh4 vh34 ∧
                  let vh35 := alc vh34 [.int .u8 (iConv .u8 c9), .int .u8 (iConv .u8 (c10.len : Int))] ty_uint8;
                  Ext vh4 vh35 ∧
                  let vh36 := alc vh35 [.slice (Sl.mk (some (nw vh34)) 2 2).base (Sl.mk (some (nw vh34)) 2 2).len (Sl.mk (some (nw vh34)) 2 2).cap, .slice c21.base c21.len c21.cap, .slice c27.base c27.len c27.cap, .slice c32.base c32.len c32.cap, .slice c14.base c14.len c14.cap] ty_suint8;
                  Ext vh4 vh36 ∧
                  HCalls Try.prog fn_slices_Concat_sbytebyte #[.slice (Sl.mk (some (nw vh35)) 5 5).base (Sl.mk (some (nw vh35)) 5 5).len (Sl.mk (some (nw vh35)) 5 5).cap] vh36 fun r22 vh37 =>
                  ∃ c33 : Sl, r22 = .slice c33.base c33.len c33.cap ∧
                  Ext vh4 vh37 ∧
                  AppZ ty_uint8 1 1 #[.int .u8 (0 : Int)] c33 (iSub .i64 (60 : Int) (c33.len : Int)) vh37 fun s6 vh38 =>
                  HCalls Try.prog fn_crc_Of #[.slice s6.base s6.len s6.cap] vh38 fun r23 vh39 =>
                  ∃ c34 : Int, r23 = .int .u32 c34 ∧
                  HCalls Try.prog fn_bits_Put32 #[.int .u32 c34] vh39 fun r24 vh40 =>
                  ∃ c35 : Sl, r24 = .slice c35.base c35.len c35.cap ∧
                  AppC ty_uint8 1 1 #[.int .u8 (0 : Int)] s6 c35 vh40 fun s7 vh41 =>
                  R (.tuple #[.slice s7.base s7.len s7.cap, .int .i64 (0 : Int)]) vh41))))))))
theorem frame_Encode_vc {b : Int} {b1 : Int} {b2 : Int} {b3 : Int} {b4 : Sl} {h : Hp} {R : Value → Hp → Prop} (H : vcframe_Encode b b1 b2 b3 b4 h R) : HCalls Try.prog fn_frame_Encode #[.agg #[.int .i64 b, .int .i64 b1, .int .i64 b2, .int .i64 b3, .slice b4.base b4.len b4.cap]] h R :=
  vc_fn (annOf [] []) Try.func13 [.agg #[.int .i64 b, .int .i64 b1, .int .i64 b2, .int .i64 b3, .slice b4.base b4.len b4.cap]] (by kernel_rfl) (V := vcframe_Encode b b1 b2 b3 b4 h R) (by kernel_rfl) H

def vcscarpalike_Block (n : Int) (k : Int) (h : Hp) (R : Value → Hp → Prop) : Prop :=
  MkC ty_uint8 1 #[.int .u8 (0 : Int)] (if n < (0 : Int) then (0 : Int) else n) (if n < (0 : Int) then (0 : Int) else n) h fun s vh =>
  ∃ (vI : Int → Nat → Hp → Prop) (n1 : Nat), vI (0 : Int) n1 vh ∧
  ∀ _junk : Nat → Value, ∀ i : Int, ∀ (n2 : Nat) (vh1 : Hp), vI i n2 vh1 →
  IfB (decide (i < (s.len : Int))) (HCalls Try.prog fn_scarpalike_Round #[.int .i64 (iAdd .i64 (iAdd .i64 (iMul .i64 i i) (iMul .i64 k (7 : Int))) (1 : Int)), .int .i64 (251 : Int)] vh1 fun r vh2 =>
    ∃ c : Int, r = .int .i64 c ∧
    ∃ a : Addr, s.base = some a ∧ 0 ≤ i ∧ i < (s.len : Int) ∧
    StOk vh2 (a.add ((i).toNat * 1)) ∧
    Lt (hset vh2 (a.add ((i).toNat * 1)) (.int .u8 (iConv .u8 c))) fun vh3 =>
    ∃ n3, n3 < n2 ∧ vI (iAdd .i64 i (1 : Int)) n3 vh3)
  (R (.slice s.base s.len s.cap) vh1)
theorem scarpalike_Block_vc {n : Int} {k : Int} {h : Hp} {R : Value → Hp → Prop} (H : vcscarpalike_Block n k h R) : HCalls Try.prog fn_scarpalike_Block #[.int .i64 n, .int .i64 k] h R :=
  vc_fn (annOf [(0, [(6, .int .i64)])] []) Try.func14 [.int .i64 n, .int .i64 k] (by kernel_rfl) (V := vcscarpalike_Block n k h R) (by kernel_rfl) H

def vcscarplaw8_made (b : Int) (b1 : Int) (b2 : Int) (b3 : Int) (b4 : Sl) (h : Hp) (R : Value → Hp → Prop) : Prop :=
  let vh := alc h [.int .i64 b, .int .i64 b1, .int .i64 b2, .int .i64 b3, .slice b4.base b4.len b4.cap] ty_scarpref6_Block;
  let vh1 := alc vh [.int .i64 (0 : Int), .int .i64 (0 : Int), .int .i64 (0 : Int), .int .i64 (0 : Int), .slice Sl.nil.base Sl.nil.len Sl.nil.cap] ty_frame_Block;
  ∃ c : Int, hcell vh1 (nw h) = some (.int .i64 c) ∧
  ∃ c1 : Int, hcell vh1 ((nw h).add 1) = some (.int .i64 c1) ∧
  ∃ c2 : Int, hcell vh1 ((nw h).add 2) = some (.int .i64 c2) ∧
  ∃ c3 : Int, hcell vh1 ((nw h).add 3) = some (.int .i64 c3) ∧
  ∃ c4 : Sl, hcell vh1 ((nw h).add 4) = some (.slice c4.base c4.len c4.cap) ∧
  stCells (nw vh) 0 [.int .i64 c, .int .i64 c1, .int .i64 c2, .int .i64 c3, .slice c4.base c4.len c4.cap] vh1 fun vh2 =>
  ∃ x : Int, ∃ x1 : Int, ∃ x2 : Int, ∃ x3 : Int, ∃ x4 : Sl, hcell vh2 ((nw vh)) = some (.int .i64 x) ∧ hcell vh2 ((nw vh).add 1) = some (.int .i64 x1) ∧ hcell vh2 ((nw vh).add 2) = some (.int .i64 x2) ∧ hcell vh2 ((nw vh).add 3) = some (.int .i64 x3) ∧ hcell vh2 ((nw vh).add 4) = some (.slice x4.base x4.len x4.cap) ∧
  R (.agg #[.int .i64 x, .int .i64 x1, .int .i64 x2, .int .i64 x3, .slice x4.base x4.len x4.cap]) vh2
theorem scarplaw8_made_vc {b : Int} {b1 : Int} {b2 : Int} {b3 : Int} {b4 : Sl} {h : Hp} {R : Value → Hp → Prop} (H : vcscarplaw8_made b b1 b2 b3 b4 h R) : HCalls Try.prog fn_scarplaw8_made #[.agg #[.int .i64 b, .int .i64 b1, .int .i64 b2, .int .i64 b3, .slice b4.base b4.len b4.cap]] h R :=
  vc_fn (annOf [] []) Try.func15 [.agg #[.int .i64 b, .int .i64 b1, .int .i64 b2, .int .i64 b3, .slice b4.base b4.len b4.cap]] (by kernel_rfl) (V := vcscarplaw8_made b b1 b2 b3 b4 h R) (by kernel_rfl) H

def vcscarpalike_Bytes (a : Sl) (b : Sl) (h : Hp) (R : Value → Hp → Prop) : Prop :=
  IfB ((a.len : Int) != (b.len : Int)) (R (.bool false) h)
  (∃ (vI : Int → Nat → Hp → Prop) (n : Nat), vI (0 : Int) n h ∧
    ∀ _junk : Nat → Value, ∀ i : Int, ∀ (n1 : Nat) (vh : Hp), vI i n1 vh →
    IfB (decide (i < (a.len : Int))) (∃ a1 : Addr, a.base = some a1 ∧ 0 ≤ i ∧ i < (a.len : Int) ∧
      ∃ c : Int, hcell vh (a1.add ((i).toNat * 1)) = some (.int .u8 c) ∧
      ∃ a2 : Addr, b.base = some a2 ∧ 0 ≤ i ∧ i < (b.len : Int) ∧
      ∃ c1 : Int, hcell vh (a2.add ((i).toNat * 1)) = some (.int .u8 c1) ∧
      IfB (c != c1) (R (.bool false) vh)
      (∃ n2, n2 < n1 ∧ vI (iAdd .i64 i (1 : Int)) n2 vh))
    (R (.bool true) vh))
theorem scarpalike_Bytes_vc {a : Sl} {b : Sl} {h : Hp} {R : Value → Hp → Prop} (H : vcscarpalike_Bytes a b h R) : HCalls Try.prog fn_scarpalike_Bytes #[.slice a.base a.len a.cap, .slice b.base b.len b.cap] h R :=
  vc_fn (annOf [(0, [(5, .int .i64)])] []) Try.func16 [.slice a.base a.len a.cap, .slice b.base b.len b.cap] (by kernel_rfl) (V := vcscarpalike_Bytes a b h R) (by kernel_rfl) H

def vcscarplaw8_same (a : Int) (a1 : Int) (a2 : Int) (a3 : Int) (a4 : Sl) (b : Int) (b1 : Int) (b2 : Int) (b3 : Int) (b4 : Sl) (h : Hp) (R : Value → Hp → Prop) : Prop :=
  let vh := alc h [.int .i64 a, .int .i64 a1, .int .i64 a2, .int .i64 a3, .slice a4.base a4.len a4.cap] ty_frame_Block;
  let vh1 := alc vh [.int .i64 b, .int .i64 b1, .int .i64 b2, .int .i64 b3, .slice b4.base b4.len b4.cap] ty_scarpref6_Block;
  ∃ c : Int, hcell vh1 (nw h) = some (.int .i64 c) ∧
  ∃ c1 : Int, hcell vh1 (nw vh) = some (.int .i64 c1) ∧
  IfB (c == c1) (∃ c2 : Int, hcell vh1 ((nw h).add 1) = some (.int .i64 c2) ∧
    ∃ c3 : Int, hcell vh1 ((nw vh).add 1) = some (.int .i64 c3) ∧
    IfB (c2 == c3) (∃ c4 : Int, hcell vh1 ((nw h).add 2) = some (.int .i64 c4) ∧
      ∃ c5 : Int, hcell vh1 ((nw vh).add 2) = some (.int .i64 c5) ∧
      IfB (c4 == c5) (∃ c6 : Int, hcell vh1 ((nw h).add 3) = some (.int .i64 c6) ∧
        ∃ c7 : Int, hcell vh1 ((nw vh).add 3) = some (.int .i64 c7) ∧
        IfB (c6 == c7) (∃ c8 : Sl, hcell vh1 ((nw h).add 4) = some (.slice c8.base c8.len c8.cap) ∧
          ∃ c9 : Sl, hcell vh1 ((nw vh).add 4) = some (.slice c9.base c9.len c9.cap) ∧
          HCalls Try.prog fn_scarpalike_Bytes #[.slice c8.base c8.len c8.cap, .slice c9.base c9.len c9.cap] vh1 fun r vh2 =>
          ∃ c10 : Bool, r = .bool c10 ∧
          R (.bool c10) vh2)
        (R (.bool false) vh1))
      (R (.bool false) vh1))
    (R (.bool false) vh1))
  (R (.bool false) vh1)
theorem scarplaw8_same_vc {a : Int} {a1 : Int} {a2 : Int} {a3 : Int} {a4 : Sl} {b : Int} {b1 : Int} {b2 : Int} {b3 : Int} {b4 : Sl} {h : Hp} {R : Value → Hp → Prop} (H : vcscarplaw8_same a a1 a2 a3 a4 b b1 b2 b3 b4 h R) : HCalls Try.prog fn_scarplaw8_same #[.agg #[.int .i64 a, .int .i64 a1, .int .i64 a2, .int .i64 a3, .slice a4.base a4.len a4.cap], .agg #[.int .i64 b, .int .i64 b1, .int .i64 b2, .int .i64 b3, .slice b4.base b4.len b4.cap]] h R :=
  vc_fn (annOf [] []) Try.func17 [.agg #[.int .i64 a, .int .i64 a1, .int .i64 a2, .int .i64 a3, .slice a4.base a4.len a4.cap], .agg #[.int .i64 b, .int .i64 b1, .int .i64 b2, .int .i64 b3, .slice b4.base b4.len b4.cap]] (by kernel_rfl) (V := vcscarplaw8_same a a1 a2 a3 a4 b b1 b2 b3 b4 h R) (by kernel_rfl) H

def vcframe_Plain (p : Sl) (h : Hp) (R : Value → Hp → Prop) : Prop :=
  IfB ((p.len : Int) == (64 : Int)) (HCalls Try.prog fn_slices_ContainsFunc_sbytebyte #[.slice p.base p.len p.cap, .func (.func 43) #[] #[]] h fun r vh =>
    ∃ c : Bool, r = .bool c ∧
    R (.bool (!c)) vh)
  (R (.bool false) h)
theorem frame_Plain_vc {p : Sl} {h : Hp} {R : Value → Hp → Prop} (H : vcframe_Plain p h R) : HCalls Try.prog fn_frame_Plain #[.slice p.base p.len p.cap] h R :=
  vc_fn (annOf [] []) Try.func18 [.slice p.base p.len p.cap] (by kernel_rfl) (V := vcframe_Plain p h R) (by kernel_rfl) H

def vcscarplaw9_awake (h : Hp) (R : Value → Hp → Prop) : Prop :=
  HCalls Try.prog fn_scarplaw9_least #[] h fun r vh =>
  ∃ c : Int, ∃ c1 : Int, r = .agg #[.int .i64 c, .int .i64 c1] ∧
  HCalls Try.prog fn_zdev_New #[.agg #[.int .i64 c, .int .i64 c1]] vh fun r1 vh1 =>
  ∃ c2 : Option Addr, ∃ c3 : Int, r1 = .tuple #[.pointer c2, .int .i64 c3] ∧
  IfB (c3 != (0 : Int)) (R (.bool false) vh1)
  (IfB (isNone? c2) (R (.bool false) vh1)
    (HCalls Try.prog fn_scarpalike_Block #[.int .i64 (64 : Int), .int .i64 (1 : Int)] vh1 fun r2 vh2 =>
      ∃ c4 : Sl, r2 = .slice c4.base c4.len c4.cap ∧
      HCalls Try.prog fn_zdev_Dev_Append #[.pointer c2, .int .i64 (0 : Int), .slice c4.base c4.len c4.cap] vh2 fun r3 vh3 =>
      ∃ c5 : Int, ∃ c6 : Int, r3 = .tuple #[.int .i64 c5, .int .i64 c6] ∧
      HCalls Try.prog fn_zdev_Dev_Crash #[.pointer c2, .slice Sl.nil.base Sl.nil.len Sl.nil.cap, .slice Sl.nil.base Sl.nil.len Sl.nil.cap] vh3 fun r4 vh4 =>
      ∃ c7 : Option Addr, r4 = .pointer c7 ∧
      IfB (c6 != (0 : Int)) (R (.bool false) vh4)
      (IfB (c5 != (0 : Int)) (R (.bool false) vh4)
        (IfB (isNone? c7) (R (.bool false) vh4)
          (HCalls Try.prog fn_zdev_Dev_Pointer #[.pointer c7, .int .i64 (0 : Int)] vh4 fun r5 vh5 =>
            ∃ c8 : Int, ∃ c9 : Int, r5 = .tuple #[.int .i64 c8, .int .i64 c9] ∧
            IfB (c9 == (0 : Int)) (R (.bool (c8 == (0 : Int))) vh5)
            (R (.bool false) vh5))))))
theorem scarplaw9_awake_vc {h : Hp} {R : Value → Hp → Prop} (H : vcscarplaw9_awake h R) : HCalls Try.prog fn_scarplaw9_awake #[] h R :=
  vc_fn (annOf [] []) Try.func19 [] (by kernel_rfl) (V := vcscarplaw9_awake h R) (by kernel_rfl) H

def vczdev_New (g : Int) (g1 : Int) (h : Hp) (R : Value → Hp → Prop) : Prop :=
  let vh := alc h [.int .i64 g, .int .i64 g1] ty_api_Geometry;
  ∃ c : Int, hcell vh (nw h) = some (.int .i64 c) ∧
  IfB (decide (c < (8 : Int))) (R (.tuple #[.pointer none, .int .i64 (1 : Int)]) vh)
  (∃ c1 : Int, hcell vh (nw h) = some (.int .i64 c1) ∧
    IfB (decide (c1 > (64 : Int))) (R (.tuple #[.pointer none, .int .i64 (1 : Int)]) vh)
    (∃ c2 : Int, hcell vh ((nw h).add 1) = some (.int .i64 c2) ∧
      IfB (decide (c2 < (96 : Int))) (R (.tuple #[.pointer none, .int .i64 (1 : Int)]) vh)
      (∃ c3 : Int, hcell vh ((nw h).add 1) = some (.int .i64 c3) ∧
        IfB (decide (c3 > (192 : Int))) (R (.tuple #[.pointer none, .int .i64 (1 : Int)]) vh)
        (∃ c4 : Int, ∃ c5 : Int, hcell vh ((nw h)) = some (.int .i64 c4) ∧ hcell vh ((nw h).add 1) = some (.int .i64 c5) ∧
          let vh1 := alc vh [.int .i64 c4, .int .i64 c5, .slice Sl.nil.base Sl.nil.len Sl.nil.cap, .int .i64 (0 : Int), .int .i64 (0 : Int), .bool false, .int .i64 (0 : Int), .bool false] ty_zdev_Dev;
          ∃ c6 : Int, hcell vh1 (nw h) = some (.int .i64 c6) ∧
          ∃ (vI : Int → Nat → Hp → Prop) (n : Nat), vI (0 : Int) n vh1 ∧
          ∀ _junk : Nat → Value, ∀ t28 : Int, ∀ (n1 : Nat) (vh2 : Hp), vI t28 n1 vh2 →
          IfB (decide (t28 < c6)) (∃ a : Addr, (some (nw vh)) = some a ∧
            ∃ c7 : Sl, hcell vh2 (a.add 2) = some (.slice c7.base c7.len c7.cap) ∧
            let vh3 := alc vh2 [.slice Sl.nil.base Sl.nil.len Sl.nil.cap, .int .i64 (0 : Int)] ty_zdev_zone;
            let vh4 := alc vh3 [.pointer (some (nw vh2))] ty_pzdev_zone;
            AppC ty_pzdev_zone 1 8 #[.pointer none] c7 (Sl.mk (some (nw vh3)) 1 1) vh4 fun s vh5 =>
            ∃ a1 : Addr, (some (nw vh)) = some a1 ∧
            StOk vh5 (a1.add 2) ∧
            Lt (hset vh5 (a1.add 2) (.slice s.base s.len s.cap)) fun vh6 =>
            ∃ n2, n2 < n1 ∧ vI (iAdd .i64 t28 (1 : Int)) n2 vh6)
          (R (.tuple #[.pointer (some (nw vh)), .int .i64 (0 : Int)]) vh2)))))
theorem zdev_New_vc {g : Int} {g1 : Int} {h : Hp} {R : Value → Hp → Prop} (H : vczdev_New g g1 h R) : HCalls Try.prog fn_zdev_New #[.agg #[.int .i64 g, .int .i64 g1]] h R :=
  vc_fn (annOf [(0, [(28, .int .i64)])] []) Try.func20 [.agg #[.int .i64 g, .int .i64 g1]] (by kernel_rfl) (V := vczdev_New g g1 h R) (by kernel_rfl) H

def vcscarplaw9_least (h : Hp) (R : Value → Hp → Prop) : Prop :=
  let vh := alc h [.int .i64 (0 : Int), .int .i64 (0 : Int)] ty_api_Geometry;
  stCells (nw h) 0 [.int .i64 (8 : Int), .int .i64 (96 : Int)] vh fun vh1 =>
  ∃ x : Int, ∃ x1 : Int, hcell vh1 ((nw h)) = some (.int .i64 x) ∧ hcell vh1 ((nw h).add 1) = some (.int .i64 x1) ∧
  R (.agg #[.int .i64 x, .int .i64 x1]) vh1
theorem scarplaw9_least_vc {h : Hp} {R : Value → Hp → Prop} (H : vcscarplaw9_least h R) : HCalls Try.prog fn_scarplaw9_least #[] h R :=
  vc_fn (annOf [] []) Try.func21 [] (by kernel_rfl) (V := vcscarplaw9_least h R) (by kernel_rfl) H

def vcscarpalike_Round (k : Int) (n : Int) (h : Hp) (R : Value → Hp → Prop) : Prop :=
  n ≠ 0 ∧
  IfB (decide ((iRem k n) < (0 : Int))) (R (.int .i64 (iAdd .i64 (iRem k n) n)) h)
  (R (.int .i64 (iRem k n)) h)
theorem scarpalike_Round_vc {k : Int} {n : Int} {h : Hp} {R : Value → Hp → Prop} (H : vcscarpalike_Round k n h R) : HCalls Try.prog fn_scarpalike_Round #[.int .i64 k, .int .i64 n] h R :=
  vc_fn (annOf [] []) Try.func22 [.int .i64 k, .int .i64 n] (by kernel_rfl) (V := vcscarpalike_Round k n h R) (by kernel_rfl) H

def vczdev_Dev_Reset (d : Option Addr) (i : Int) (h : Hp) (R : Value → Hp → Prop) : Prop :=
  HCalls Try.prog fn_zdev_Dev_at #[.pointer d, .int .i64 i] h fun r vh =>
  ∃ c : Option Addr, r = .pointer c ∧
  IfB (isNone? c) (R (.int .i64 (1 : Int)) vh)
  (HCalls Try.prog fn_zdev_Dev_begin #[.pointer d] vh fun r1 vh1 =>
    ∃ c1 : Bool, r1 = .bool c1 ∧
    IfB (!c1) (R (.int .i64 (12 : Int)) vh1)
    (∃ a : Addr, c = some a ∧
      stCells a 0 [.slice Sl.nil.base Sl.nil.len Sl.nil.cap, .int .i64 (0 : Int)] vh1 fun vh2 =>
      R (.int .i64 (0 : Int)) vh2))
theorem zdev_Dev_Reset_vc {d : Option Addr} {i : Int} {h : Hp} {R : Value → Hp → Prop} (H : vczdev_Dev_Reset d i h R) : HCalls Try.prog fn_zdev_Dev_Reset #[.pointer d, .int .i64 i] h R :=
  vc_fn (annOf [] []) Try.func23 [.pointer d, .int .i64 i] (by kernel_rfl) (V := vczdev_Dev_Reset d i h R) (by kernel_rfl) H

def vczdev_Dev_Pointer (d : Option Addr) (i : Int) (h : Hp) (R : Value → Hp → Prop) : Prop :=
  HCalls Try.prog fn_zdev_Dev_at #[.pointer d, .int .i64 i] h fun r vh =>
  ∃ c : Option Addr, r = .pointer c ∧
  IfB (isNone? c) (R (.tuple #[.int .i64 (0 : Int), .int .i64 (1 : Int)]) vh)
  (∃ a : Addr, c = some a ∧
    ∃ c1 : Sl, hcell vh a = some (.slice c1.base c1.len c1.cap) ∧
    R (.tuple #[.int .i64 (c1.len : Int), .int .i64 (0 : Int)]) vh)
theorem zdev_Dev_Pointer_vc {d : Option Addr} {i : Int} {h : Hp} {R : Value → Hp → Prop} (H : vczdev_Dev_Pointer d i h R) : HCalls Try.prog fn_zdev_Dev_Pointer #[.pointer d, .int .i64 i] h R :=
  vc_fn (annOf [] []) Try.func25 [.pointer d, .int .i64 i] (by kernel_rfl) (V := vczdev_Dev_Pointer d i h R) (by kernel_rfl) H

def vczdev_Dev_Ops (d : Option Addr) (h : Hp) (R : Value → Hp → Prop) : Prop :=
  HCalls Try.prog fn_zdev_Dev_gone #[.pointer d] h fun r vh =>
  ∃ c : Bool, r = .bool c ∧
  IfB c (R (.int .i64 (0 : Int)) vh)
  (∃ a : Addr, d = some a ∧
    ∃ c1 : Int, hcell vh (a.add 3) = some (.int .i64 c1) ∧
    R (.int .i64 c1) vh)
theorem zdev_Dev_Ops_vc {d : Option Addr} {h : Hp} {R : Value → Hp → Prop} (H : vczdev_Dev_Ops d h R) : HCalls Try.prog fn_zdev_Dev_Ops #[.pointer d] h R :=
  vc_fn (annOf [] []) Try.func26 [.pointer d] (by kernel_rfl) (V := vczdev_Dev_Ops d h R) (by kernel_rfl) H

def vczdev_Dev_Read (d : Option Addr) (i : Int) (vat : Int) (h : Hp) (R : Value → Hp → Prop) : Prop :=
  HCalls Try.prog fn_zdev_Dev_at #[.pointer d, .int .i64 i] h fun r vh =>
  ∃ c : Option Addr, r = .pointer c ∧
  IfB (isNone? c) (R (.tuple #[.slice Sl.nil.base Sl.nil.len Sl.nil.cap, .int .i64 (1 : Int)]) vh)
  (IfB (decide (vat < (0 : Int))) (R (.tuple #[.slice Sl.nil.base Sl.nil.len Sl.nil.cap, .int .i64 (14 : Int)]) vh)
    (∃ a : Addr, c = some a ∧
      ∃ c1 : Sl, hcell vh a = some (.slice c1.base c1.len c1.cap) ∧
      IfB (decide (vat ≥ (c1.len : Int))) (R (.tuple #[.slice Sl.nil.base Sl.nil.len Sl.nil.cap, .int .i64 (14 : Int)]) vh)
      (∃ a1 : Addr, d = some a1 ∧
        ∃ c2 : Int, hcell vh (a1.add 4) = some (.int .i64 c2) ∧
        ∃ a2 : Addr, d = some a2 ∧
        StOk vh (a2.add 4) ∧
        Lt (hset vh (a2.add 4) (.int .i64 (iAdd .i64 c2 (1 : Int)))) fun vh1 =>
        ∃ a3 : Addr, c = some a3 ∧
        ∃ c3 : Sl, hcell vh1 a3 = some (.slice c3.base c3.len c3.cap) ∧
        ∃ a4 : Addr, c3.base = some a4 ∧ 0 ≤ vat ∧ vat < (c3.len : Int) ∧
        ∃ c4 : Sl, hcell vh1 (a4.add ((vat).toNat * 1)) = some (.slice c4.base c4.len c4.cap) ∧
        HCalls Try.prog fn_slices_Clone_sbytebyte #[.slice c4.base c4.len c4.cap] vh1 fun r1 vh2 =>
        ∃ c5 : Sl, r1 = .slice c5.base c5.len c5.cap ∧
        R (.tuple #[.slice c5.base c5.len c5.cap, .int .i64 (0 : Int)]) vh2)))
theorem zdev_Dev_Read_vc {d : Option Addr} {i : Int} {vat : Int} {h : Hp} {R : Value → Hp → Prop} (H : vczdev_Dev_Read d i vat h R) : HCalls Try.prog fn_zdev_Dev_Read #[.pointer d, .int .i64 i, .int .i64 vat] h R :=
  vc_fn (annOf [] []) Try.func27 [.pointer d, .int .i64 i, .int .i64 vat] (by kernel_rfl) (V := vczdev_Dev_Read d i vat h R) (by kernel_rfl) H

def vcscarpref6_Encode (b : Int) (b1 : Int) (b2 : Int) (b3 : Int) (b4 : Sl) (h : Hp) (R : Value → Hp → Prop) : Prop :=
  let vh := alc h [.int .i64 b, .int .i64 b1, .int .i64 b2, .int .i64 b3, .slice b4.base b4.len b4.cap] ty_scarpref6_Block;
  ∃ c : Int, hcell vh (nw h) = some (.int .i64 c) ∧
  IfB (decide (c < (1 : Int))) (R (.tuple #[.slice Sl.nil.base Sl.nil.len Sl.nil.cap, .int .i64 (1 : Int)]) vh)
  (∃ c1 : Int, hcell vh (nw h) = some (.int .i64 c1) ∧
    IfB (decide (c1 > (4 : Int))) (R (.tuple #[.slice Sl.nil.base Sl.nil.len Sl.nil.cap, .int .i64 (1 : Int)]) vh)
    (∃ c2 : Int, hcell vh ((nw h).add 1) = some (.int .i64 c2) ∧
      IfB (decide (c2 < (0 : Int))) (R (.tuple #[.slice Sl.nil.base Sl.nil.len Sl.nil.cap, .int .i64 (1 : Int)]) vh)
      (∃ c3 : Int, hcell vh ((nw h).add 1) = some (.int .i64 c3) ∧
        IfB (decide (c3 > (4294967295 : Int))) (R (.tuple #[.slice Sl.nil.base Sl.nil.len Sl.nil.cap, .int .i64 (1 : Int)]) vh)
        (∃ c4 : Int, hcell vh ((nw h).add 2) = some (.int .i64 c4) ∧
          IfB (decide (c4 < (0 : Int))) (R (.tuple #[.slice Sl.nil.base Sl.nil.len Sl.nil.cap, .int .i64 (1 : Int)]) vh)
          (∃ c5 : Int, hcell vh ((nw h).add 2) = some (.int .i64 c5) ∧
            IfB (decide (c5 > (1099511627776 : Int))) (R (.tuple #[.slice Sl.nil.base Sl.nil.len Sl.nil.cap, .int .i64 (1 : Int)]) vh)
            (∃ c6 : Int, hcell vh ((nw h).add 3) = some (.int .i64 c6) ∧
              IfB (decide (c6 < (0 : Int))) (R (.tuple #[.slice Sl.nil.base Sl.nil.len Sl.nil.cap, .int .i64 (1 : Int)]) vh)
              (∃ c7 : Int, hcell vh ((nw h).add 3) = some (.int .i64 c7) ∧
                IfB (decide (c7 > (1048576 : Int))) (R (.tuple #[.slice Sl.nil.base Sl.nil.len Sl.nil.cap, .int .i64 (1 : Int)]) vh)
                (∃ c8 : Sl, hcell vh ((nw h).add 4) = some (.slice c8.base c8.len c8.cap) ∧
                  IfB (decide ((c8.len : Int) > (40 : Int))) (R (.tuple #[.slice Sl.nil.base Sl.nil.len Sl.nil.cap, .int .i64 (3 : Int)]) vh)
                  (∃ c9 : Int, hcell vh (nw h) = some (.int .i64 c9) ∧
                    ∃ c10 : Sl, hcell vh ((nw h).add 4) = some (.slice c10.base c10.len c10.cap) ∧
                    let vh1 := alc vh [.int .u8 (iConv .u8 c9), .int .u8 (iConv .u8 (c10.len : Int))] ty_uint8;
                    ∃ c11 : Int, hcell vh1 ((nw h).add 1) = some (.int .i64 c11) ∧
                    HCalls Try.prog fn_scarpref6_Put #[.int .u64 (iConv .u64 c11), .int .i64 (4 : Int)] vh1 fun r vh2 =>
                    ∃ c12 : Sl, r = .slice c12.base c12.len c12.cap ∧
                    AppC ty_uint8 1 1 #[.int .u8 (0 : Int)] (Sl.mk (some (nw vh)) 2 2) c12 vh2 fun s vh3 =>
                    ∃ c13 : Int, hcell vh3 ((nw h).add 2) = some (.int .i64 c13) ∧
                    HCalls Try.prog fn_scarpref6_Put #[.int .u64 (iConv .u64 c13), .int .i64 (8 : Int)] vh3 fun r1 vh4 =>
                    ∃ c14 : Sl, r1 = .slice c14.base c14.len c14.cap ∧
                    AppC ty_uint8 1 1 #[.int .u8 (0 : Int)] s c14 vh4 fun s1 vh5 =>
                    ∃ c15 : Int, hcell vh5 ((nw h).add 3) = some (.int .i64 c15) ∧
                    HCalls Try.prog fn_scarpref6_Put #[.int .u64 (iConv .u64 c15), .int .i64 (4 : Int)] vh5 fun r2 vh6 =>
                    ∃ c16 : Sl, r2 = .slice c16.base c16.len c16.cap ∧
                    AppC ty_uint8 1 1 #[.int .u8 (0 : Int)] s1 c16 vh6 fun s2 vh7 =>
                    ∃ c17 : Sl, hcell vh7 ((nw h).add 4) = some (.slice c17.base c17.len c17.cap) ∧
                    AppC ty_uint8 1 1 #[.int .u8 (0 : Int)] s2 c17 vh7 fun s3 vh8 =>
                    ∃ (vI : Sl → Nat → Hp → Prop) (n : Nat), vI s3 n vh8 ∧
                    ∀ _junk : Nat → Value, ∀ p : Sl, ∀ (n1 : Nat) (vh9 : Hp), vI p n1 vh9 →
                    IfB (decide ((p.len : Int) < (60 : Int))) (let vh10 := alc vh9 [.int .u8 (0 : Int)] ty_uint8;
                      AppC ty_uint8 1 1 #[.int .u8 (0 : Int)] p (Sl.mk (some (nw vh9)) 1 1) vh10 fun s4 vh11 =>
                      ∃ n2, n2 < n1 ∧ vI s4 n2 vh11)
                    (HCalls Try.prog fn_scarpref6_Crc #[.slice p.base p.len p.cap] vh9 fun r3 vh12 =>
                      ∃ c18 : Int, r3 = .int .u32 c18 ∧
                      HCalls Try.prog fn_scarpref6_Put #[.int .u64 (iConv .u64 c18), .int .i64 (4 : Int)] vh12 fun r4 vh13 =>
                      ∃ c19 : Sl, r4 = .slice c19.base c19.len c19.cap ∧
                      AppC ty_uint8 1 1 #[.int .u8 (0 : Int)] p c19 vh13 fun s5 vh14 =>
                      R (.tuple #[.slice s5.base s5.len s5.cap, .int .i64 (0 : Int)]) vh14))))))))))
theorem scarpref6_Encode_vc {b : Int} {b1 : Int} {b2 : Int} {b3 : Int} {b4 : Sl} {h : Hp} {R : Value → Hp → Prop} (H : vcscarpref6_Encode b b1 b2 b3 b4 h R) : HCalls Try.prog fn_scarpref6_Encode #[.agg #[.int .i64 b, .int .i64 b1, .int .i64 b2, .int .i64 b3, .slice b4.base b4.len b4.cap]] h R :=
  vc_fn (annOf [(0, [(4, .sl)])] []) Try.func28 [.agg #[.int .i64 b, .int .i64 b1, .int .i64 b2, .int .i64 b3, .slice b4.base b4.len b4.cap]] (by kernel_rfl) (V := vcscarpref6_Encode b b1 b2 b3 b4 h R) (by kernel_rfl) H

def vcframe_Decode (p : Sl) (h : Hp) (R : Value → Hp → Prop) : Prop :=
  let vh := alc h [.int .i64 (0 : Int), .int .i64 (0 : Int), .int .i64 (0 : Int), .int .i64 (0 : Int), .slice Sl.nil.base Sl.nil.len Sl.nil.cap] ty_frame_Block;
  IfB ((p.len : Int) != (64 : Int)) (stCells (nw h) 0 [.int .i64 (0 : Int), .int .i64 (0 : Int), .int .i64 (0 : Int), .int .i64 (0 : Int), .slice Sl.nil.base Sl.nil.len Sl.nil.cap] vh fun vh1 =>
    ∃ x : Int, ∃ x1 : Int, ∃ x2 : Int, ∃ x3 : Int, ∃ x4 : Sl, hcell vh1 ((nw h)) = some (.int .i64 x) ∧ hcell vh1 ((nw h).add 1) = some (.int .i64 x1) ∧ hcell vh1 ((nw h).add 2) = some (.int .i64 x2) ∧ hcell vh1 ((nw h).add 3) = some (.int .i64 x3) ∧ hcell vh1 ((nw h).add 4) = some (.slice x4.base x4.len x4.cap) ∧
    R (.tuple #[.agg #[.int .i64 x, .int .i64 x1, .int .i64 x2, .int .i64 x3, .slice x4.base x4.len x4.cap], .int .i64 (3 : Int)]) vh1)
  (let vh2 := alc vh [.int .i64 (0 : Int), .int .i64 (0 : Int), .int .i64 (0 : Int), .int .i64 (0 : Int), .slice Sl.nil.base Sl.nil.len Sl.nil.cap] ty_frame_Block;
    ∃ (vI : Bool → Nat → Hp → Prop) (n : Nat), vI false n vh2 ∧
    ∀ _junk : Nat → Value, ∀ ok : Bool, ∀ (n1 : Nat) (vh3 : Hp), vI ok n1 vh3 →
    ∃ a : Addr, p.base = some a ∧ 0 ≤ (1 : Int) ∧ (1 : Int) < (p.len : Int) ∧
    ∃ c : Int, hcell vh3 (a.add (((1 : Int)).toNat * 1)) = some (.int .u8 c) ∧
    0 ≤ (6 : Int) ∧ (6 : Int) ≤ (p.len : Int) ∧ (p.len : Int) ≤ (p.cap : Int) ∧ (p.cap : Int) ≤ (p.cap : Int) ∧
    HCalls Try.prog fn_bits_Get64 #[.slice (cutSl p (6 : Int) (p.len : Int) (p.cap : Int) 1).base (cutSl p (6 : Int) (p.len : Int) (p.cap : Int) 1).len (cutSl p (6 : Int) (p.len : Int) (p.cap : Int) 1).cap] vh3 fun r vh4 =>
    ∃ c1 : Int, ∃ c2 : Bool, r = .tuple #[.int .u64 c1, .bool c2] ∧
    IfB (decide ((iConv .i64 c) > (40 : Int))) (IfB (!ok) (stCells (nw h) 0 [.int .i64 (0 : Int), .int .i64 (0 : Int), .int .i64 (0 : Int), .int .i64 (0 : Int), .slice Sl.nil.base Sl.nil.len Sl.nil.cap] vh4 fun vh5 =>
        ∃ x5 : Int, ∃ x6 : Int, ∃ x7 : Int, ∃ x8 : Int, ∃ x9 : Sl, hcell vh5 ((nw h)) = some (.int .i64 x5) ∧ hcell vh5 ((nw h).add 1) = some (.int .i64 x6) ∧ hcell vh5 ((nw h).add 2) = some (.int .i64 x7) ∧ hcell vh5 ((nw h).add 3) = some (.int .i64 x8) ∧ hcell vh5 ((nw h).add 4) = some (.slice x9.base x9.len x9.cap) ∧
        R (.tuple #[.agg #[.int .i64 x5, .int .i64 x6, .int .i64 x7, .int .i64 x8, .slice x9.base x9.len x9.cap], .int .i64 (13 : Int)]) vh5)
      (∃ c3 : Int, ∃ c4 : Int, ∃ c5 : Int, ∃ c6 : Int, ∃ c7 : Sl, hcell vh4 ((nw vh)) = some (.int .i64 c3) ∧ hcell vh4 ((nw vh).add 1) = some (.int .i64 c4) ∧ hcell vh4 ((nw vh).add 2) = some (.int .i64 c5) ∧ hcell vh4 ((nw vh).add 3) = some (.int .i64 c6) ∧ hcell vh4 ((nw vh).add 4) = some (.slice c7.base c7.len c7.cap) ∧
        stCells (nw h) 0 [.int .i64 c3, .int .i64 c4, .int .i64 c5, .int .i64 c6, .slice c7.base c7.len c7.cap] vh4 fun vh6 =>
        ∃ x10 : Int, ∃ x11 : Int, ∃ x12 : Int, ∃ x13 : Int, ∃ x14 : Sl, hcell vh6 ((nw h)) = some (.int .i64 x10) ∧ hcell vh6 ((nw h).add 1) = some (.int .i64 x11) ∧ hcell vh6 ((nw h).add 2) = some (.int .i64 x12) ∧ hcell vh6 ((nw h).add 3) = some (.int .i64 x13) ∧ hcell vh6 ((nw h).add 4) = some (.slice x14.base x14.len x14.cap) ∧
        R (.tuple #[.agg #[.int .i64 x10, .int .i64 x11, .int .i64 x12, .int .i64 x13, .slice x14.base x14.len x14.cap], .int .i64 (0 : Int)]) vh6))
    (IfB (decide (c1 > (1099511627776 : Int))) (IfB (!ok) (stCells (nw h) 0 [.int .i64 (0 : Int), .int .i64 (0 : Int), .int .i64 (0 : Int), .int .i64 (0 : Int), .slice Sl.nil.base Sl.nil.len Sl.nil.cap] vh4 fun vh7 =>
          ∃ x15 : Int, ∃ x16 : Int, ∃ x17 : Int, ∃ x18 : Int, ∃ x19 : Sl, hcell vh7 ((nw h)) = some (.int .i64 x15) ∧ hcell vh7 ((nw h).add 1) = some (.int .i64 x16) ∧ hcell vh7 ((nw h).add 2) = some (.int .i64 x17) ∧ hcell vh7 ((nw h).add 3) = some (.int .i64 x18) ∧ hcell vh7 ((nw h).add 4) = some (.slice x19.base x19.len x19.cap) ∧
          R (.tuple #[.agg #[.int .i64 x15, .int .i64 x16, .int .i64 x17, .int .i64 x18, .slice x19.base x19.len x19.cap], .int .i64 (13 : Int)]) vh7)
        (∃ c8 : Int, ∃ c9 : Int, ∃ c10 : Int, ∃ c11 : Int, ∃ c12 : Sl, hcell vh4 ((nw vh)) = some (.int .i64 c8) ∧ hcell vh4 ((nw vh).add 1) = some (.int .i64 c9) ∧ hcell vh4 ((nw vh).add 2) = some (.int .i64 c10) ∧ hcell vh4 ((nw vh).add 3) = some (.int .i64 c11) ∧ hcell vh4 ((nw vh).add 4) = some (.slice c12.base c12.len c12.cap) ∧
          stCells (nw h) 0 [.int .i64 c8, .int .i64 c9, .int .i64 c10, .int .i64 c11, .slice c12.base c12.len c12.cap] vh4 fun vh8 =>
          ∃ x20 : Int, ∃ x21 : Int, ∃ x22 : Int, ∃ x23 : Int, ∃ x24 : Sl, hcell vh8 ((nw h)) = some (.int .i64 x20) ∧ hcell vh8 ((nw h).add 1) = some (.int .i64 x21) ∧ hcell vh8 ((nw h).add 2) = some (.int .i64 x22) ∧ hcell vh8 ((nw h).add 3) = some (.int .i64 x23) ∧ hcell vh8 ((nw h).add 4) = some (.slice x24.base x24.len x24.cap) ∧
          R (.tuple #[.agg #[.int .i64 x20, .int .i64 x21, .int .i64 x22, .int .i64 x23, .slice x24.base x24.len x24.cap], .int .i64 (0 : Int)]) vh8))
      (0 ≤ (2 : Int) ∧ (2 : Int) ≤ (p.len : Int) ∧ (p.len : Int) ≤ (p.cap : Int) ∧ (p.cap : Int) ≤ (p.cap : Int) ∧
        HCalls Try.prog fn_bits_Get32 #[.slice (cutSl p (2 : Int) (p.len : Int) (p.cap : Int) 1).base (cutSl p (2 : Int) (p.len : Int) (p.cap : Int) 1).len (cutSl p (2 : Int) (p.len : Int) (p.cap : Int) 1).cap] vh4 fun r1 vh9 =>
        ∃ c13 : Int, ∃ c14 : Bool, r1 = .tuple #[.int .u32 c13, .bool c14] ∧
        0 ≤ (14 : Int) ∧ (14 : Int) ≤ (p.len : Int) ∧ (p.len : Int) ≤ (p.cap : Int) ∧ (p.cap : Int) ≤ (p.cap : Int) ∧
        HCalls Try.prog fn_bits_Get32 #[.slice (cutSl p (14 : Int) (p.len : Int) (p.cap : Int) 1).base (cutSl p (14 : Int) (p.len : Int) (p.cap : Int) 1).len (cutSl p (14 : Int) (p.len : Int) (p.cap : Int) 1).cap] vh9 fun r2 vh10 =>
        ∃ c15 : Int, ∃ c16 : Bool, r2 = .tuple #[.int .u32 c15, .bool c16] ∧
        ∃ a1 : Addr, p.base = some a1 ∧ 0 ≤ (0 : Int) ∧ (0 : Int) < (p.len : Int) ∧
        ∃ c17 : Int, hcell vh10 (a1.add (((0 : Int)).toNat * 1)) = some (.int .u8 c17) ∧
        0 ≤ (18 : Int) ∧ (18 : Int) ≤ (iAdd .i64 (18 : Int) (iConv .i64 c)) ∧ (iAdd .i64 (18 : Int) (iConv .i64 c)) ≤ (p.cap : Int) ∧ (p.cap : Int) ≤ (p.cap : Int) ∧
        HCalls Try.prog fn_slices_Clone_sbytebyte #[.slice (cutSl p (18 : Int) (iAdd .i64 (18 : Int) (iConv .i64 c)) (p.cap : Int) 1).base (cutSl p (18 : Int) (iAdd .i64 (18 : Int) (iConv .i64 c)) (p.cap : Int) 1).len (cutSl p (18 : Int) (iAdd .i64 (18 : Int) (iConv .i64 c)) (p.cap : Int) 1).cap] vh10 fun r3 vh11 =>
        ∃ c18 : Sl, r3 = .slice c18.base c18.len c18.cap ∧
        Ext vh10 vh11 ∧
        stCells (nw vh) 0 [.int .i64 (iConv .i64 c17), .int .i64 (iConv .i64 c13), .int .i64 (iConv .i64 c1), .int .i64 (iConv .i64 c15), .slice c18.base c18.len c18.cap] vh11 fun vh12 =>
        ∃ c19 : Int, ∃ c20 : Int, ∃ c21 : Int, ∃ c22 : Int, ∃ c23 : Sl, hcell vh12 ((nw vh)) = some (.int .i64 c19) ∧ hcell vh12 ((nw vh).add 1) = some (.int .i64 c20) ∧ hcell vh12 ((nw vh).add 2) = some (.int .i64 c21) ∧ hcell vh12 ((nw vh).add 3) = some (.int .i64 c22) ∧ hcell vh12 ((nw vh).add 4) = some (.slice c23.base c23.len c23.cap) ∧
        HCalls Try.prog fn_frame_Encode #[.agg #[.int .i64 c19, .int .i64 c20, .int .i64 c21, .int .i64 c22, .slice c23.base c23.len c23.cap]] vh12 fun r4 vh13 =>
        ∃ c24 : Sl, ∃ c25 : Int, r4 = .tuple #[.slice c24.base c24.len c24.cap, .int .i64 c25] ∧
        IfB (c25 == (0 : Int)) (HCalls Try.prog fn_slices_Equal_sbytebyte #[.slice p.base p.len p.cap, .slice c24.base c24.len c24.cap] vh13 fun r5 vh14 =>
          ∃ c26 : Bool, r5 = .bool c26 ∧
          IfB (!c26) (stCells (nw h) 0 [.int .i64 (0 : Int), .int .i64 (0 : Int), .int .i64 (0 : Int), .int .i64 (0 : Int), .slice Sl.nil.base Sl.nil.len Sl.nil.cap] vh14 fun vh15 =>
            ∃ x25 : Int, ∃ x26 : Int, ∃ x27 : Int, ∃ x28 : Int, ∃ x29 : Sl, hcell vh15 ((nw h)) = some (.int .i64 x25) ∧ hcell vh15 ((nw h).add 1) = some (.int .i64 x26) ∧ hcell vh15 ((nw h).add 2) = some (.int .i64 x27) ∧ hcell vh15 ((nw h).add 3) = some (.int .i64 x28) ∧ hcell vh15 ((nw h).add 4) = some (.slice x29.base x29.len x29.cap) ∧
            R (.tuple #[.agg #[.int .i64 x25, .int .i64 x26, .int .i64 x27, .int .i64 x28, .slice x29.base x29.len x29.cap], .int .i64 (13 : Int)]) vh15)
          (∃ c27 : Int, ∃ c28 : Int, ∃ c29 : Int, ∃ c30 : Int, ∃ c31 : Sl, hcell vh14 ((nw vh)) = some (.int .i64 c27) ∧ hcell vh14 ((nw vh).add 1) = some (.int .i64 c28) ∧ hcell vh14 ((nw vh).add 2) = some (.int .i64 c29) ∧ hcell vh14 ((nw vh).add 3) = some (.int .i64 c30) ∧ hcell vh14 ((nw vh).add 4) = some (.slice c31.base c31.len c31.cap) ∧
            stCells (nw h) 0 [.int .i64 c27, .int .i64 c28, .int .i64 c29, .int .i64 c30, .slice c31.base c31.len c31.cap] vh14 fun vh16 =>
            ∃ x30 : Int, ∃ x31 : Int, ∃ x32 : Int, ∃ x33 : Int, ∃ x34 : Sl, hcell vh16 ((nw h)) = some (.int .i64 x30) ∧ hcell vh16 ((nw h).add 1) = some (.int .i64 x31) ∧ hcell vh16 ((nw h).add 2) = some (.int .i64 x32) ∧ hcell vh16 ((nw h).add 3) = some (.int .i64 x33) ∧ hcell vh16 ((nw h).add 4) = some (.slice x34.base x34.len x34.cap) ∧
            R (.tuple #[.agg #[.int .i64 x30, .int .i64 x31, .int .i64 x32, .int .i64 x33, .slice x34.base x34.len x34.cap], .int .i64 (0 : Int)]) vh16))
        (IfB (!false) (stCells (nw h) 0 [.int .i64 (0 : Int), .int .i64 (0 : Int), .int .i64 (0 : Int), .int .i64 (0 : Int), .slice Sl.nil.base Sl.nil.len Sl.nil.cap] vh13 fun vh17 =>
            ∃ x35 : Int, ∃ x36 : Int, ∃ x37 : Int, ∃ x38 : Int, ∃ x39 : Sl, hcell vh17 ((nw h)) = some (.int .i64 x35) ∧ hcell vh17 ((nw h).add 1) = some (.int .i64 x36) ∧ hcell vh17 ((nw h).add 2) = some (.int .i64 x37) ∧ hcell vh17 ((nw h).add 3) = some (.int .i64 x38) ∧ hcell vh17 ((nw h).add 4) = some (.slice x39.base x39.len x39.cap) ∧
            R (.tuple #[.agg #[.int .i64 x35, .int .i64 x36, .int .i64 x37, .int .i64 x38, .slice x39.base x39.len x39.cap], .int .i64 (13 : Int)]) vh17)
          (∃ c32 : Int, ∃ c33 : Int, ∃ c34 : Int, ∃ c35 : Int, ∃ c36 : Sl, hcell vh13 ((nw vh)) = some (.int .i64 c32) ∧ hcell vh13 ((nw vh).add 1) = some (.int .i64 c33) ∧ hcell vh13 ((nw vh).add 2) = some (.int .i64 c34) ∧ hcell vh13 ((nw vh).add 3) = some (.int .i64 c35) ∧ hcell vh13 ((nw vh).add 4) = some (.slice c36.base c36.len c36.cap) ∧
            stCells (nw h) 0 [.int .i64 c32, .int .i64 c33, .int .i64 c34, .int .i64 c35, .slice c36.base c36.len c36.cap] vh13 fun vh18 =>
            ∃ x40 : Int, ∃ x41 : Int, ∃ x42 : Int, ∃ x43 : Int, ∃ x44 : Sl, hcell vh18 ((nw h)) = some (.int .i64 x40) ∧ hcell vh18 ((nw h).add 1) = some (.int .i64 x41) ∧ hcell vh18 ((nw h).add 2) = some (.int .i64 x42) ∧ hcell vh18 ((nw h).add 3) = some (.int .i64 x43) ∧ hcell vh18 ((nw h).add 4) = some (.slice x44.base x44.len x44.cap) ∧
            R (.tuple #[.agg #[.int .i64 x40, .int .i64 x41, .int .i64 x42, .int .i64 x43, .slice x44.base x44.len x44.cap], .int .i64 (0 : Int)]) vh18)))))
theorem frame_Decode_vc {p : Sl} {h : Hp} {R : Value → Hp → Prop} (H : vcframe_Decode p h R) : HCalls Try.prog fn_frame_Decode #[.slice p.base p.len p.cap] h R :=
  vc_fn (annOf [(0, [(5, .bool)])] []) Try.func29 [.slice p.base p.len p.cap] (by kernel_rfl) (V := vcframe_Decode p h R) (by kernel_rfl) H

def vcscarpref6_Decode (p : Sl) (h : Hp) (R : Value → Hp → Prop) : Prop :=
  let vh := alc h [.int .i64 (0 : Int), .int .i64 (0 : Int), .int .i64 (0 : Int), .int .i64 (0 : Int), .slice Sl.nil.base Sl.nil.len Sl.nil.cap] ty_scarpref6_Block;
  IfB ((p.len : Int) != (64 : Int)) (stCells (nw h) 0 [.int .i64 (0 : Int), .int .i64 (0 : Int), .int .i64 (0 : Int), .int .i64 (0 : Int), .slice Sl.nil.base Sl.nil.len Sl.nil.cap] vh fun vh1 =>
    ∃ x : Int, ∃ x1 : Int, ∃ x2 : Int, ∃ x3 : Int, ∃ x4 : Sl, hcell vh1 ((nw h)) = some (.int .i64 x) ∧ hcell vh1 ((nw h).add 1) = some (.int .i64 x1) ∧ hcell vh1 ((nw h).add 2) = some (.int .i64 x2) ∧ hcell vh1 ((nw h).add 3) = some (.int .i64 x3) ∧ hcell vh1 ((nw h).add 4) = some (.slice x4.base x4.len x4.cap) ∧
    R (.tuple #[.agg #[.int .i64 x, .int .i64 x1, .int .i64 x2, .int .i64 x3, .slice x4.base x4.len x4.cap], .int .i64 (3 : Int)]) vh1)
  (0 ≤ (2 : Int) ∧ (2 : Int) ≤ (p.len : Int) ∧ (p.len : Int) ≤ (p.cap : Int) ∧ (p.cap : Int) ≤ (p.cap : Int) ∧
    HCalls Try.prog fn_scarpref6_Get #[.slice (cutSl p (2 : Int) (p.len : Int) (p.cap : Int) 1).base (cutSl p (2 : Int) (p.len : Int) (p.cap : Int) 1).len (cutSl p (2 : Int) (p.len : Int) (p.cap : Int) 1).cap, .int .i64 (4 : Int)] vh fun r vh2 =>
    ∃ c : Int, ∃ c1 : Bool, r = .tuple #[.int .u64 c, .bool c1] ∧
    0 ≤ (6 : Int) ∧ (6 : Int) ≤ (p.len : Int) ∧ (p.len : Int) ≤ (p.cap : Int) ∧ (p.cap : Int) ≤ (p.cap : Int) ∧
    HCalls Try.prog fn_scarpref6_Get #[.slice (cutSl p (6 : Int) (p.len : Int) (p.cap : Int) 1).base (cutSl p (6 : Int) (p.len : Int) (p.cap : Int) 1).len (cutSl p (6 : Int) (p.len : Int) (p.cap : Int) 1).cap, .int .i64 (8 : Int)] vh2 fun r1 vh3 =>
    ∃ c2 : Int, ∃ c3 : Bool, r1 = .tuple #[.int .u64 c2, .bool c3] ∧
    0 ≤ (14 : Int) ∧ (14 : Int) ≤ (p.len : Int) ∧ (p.len : Int) ≤ (p.cap : Int) ∧ (p.cap : Int) ≤ (p.cap : Int) ∧
    HCalls Try.prog fn_scarpref6_Get #[.slice (cutSl p (14 : Int) (p.len : Int) (p.cap : Int) 1).base (cutSl p (14 : Int) (p.len : Int) (p.cap : Int) 1).len (cutSl p (14 : Int) (p.len : Int) (p.cap : Int) 1).cap, .int .i64 (4 : Int)] vh3 fun r2 vh4 =>
    ∃ c4 : Int, ∃ c5 : Bool, r2 = .tuple #[.int .u64 c4, .bool c5] ∧
    ∃ a : Addr, p.base = some a ∧ 0 ≤ (1 : Int) ∧ (1 : Int) < (p.len : Int) ∧
    ∃ c6 : Int, hcell vh4 (a.add (((1 : Int)).toNat * 1)) = some (.int .u8 c6) ∧
    IfB (decide (c2 > (1099511627776 : Int))) (stCells (nw h) 0 [.int .i64 (0 : Int), .int .i64 (0 : Int), .int .i64 (0 : Int), .int .i64 (0 : Int), .slice Sl.nil.base Sl.nil.len Sl.nil.cap] vh4 fun vh5 =>
      ∃ x5 : Int, ∃ x6 : Int, ∃ x7 : Int, ∃ x8 : Int, ∃ x9 : Sl, hcell vh5 ((nw h)) = some (.int .i64 x5) ∧ hcell vh5 ((nw h).add 1) = some (.int .i64 x6) ∧ hcell vh5 ((nw h).add 2) = some (.int .i64 x7) ∧ hcell vh5 ((nw h).add 3) = some (.int .i64 x8) ∧ hcell vh5 ((nw h).add 4) = some (.slice x9.base x9.len x9.cap) ∧
      R (.tuple #[.agg #[.int .i64 x5, .int .i64 x6, .int .i64 x7, .int .i64 x8, .slice x9.base x9.len x9.cap], .int .i64 (13 : Int)]) vh5)
    (IfB (decide (c4 > (1048576 : Int))) (stCells (nw h) 0 [.int .i64 (0 : Int), .int .i64 (0 : Int), .int .i64 (0 : Int), .int .i64 (0 : Int), .slice Sl.nil.base Sl.nil.len Sl.nil.cap] vh4 fun vh6 =>
        ∃ x10 : Int, ∃ x11 : Int, ∃ x12 : Int, ∃ x13 : Int, ∃ x14 : Sl, hcell vh6 ((nw h)) = some (.int .i64 x10) ∧ hcell vh6 ((nw h).add 1) = some (.int .i64 x11) ∧ hcell vh6 ((nw h).add 2) = some (.int .i64 x12) ∧ hcell vh6 ((nw h).add 3) = some (.int .i64 x13) ∧ hcell vh6 ((nw h).add 4) = some (.slice x14.base x14.len x14.cap) ∧
        R (.tuple #[.agg #[.int .i64 x10, .int .i64 x11, .int .i64 x12, .int .i64 x13, .slice x14.base x14.len x14.cap], .int .i64 (13 : Int)]) vh6)
      (IfB (decide ((iConv .i64 c6) > (40 : Int))) (stCells (nw h) 0 [.int .i64 (0 : Int), .int .i64 (0 : Int), .int .i64 (0 : Int), .int .i64 (0 : Int), .slice Sl.nil.base Sl.nil.len Sl.nil.cap] vh4 fun vh7 =>
          ∃ x15 : Int, ∃ x16 : Int, ∃ x17 : Int, ∃ x18 : Int, ∃ x19 : Sl, hcell vh7 ((nw h)) = some (.int .i64 x15) ∧ hcell vh7 ((nw h).add 1) = some (.int .i64 x16) ∧ hcell vh7 ((nw h).add 2) = some (.int .i64 x17) ∧ hcell vh7 ((nw h).add 3) = some (.int .i64 x18) ∧ hcell vh7 ((nw h).add 4) = some (.slice x19.base x19.len x19.cap) ∧
          R (.tuple #[.agg #[.int .i64 x15, .int .i64 x16, .int .i64 x17, .int .i64 x18, .slice x19.base x19.len x19.cap], .int .i64 (13 : Int)]) vh7)
        (∃ a1 : Addr, p.base = some a1 ∧ 0 ≤ (0 : Int) ∧ (0 : Int) < (p.len : Int) ∧
          ∃ c7 : Int, hcell vh4 (a1.add (((0 : Int)).toNat * 1)) = some (.int .u8 c7) ∧
          0 ≤ (18 : Int) ∧ (18 : Int) ≤ (iAdd .i64 (18 : Int) (iConv .i64 c6)) ∧ (iAdd .i64 (18 : Int) (iConv .i64 c6)) ≤ (p.cap : Int) ∧ (p.cap : Int) ≤ (p.cap : Int) ∧
          (let vh8 := alc vh4 [] ty_uint8;
            Ext vh4 vh8 ∧
            (AppC ty_uint8 1 1 #[.int .u8 (0 : Int)] (Sl.mk (some (nw vh4)) 0 0) (cutSl p (18 : Int) (iAdd .i64 (18 : Int) (iConv .i64 c6)) (p.cap : Int) 1) vh8 fun s vh9 =>
              Ext vh4 vh9 ∧
              let vh10 := alc vh9 [.int .i64 (0 : Int), .int .i64 (0 : Int), .int .i64 (0 : Int), .int .i64 (0 : Int), .slice Sl.nil.base Sl.nil.len Sl.nil.cap] ty_scarpref6_Block;
              Ext vh4 vh10 ∧
              stCells (nw vh9) 0 [.int .i64 (iConv .i64 c7), .int .i64 (iConv .i64 c), .int .i64 (iConv .i64 c2), .int .i64 (iConv .i64 c4), .slice s.base s.len s.cap] vh10 fun vh11 =>
              ∃ c8 : Int, ∃ c9 : Int, ∃ c10 : Int, ∃ c11 : Int, ∃ c12 : Sl, hcell vh11 ((nw vh9)) = some (.int .i64 c8) ∧ hcell vh11 ((nw vh9).add 1) = some (.int .i64 c9) ∧ hcell vh11 ((nw vh9).add 2) = some (.int .i64 c10) ∧ hcell vh11 ((nw vh9).add 3) = some (.int .i64 c11) ∧ hcell vh11 ((nw vh9).add 4) = some (.slice c12.base c12.len c12.cap) ∧
              HCalls Try.prog fn_scarpref6_Encode #[.agg #[.int .i64 c8, .int .i64 c9, .int .i64 c10, .int .i64 c11, .slice c12.base c12.len c12.cap]] vh11 fun r3 vh12 =>
              ∃ c13 : Sl, ∃ c14 : Int, r3 = .tuple #[.slice c13.base c13.len c13.cap, .int .i64 c14] ∧
              IfB (c14 != (0 : Int)) (stCells (nw h) 0 [.int .i64 (0 : Int), .int .i64 (0 : Int), .int .i64 (0 : Int), .int .i64 (0 : Int), .slice Sl.nil.base Sl.nil.len Sl.nil.cap] vh12 fun vh13 =>
                ∃ x20 : Int, ∃ x21 : Int, ∃ x22 : Int, ∃ x23 : Int, ∃ x24 : Sl, hcell vh13 ((nw h)) = some (.int .i64 x20) ∧ hcell vh13 ((nw h).add 1) = some (.int .i64 x21) ∧ hcell vh13 ((nw h).add 2) = some (.int .i64 x22) ∧ hcell vh13 ((nw h).add 3) = some (.int .i64 x23) ∧ hcell vh13 ((nw h).add 4) = some (.slice x24.base x24.len x24.cap) ∧
                R (.tuple #[.agg #[.int .i64 x20, .int .i64 x21, .int .i64 x22, .int .i64 x23, .slice x24.base x24.len x24.cap], .int .i64 (13 : Int)]) vh13)
              (∃ bs : List UInt8, bs.length = c13.len ∧ RdC vh12 c13.base (bs.map fun x => .int .u8 (x.toNat : Int)) ∧
                ∃ bs1 : List UInt8, bs1.length = p.len ∧ RdC vh12 p.base (bs1.map fun x => .int .u8 (x.toNat : Int)) ∧
                IfB (!((ByteArray.mk bs.toArray).toList == (ByteArray.mk bs1.toArray).toList)) (stCells (nw h) 0 [.int .i64 (0 : Int), .int .i64 (0 : Int), .int .i64 (0 : Int), .int .i64 (0 : Int), .slice Sl.nil.base Sl.nil.len Sl.nil.cap] vh12 fun vh14 =>
                  ∃ x25 : Int, ∃ x26 : Int, ∃ x27 : Int, ∃ x28 : Int, ∃ x29 : Sl, hcell vh14 ((nw h)) = some (.int .i64 x25) ∧ hcell vh14 ((nw h).add 1) = some (.int .i64 x26) ∧ hcell vh14 ((nw h).add 2) = some (.int .i64 x27) ∧ hcell vh14 ((nw h).add 3) = some (.int .i64 x28) ∧ hcell vh14 ((nw h).add 4) = some (.slice x29.base x29.len x29.cap) ∧
                  R (.tuple #[.agg #[.int .i64 x25, .int .i64 x26, .int .i64 x27, .int .i64 x28, .slice x29.base x29.len x29.cap], .int .i64 (13 : Int)]) vh14)
                (∃ c15 : Int, ∃ c16 : Int, ∃ c17 : Int, ∃ c18 : Int, ∃ c19 : Sl, hcell vh12 ((nw vh9)) = some (.int .i64 c15) ∧ hcell vh12 ((nw vh9).add 1) = some (.int .i64 c16) ∧ hcell vh12 ((nw vh9).add 2) = some (.int .i64 c17) ∧ hcell vh12 ((nw vh9).add 3) = some (.int .i64 c18) ∧ hcell vh12 ((nw vh9).add 4) = some (.slice c19.base c19.len c19.cap) ∧
                  stCells (nw h) 0 [.int .i64 c15, .int .i64 c16, .int .i64 c17, .int .i64 c18, .slice c19.base c19.len c19.cap] vh12 fun vh15 =>
                  ∃ x30 : Int, ∃ x31 : Int, ∃ x32 : Int, ∃ x33 : Int, ∃ x34 : Sl, hcell vh15 ((nw h)) = some (.int .i64 x30) ∧ hcell vh15 ((nw h).add 1) = some (.int .i64 x31) ∧ hcell vh15 ((nw h).add 2) = some (.int .i64 x32) ∧ hcell vh15 ((nw h).add 3) = some (.int .i64 x33) ∧ hcell vh15 ((nw h).add 4) = some (.slice x34.base x34.len x34.cap) ∧
                  R (.tuple #[.agg #[.int .i64 x30, .int .i64 x31, .int .i64 x32, .int .i64 x33, .slice x34.base x34.len x34.cap], .int .i64 (0 : Int)]) vh15))) ∧
            (let vh16 := alc vh8 [.int .i64 (0 : Int), .int .i64 (0 : Int), .int .i64 (0 : Int), .int .i64 (0 : Int), .slice Sl.nil.base Sl.nil.len Sl.nil.cap] ty_scarpref6_Block;
              Ext vh4 vh16 ∧
              AppC ty_uint8 1 1 #[.int .u8 (0 : Int)] (Sl.mk (some (nw vh4)) 0 0) (cutSl p (18 : Int) (iAdd .i64 (18 : Int) (iConv .i64 c6)) (p.cap : Int) 1) vh16 fun s1 vh17 =>
              Ext vh4 vh17 ∧
              stCells (nw vh8) 0 [.int .i64 (iConv .i64 c7), .int .i64 (iConv .i64 c), .int .i64 (iConv .i64 c2), .int .i64 (iConv .i64 c4), .slice s1.base s1.len s1.cap] vh17 fun vh18 =>
              ∃ c20 : Int, ∃ c21 : Int, ∃ c22 : Int, ∃ c23 : Int, ∃ c24 : Sl, hcell vh18 ((nw vh8)) = some (.int .i64 c20) ∧ hcell vh18 ((nw vh8).add 1) = some (.int .i64 c21) ∧ hcell vh18 ((nw vh8).add 2) = some (.int .i64 c22) ∧ hcell vh18 ((nw vh8).add 3) = some (.int .i64 c23) ∧ hcell vh18 ((nw vh8).add 4) = some (.slice c24.base c24.len c24.cap) ∧
              HCalls Try.prog fn_scarpref6_Encode #[.agg #[.int .i64 c20, .int .i64 c21, .int .i64 c22, .int .i64 c23, .slice c24.base c24.len c24.cap]] vh18 fun r4 vh19 =>
              ∃ c25 : Sl, ∃ c26 : Int, r4 = .tuple #[.slice c25.base c25.len c25.cap, .int .i64 c26] ∧
              IfB (c26 != (0 : Int)) (stCells (nw h) 0 [.int .i64 (0 : Int), .int .i64 (0 : Int), .int .i64 (0 : Int), .int .i64 (0 : Int), .slice Sl.nil.base Sl.nil.len Sl.nil.cap] vh19 fun vh20 =>
                ∃ x35 : Int, ∃ x36 : Int, ∃ x37 : Int, ∃ x38 : Int, ∃ x39 : Sl, hcell vh20 ((nw h)) = some (.int .i64 x35) ∧ hcell vh20 ((nw h).add 1) = some (.int .i64 x36) ∧ hcell vh20 ((nw h).add 2) = some (.int .i64 x37) ∧ hcell vh20 ((nw h).add 3) = some (.int .i64 x38) ∧ hcell vh20 ((nw h).add 4) = some (.slice x39.base x39.len x39.cap) ∧
                R (.tuple #[.agg #[.int .i64 x35, .int .i64 x36, .int .i64 x37, .int .i64 x38, .slice x39.base x39.len x39.cap], .int .i64 (13 : Int)]) vh20)
              (∃ bs2 : List UInt8, bs2.length = c25.len ∧ RdC vh19 c25.base (bs2.map fun x => .int .u8 (x.toNat : Int)) ∧
                ∃ bs3 : List UInt8, bs3.length = p.len ∧ RdC vh19 p.base (bs3.map fun x => .int .u8 (x.toNat : Int)) ∧
                IfB (!((ByteArray.mk bs2.toArray).toList == (ByteArray.mk bs3.toArray).toList)) (stCells (nw h) 0 [.int .i64 (0 : Int), .int .i64 (0 : Int), .int .i64 (0 : Int), .int .i64 (0 : Int), .slice Sl.nil.base Sl.nil.len Sl.nil.cap] vh19 fun vh21 =>
                  ∃ x40 : Int, ∃ x41 : Int, ∃ x42 : Int, ∃ x43 : Int, ∃ x44 : Sl, hcell vh21 ((nw h)) = some (.int .i64 x40) ∧ hcell vh21 ((nw h).add 1) = some (.int .i64 x41) ∧ hcell vh21 ((nw h).add 2) = some (.int .i64 x42) ∧ hcell vh21 ((nw h).add 3) = some (.int .i64 x43) ∧ hcell vh21 ((nw h).add 4) = some (.slice x44.base x44.len x44.cap) ∧
                  R (.tuple #[.agg #[.int .i64 x40, .int .i64 x41, .int .i64 x42, .int .i64 x43, .slice x44.base x44.len x44.cap], .int .i64 (13 : Int)]) vh21)
                (∃ c27 : Int, ∃ c28 : Int, ∃ c29 : Int, ∃ c30 : Int, ∃ c31 : Sl, hcell vh19 ((nw vh8)) = some (.int .i64 c27) ∧ hcell vh19 ((nw vh8).add 1) = some (.int .i64 c28) ∧ hcell vh19 ((nw vh8).add 2) = some (.int .i64 c29) ∧ hcell vh19 ((nw vh8).add 3) = some (.int .i64 c30) ∧ hcell vh19 ((nw vh8).add 4) = some (.slice c31.base c31.len c31.cap) ∧
                  stCells (nw h) 0 [.int .i64 c27, .int .i64 c28, .int .i64 c29, .int .i64 c30, .slice c31.base c31.len c31.cap] vh19 fun vh22 =>
                  ∃ x45 : Int, ∃ x46 : Int, ∃ x47 : Int, ∃ x48 : Int, ∃ x49 : Sl, hcell vh22 ((nw h)) = some (.int .i64 x45) ∧ hcell vh22 ((nw h).add 1) = some (.int .i64 x46) ∧ hcell vh22 ((nw h).add 2) = some (.int .i64 x47) ∧ hcell vh22 ((nw h).add 3) = some (.int .i64 x48) ∧ hcell vh22 ((nw h).add 4) = some (.slice x49.base x49.len x49.cap) ∧
                  R (.tuple #[.agg #[.int .i64 x45, .int .i64 x46, .int .i64 x47, .int .i64 x48, .slice x49.base x49.len x49.cap], .int .i64 (0 : Int)]) vh22)))) ∧
          (let vh23 := alc vh4 [.int .i64 (0 : Int), .int .i64 (0 : Int), .int .i64 (0 : Int), .int .i64 (0 : Int), .slice Sl.nil.base Sl.nil.len Sl.nil.cap] ty_scarpref6_Block;
            Ext vh4 vh23 ∧
            let vh24 := alc vh23 [] ty_uint8;
            Ext vh4 vh24 ∧
            AppC ty_uint8 1 1 #[.int .u8 (0 : Int)] (Sl.mk (some (nw vh23)) 0 0) (cutSl p (18 : Int) (iAdd .i64 (18 : Int) (iConv .i64 c6)) (p.cap : Int) 1) vh24 fun s2 vh25 =>
            Ext vh4 vh25 ∧
            stCells (nw vh4) 0 [.int .i64 (iConv .i64 c7), .int .i64 (iConv .i64 c), .int .i64 (iConv .i64 c2), .int .i64 (iConv .i64 c4), .slice s2.base s2.len s2.cap] vh25 fun vh26 =>
            ∃ c32 : Int, ∃ c33 : Int, ∃ c34 : Int, ∃ c35 : Int, ∃ c36 : Sl, hcell vh26 ((nw vh4)) = some (.int .i64 c32) ∧ hcell vh26 ((nw vh4).add 1) = some (.int .i64 c33) ∧ hcell vh26 ((nw vh4).add 2) = some (.int .i64 c34) ∧ hcell vh26 ((nw vh4).add 3) = some (.int .i64 c35) ∧ hcell vh26 ((nw vh4).add 4) = some (.slice c36.base c36.len c36.cap) ∧
            HCalls Try.prog fn_scarpref6_Encode #[.agg #[.int .i64 c32, .int .i64 c33, .int .i64 c34, .int .i64 c35, .slice c36.base c36.len c36.cap]] vh26 fun r5 vh27 =>
            ∃ c37 : Sl, ∃ c38 : Int, r5 = .tuple #[.slice c37.base c37.len c37.cap, .int .i64 c38] ∧
            IfB (c38 != (0 : Int)) (stCells (nw h) 0 [.int .i64 (0 : Int), .int .i64 (0 : Int), .int .i64 (0 : Int), .int .i64 (0 : Int), .slice Sl.nil.base Sl.nil.len Sl.nil.cap] vh27 fun vh28 =>
              ∃ x50 : Int, ∃ x51 : Int, ∃ x52 : Int, ∃ x53 : Int, ∃ x54 : Sl, hcell vh28 ((nw h)) = some (.int .i64 x50) ∧ hcell vh28 ((nw h).add 1) = some (.int .i64 x51) ∧ hcell vh28 ((nw h).add 2) = some (.int .i64 x52) ∧ hcell vh28 ((nw h).add 3) = some (.int .i64 x53) ∧ hcell vh28 ((nw h).add 4) = some (.slice x54.base x54.len x54.cap) ∧
              R (.tuple #[.agg #[.int .i64 x50, .int .i64 x51, .int .i64 x52, .int .i64 x53, .slice x54.base x54.len x54.cap], .int .i64 (13 : Int)]) vh28)
            (∃ bs4 : List UInt8, bs4.length = c37.len ∧ RdC vh27 c37.base (bs4.map fun x => .int .u8 (x.toNat : Int)) ∧
              ∃ bs5 : List UInt8, bs5.length = p.len ∧ RdC vh27 p.base (bs5.map fun x => .int .u8 (x.toNat : Int)) ∧
              IfB (!((ByteArray.mk bs4.toArray).toList == (ByteArray.mk bs5.toArray).toList)) (stCells (nw h) 0 [.int .i64 (0 : Int), .int .i64 (0 : Int), .int .i64 (0 : Int), .int .i64 (0 : Int), .slice Sl.nil.base Sl.nil.len Sl.nil.cap] vh27 fun vh29 =>
                ∃ x55 : Int, ∃ x56 : Int, ∃ x57 : Int, ∃ x58 : Int, ∃ x59 : Sl, hcell vh29 ((nw h)) = some (.int .i64 x55) ∧ hcell vh29 ((nw h).add 1) = some (.int .i64 x56) ∧ hcell vh29 ((nw h).add 2) = some (.int .i64 x57) ∧ hcell vh29 ((nw h).add 3) = some (.int .i64 x58) ∧ hcell vh29 ((nw h).add 4) = some (.slice x59.base x59.len x59.cap) ∧
                R (.tuple #[.agg #[.int .i64 x55, .int .i64 x56, .int .i64 x57, .int .i64 x58, .slice x59.base x59.len x59.cap], .int .i64 (13 : Int)]) vh29)
              (∃ c39 : Int, ∃ c40 : Int, ∃ c41 : Int, ∃ c42 : Int, ∃ c43 : Sl, hcell vh27 ((nw vh4)) = some (.int .i64 c39) ∧ hcell vh27 ((nw vh4).add 1) = some (.int .i64 c40) ∧ hcell vh27 ((nw vh4).add 2) = some (.int .i64 c41) ∧ hcell vh27 ((nw vh4).add 3) = some (.int .i64 c42) ∧ hcell vh27 ((nw vh4).add 4) = some (.slice c43.base c43.len c43.cap) ∧
                stCells (nw h) 0 [.int .i64 c39, .int .i64 c40, .int .i64 c41, .int .i64 c42, .slice c43.base c43.len c43.cap] vh27 fun vh30 =>
                ∃ x60 : Int, ∃ x61 : Int, ∃ x62 : Int, ∃ x63 : Int, ∃ x64 : Sl, hcell vh30 ((nw h)) = some (.int .i64 x60) ∧ hcell vh30 ((nw h).add 1) = some (.int .i64 x61) ∧ hcell vh30 ((nw h).add 2) = some (.int .i64 x62) ∧ hcell vh30 ((nw h).add 3) = some (.int .i64 x63) ∧ hcell vh30 ((nw h).add 4) = some (.slice x64.base x64.len x64.cap) ∧
                R (.tuple #[.agg #[.int .i64 x60, .int .i64 x61, .int .i64 x62, .int .i64 x63, .slice x64.base x64.len x64.cap], .int .i64 (0 : Int)]) vh30)))))))
theorem scarpref6_Decode_vc {p : Sl} {h : Hp} {R : Value → Hp → Prop} (H : vcscarpref6_Decode p h R) : HCalls Try.prog fn_scarpref6_Decode #[.slice p.base p.len p.cap] h R :=
  vc_fn (annOf [] []) Try.func30 [.slice p.base p.len p.cap] (by kernel_rfl) (V := vcscarpref6_Decode p h R) (by kernel_rfl) H

def vczdev_Dev_Off (d : Option Addr) (h : Hp) (R : Value → Hp → Prop) : Prop :=
  HCalls Try.prog fn_zdev_Dev_gone #[.pointer d] h fun r vh =>
  ∃ c : Bool, r = .bool c ∧
  IfB c (R (.bool true) vh)
  (∃ a : Addr, d = some a ∧
    ∃ c1 : Bool, hcell vh (a.add 7) = some (.bool c1) ∧
    R (.bool c1) vh)
theorem zdev_Dev_Off_vc {d : Option Addr} {h : Hp} {R : Value → Hp → Prop} (H : vczdev_Dev_Off d h R) : HCalls Try.prog fn_zdev_Dev_Off #[.pointer d] h R :=
  vc_fn (annOf [] []) Try.func31 [.pointer d] (by kernel_rfl) (V := vczdev_Dev_Off d h R) (by kernel_rfl) H

def vczdev_Dev_Copy (d : Option Addr) (h : Hp) (R : Value → Hp → Prop) : Prop :=
  HCalls Try.prog fn_zdev_Dev_gone #[.pointer d] h fun r vh =>
  ∃ c : Bool, r = .bool c ∧
  IfB c (R (.pointer none) vh)
  (∃ a : Addr, d = some a ∧
    ∃ c1 : Int, ∃ c2 : Int, ∃ c3 : Sl, ∃ c4 : Int, ∃ c5 : Int, ∃ c6 : Bool, ∃ c7 : Int, ∃ c8 : Bool, hcell vh (a) = some (.int .i64 c1) ∧ hcell vh (a.add 1) = some (.int .i64 c2) ∧ hcell vh (a.add 2) = some (.slice c3.base c3.len c3.cap) ∧ hcell vh (a.add 3) = some (.int .i64 c4) ∧ hcell vh (a.add 4) = some (.int .i64 c5) ∧ hcell vh (a.add 5) = some (.bool c6) ∧ hcell vh (a.add 6) = some (.int .i64 c7) ∧ hcell vh (a.add 7) = some (.bool c8) ∧
    let vh1 := alc vh [.int .i64 (0 : Int), .int .i64 (0 : Int), .slice Sl.nil.base Sl.nil.len Sl.nil.cap, .int .i64 (0 : Int), .int .i64 (0 : Int), .bool false, .int .i64 (0 : Int), .bool false] ty_zdev_Dev;
    stCells (nw vh) 0 [.int .i64 c1, .int .i64 c2, .slice c3.base c3.len c3.cap, .int .i64 c4, .int .i64 c5, .bool c6, .int .i64 c7, .bool c8] vh1 fun vh2 =>
    StOk vh2 ((nw vh).add 2) ∧
    Lt (hset vh2 ((nw vh).add 2) (.slice Sl.nil.base Sl.nil.len Sl.nil.cap)) fun vh3 =>
    ∃ a1 : Addr, d = some a1 ∧
    ∃ c9 : Sl, hcell vh3 (a1.add 2) = some (.slice c9.base c9.len c9.cap) ∧
    ∃ (vI : Int → Nat → Hp → Prop) (n : Nat), vI (0 : Int) n vh3 ∧
    ∀ _junk : Nat → Value, ∀ t17 : Int, ∀ (n1 : Nat) (vh4 : Hp), vI t17 n1 vh4 →
    IfB (decide (t17 < (c9.len : Int))) (∃ a2 : Addr, c9.base = some a2 ∧ 0 ≤ t17 ∧ t17 < (c9.len : Int) ∧
      ∃ c10 : Option Addr, hcell vh4 (a2.add ((t17).toNat * 1)) = some (.pointer c10) ∧
      ∃ c11 : Sl, hcell vh4 ((nw vh).add 2) = some (.slice c11.base c11.len c11.cap) ∧
      ∃ a3 : Addr, c10 = some a3 ∧
      ∃ c12 : Sl, hcell vh4 a3 = some (.slice c12.base c12.len c12.cap) ∧
      ∃ a4 : Addr, c10 = some a4 ∧
      ∃ c13 : Int, hcell vh4 (a4.add 1) = some (.int .i64 c13) ∧
      HCalls Try.prog fn_zdev_own #[.slice c12.base c12.len c12.cap] vh4 fun r1 vh5 =>
      ∃ c14 : Sl, r1 = .slice c14.base c14.len c14.cap ∧
      Ext vh4 vh5 ∧
      let vh6 := alc vh5 [.slice c14.base c14.len c14.cap, .int .i64 c13] ty_zdev_zone;
      Ext vh4 vh6 ∧
      let vh7 := alc vh6 [.pointer (some (nw vh5))] ty_pzdev_zone;
      Ext vh4 vh7 ∧
      AppC ty_pzdev_zone 1 8 #[.pointer none] c11 (Sl.mk (some (nw vh6)) 1 1) vh7 fun s vh8 =>
      StOk vh8 ((nw vh).add 2) ∧
      Lt (hset vh8 ((nw vh).add 2) (.slice s.base s.len s.cap)) fun vh9 =>
      ∃ n2, n2 < n1 ∧ vI (iAdd .i64 t17 (1 : Int)) n2 vh9)
    (R (.pointer (some (nw vh))) vh4))
theorem zdev_Dev_Copy_vc {d : Option Addr} {h : Hp} {R : Value → Hp → Prop} (H : vczdev_Dev_Copy d h R) : HCalls Try.prog fn_zdev_Dev_Copy #[.pointer d] h R :=
  vc_fn (annOf [(0, [(17, .int .i64)])] []) Try.func33 [.pointer d] (by kernel_rfl) (V := vczdev_Dev_Copy d h R) (by kernel_rfl) H

def vczdev_Dev_Geometry (d : Option Addr) (h : Hp) (R : Value → Hp → Prop) : Prop :=
  let vh := alc h [.int .i64 (0 : Int), .int .i64 (0 : Int)] ty_api_Geometry;
  HCalls Try.prog fn_zdev_Dev_gone #[.pointer d] vh fun r vh1 =>
  ∃ c : Bool, r = .bool c ∧
  IfB c (stCells (nw h) 0 [.int .i64 (0 : Int), .int .i64 (0 : Int)] vh1 fun vh2 =>
    ∃ x : Int, ∃ x1 : Int, hcell vh2 ((nw h)) = some (.int .i64 x) ∧ hcell vh2 ((nw h).add 1) = some (.int .i64 x1) ∧
    R (.agg #[.int .i64 x, .int .i64 x1]) vh2)
  (∃ a : Addr, d = some a ∧
    ∃ c1 : Int, ∃ c2 : Int, hcell vh1 (a) = some (.int .i64 c1) ∧ hcell vh1 (a.add 1) = some (.int .i64 c2) ∧
    stCells (nw h) 0 [.int .i64 c1, .int .i64 c2] vh1 fun vh3 =>
    ∃ x2 : Int, ∃ x3 : Int, hcell vh3 ((nw h)) = some (.int .i64 x2) ∧ hcell vh3 ((nw h).add 1) = some (.int .i64 x3) ∧
    R (.agg #[.int .i64 x2, .int .i64 x3]) vh3)
theorem zdev_Dev_Geometry_vc {d : Option Addr} {h : Hp} {R : Value → Hp → Prop} (H : vczdev_Dev_Geometry d h R) : HCalls Try.prog fn_zdev_Dev_Geometry #[.pointer d] h R :=
  vc_fn (annOf [] []) Try.func34 [.pointer d] (by kernel_rfl) (V := vczdev_Dev_Geometry d h R) (by kernel_rfl) H

def vczdev_Dev_Flush (d : Option Addr) (h : Hp) (R : Value → Hp → Prop) : Prop :=
  HCalls Try.prog fn_zdev_Dev_gone #[.pointer d] h fun r vh =>
  ∃ c : Bool, r = .bool c ∧
  IfB c (R (.int .i64 (1 : Int)) vh)
  (HCalls Try.prog fn_zdev_Dev_begin #[.pointer d] vh fun r1 vh1 =>
    ∃ c1 : Bool, r1 = .bool c1 ∧
    IfB (!c1) (R (.int .i64 (12 : Int)) vh1)
    (∃ a : Addr, d = some a ∧
      ∃ c2 : Sl, hcell vh1 (a.add 2) = some (.slice c2.base c2.len c2.cap) ∧
      ∃ (vI : Int → Nat → Hp → Prop) (n : Nat), vI (0 : Int) n vh1 ∧
      ∀ _junk : Nat → Value, ∀ t17 : Int, ∀ (n1 : Nat) (vh2 : Hp), vI t17 n1 vh2 →
      IfB (decide (t17 < (c2.len : Int))) (∃ a1 : Addr, c2.base = some a1 ∧ 0 ≤ t17 ∧ t17 < (c2.len : Int) ∧
        ∃ c3 : Option Addr, hcell vh2 (a1.add ((t17).toNat * 1)) = some (.pointer c3) ∧
        ∃ a2 : Addr, c3 = some a2 ∧
        ∃ c4 : Sl, hcell vh2 a2 = some (.slice c4.base c4.len c4.cap) ∧
        ∃ a3 : Addr, c3 = some a3 ∧
        StOk vh2 (a3.add 1) ∧
        Lt (hset vh2 (a3.add 1) (.int .i64 (c4.len : Int))) fun vh3 =>
        ∃ n2, n2 < n1 ∧ vI (iAdd .i64 t17 (1 : Int)) n2 vh3)
      (R (.int .i64 (0 : Int)) vh2)))
theorem zdev_Dev_Flush_vc {d : Option Addr} {h : Hp} {R : Value → Hp → Prop} (H : vczdev_Dev_Flush d h R) : HCalls Try.prog fn_zdev_Dev_Flush #[.pointer d] h R :=
  vc_fn (annOf [(0, [(17, .int .i64)])] []) Try.func35 [.pointer d] (by kernel_rfl) (V := vczdev_Dev_Flush d h R) (by kernel_rfl) H

def vczdev_Dev_Cut (d : Option Addr) (n : Int) (h : Hp) (R : Value → Hp → Prop) : Prop :=
  HCalls Try.prog fn_zdev_Dev_gone #[.pointer d] h fun r vh =>
  ∃ c : Bool, r = .bool c ∧
  IfB (!c) (∃ a : Addr, d = some a ∧
    StOk vh (a.add 5) ∧
    Lt (hset vh (a.add 5) (.bool true)) fun vh1 =>
    ∃ a1 : Addr, d = some a1 ∧
    StOk vh1 (a1.add 6) ∧
    Lt (hset vh1 (a1.add 6) (.int .i64 (if n < (0 : Int) then (0 : Int) else n))) fun vh2 =>
    R (.tuple #[]) vh2)
  (R (.tuple #[]) vh)
theorem zdev_Dev_Cut_vc {d : Option Addr} {n : Int} {h : Hp} {R : Value → Hp → Prop} (H : vczdev_Dev_Cut d n h R) : HCalls Try.prog fn_zdev_Dev_Cut #[.pointer d, .int .i64 n] h R :=
  vc_fn (annOf [] []) Try.func36 [.pointer d, .int .i64 n] (by kernel_rfl) (V := vczdev_Dev_Cut d n h R) (by kernel_rfl) H

def vcframe_within (n : Int) (low : Int) (high : Int) (h : Hp) (R : Value → Hp → Prop) : Prop :=
  IfB (decide (low ≤ n)) (R (.bool (decide (n ≤ high))) h)
  (R (.bool false) h)
theorem frame_within_vc {n : Int} {low : Int} {high : Int} {h : Hp} {R : Value → Hp → Prop} (H : vcframe_within n low high h R) : HCalls Try.prog fn_frame_within #[.int .i64 n, .int .i64 low, .int .i64 high] h R :=
  vc_fn (annOf [] []) Try.func37 [.int .i64 n, .int .i64 low, .int .i64 high] (by kernel_rfl) (V := vcframe_within n low high h R) (by kernel_rfl) H

def vcslices_Concat_sbytebyte (slices : Sl) (h : Hp) (R : Value → Hp → Prop) : Prop :=
  ∃ (vI : Int → Int → Nat → Hp → Prop) (n : Nat), vI (0 : Int) (0 : Int) n h ∧
  ∀ _junk : Nat → Value, ∀ size : Int, ∀ t11 : Int, ∀ (n1 : Nat) (vh : Hp), vI size t11 n1 vh →
  IfB (decide (t11 < (slices.len : Int))) (∃ a : Addr, slices.base = some a ∧ 0 ≤ t11 ∧ t11 < (slices.len : Int) ∧
    ∃ c : Sl, hcell vh (a.add ((t11).toNat * 1)) = some (.slice c.base c.len c.cap) ∧
    IfB (decide ((iAdd .i64 size (c.len : Int)) < (0 : Int))) (False)
    (∃ n2, n2 < n1 ∧ vI (iAdd .i64 size (c.len : Int)) (iAdd .i64 t11 (1 : Int)) n2 vh))
  (HCalls Try.prog fn_slices_Grow_sbytebyte #[.slice Sl.nil.base Sl.nil.len Sl.nil.cap, .int .i64 size] vh fun r vh1 =>
    ∃ c1 : Sl, r = .slice c1.base c1.len c1.cap ∧
    ∃ (vI1 : Sl → Int → Nat → Hp → Prop) (n3 : Nat), vI1 c1 (0 : Int) n3 vh1 ∧
    ∀ _junk : Nat → Value, ∀ newslice : Sl, ∀ t27 : Int, ∀ (n4 : Nat) (vh2 : Hp), vI1 newslice t27 n4 vh2 →
    IfB (decide (t27 < (slices.len : Int))) (∃ a1 : Addr, slices.base = some a1 ∧ 0 ≤ t27 ∧ t27 < (slices.len : Int) ∧
      ∃ c2 : Sl, hcell vh2 (a1.add ((t27).toNat * 1)) = some (.slice c2.base c2.len c2.cap) ∧
      AppC ty_uint8 1 1 #[.int .u8 (0 : Int)] newslice c2 vh2 fun s vh3 =>
      ∃ n5, n5 < n4 ∧ vI1 s (iAdd .i64 t27 (1 : Int)) n5 vh3)
    (R (.slice newslice.base newslice.len newslice.cap) vh2))
theorem slices_Concat_sbytebyte_vc {slices : Sl} {h : Hp} {R : Value → Hp → Prop} (H : vcslices_Concat_sbytebyte slices h R) : HCalls Try.prog fn_slices_Concat_sbytebyte #[.slice slices.base slices.len slices.cap] h R :=
  vc_fn (annOf [(0, [(3, .int .i64), (11, .int .i64)]), (1, [(6, .sl), (27, .int .i64)])] []) Try.func38 [.slice slices.base slices.len slices.cap] (by kernel_rfl) (V := vcslices_Concat_sbytebyte slices h R) (by kernel_rfl) H

def vcbits_Put32 (v : Int) (h : Hp) (R : Value → Hp → Prop) : Prop :=
  HCalls Try.prog fn_bits_put #[.int .u64 (iConv .u64 v), .int .i64 (4 : Int)] h fun r vh =>
  ∃ c : Sl, r = .slice c.base c.len c.cap ∧
  R (.slice c.base c.len c.cap) vh
theorem bits_Put32_vc {v : Int} {h : Hp} {R : Value → Hp → Prop} (H : vcbits_Put32 v h R) : HCalls Try.prog fn_bits_Put32 #[.int .u32 v] h R :=
  vc_fn (annOf [] []) Try.func39 [.int .u32 v] (by kernel_rfl) (V := vcbits_Put32 v h R) (by kernel_rfl) H

def vcbits_Put64 (v : Int) (h : Hp) (R : Value → Hp → Prop) : Prop :=
  HCalls Try.prog fn_bits_put #[.int .u64 v, .int .i64 (8 : Int)] h fun r vh =>
  ∃ c : Sl, r = .slice c.base c.len c.cap ∧
  R (.slice c.base c.len c.cap) vh
theorem bits_Put64_vc {v : Int} {h : Hp} {R : Value → Hp → Prop} (H : vcbits_Put64 v h R) : HCalls Try.prog fn_bits_Put64 #[.int .u64 v] h R :=
  vc_fn (annOf [] []) Try.func40 [.int .u64 v] (by kernel_rfl) (V := vcbits_Put64 v h R) (by kernel_rfl) H

def vccrc_Of (b : Sl) (h : Hp) (R : Value → Hp → Prop) : Prop :=
  HCalls Try.prog fn_crc_New #[] h fun r vh =>
  ∃ c : Option Addr, r = .pointer c ∧
  HCalls Try.prog fn_crc_Sum_Add #[.pointer c, .slice b.base b.len b.cap] vh fun r1 vh1 =>
  ∃ c1 : Option Addr, r1 = .pointer c1 ∧
  HCalls Try.prog fn_crc_Sum_Value #[.pointer c1] vh1 fun r2 vh2 =>
  ∃ c2 : Int, r2 = .int .u32 c2 ∧
  R (.int .u32 c2) vh2
theorem crc_Of_vc {b : Sl} {h : Hp} {R : Value → Hp → Prop} (H : vccrc_Of b h R) : HCalls Try.prog fn_crc_Of #[.slice b.base b.len b.cap] h R :=
  vc_fn (annOf [] []) Try.func41 [.slice b.base b.len b.cap] (by kernel_rfl) (V := vccrc_Of b h R) (by kernel_rfl) H

def vcslices_ContainsFunc_sbytebyte (s : Sl) (f : Nat) (h : Hp) (R : Value → Hp → Prop) : Prop :=
  HCalls Try.prog fn_slices_IndexFunc_sbytebyte #[.slice s.base s.len s.cap, .func (.func f) #[] #[]] h fun r vh =>
  ∃ c : Int, r = .int .i64 c ∧
  R (.bool (decide (c ≥ (0 : Int)))) vh
theorem slices_ContainsFunc_sbytebyte_vc {s : Sl} {f : Nat} {h : Hp} {R : Value → Hp → Prop} (H : vcslices_ContainsFunc_sbytebyte s f h R) : HCalls Try.prog fn_slices_ContainsFunc_sbytebyte #[.slice s.base s.len s.cap, .func (.func f) #[] #[]] h R :=
  vc_fn (annOf [] []) Try.func42 [.slice s.base s.len s.cap, .func (.func f) #[] #[]] (by kernel_rfl) (V := vcslices_ContainsFunc_sbytebyte s f h R) (by kernel_rfl) H

def vcframe_Plain_1 (c : Int) (h : Hp) (R : Value → Hp → Prop) : Prop :=
  R (.bool (c != (0 : Int))) h
theorem frame_Plain_1_vc {c : Int} {h : Hp} {R : Value → Hp → Prop} (H : vcframe_Plain_1 c h R) : HCalls Try.prog fn_frame_Plain_1 #[.int .u8 c] h R :=
  vc_fn (annOf [] []) Try.func43 [.int .u8 c] (by kernel_rfl) (V := vcframe_Plain_1 c h R) (by kernel_rfl) H

def vczdev_Dev_at (d : Option Addr) (i : Int) (h : Hp) (R : Value → Hp → Prop) : Prop :=
  HCalls Try.prog fn_zdev_Dev_gone #[.pointer d] h fun r vh =>
  ∃ c : Bool, r = .bool c ∧
  IfB c (R (.pointer none) vh)
  (IfB (decide (i < (0 : Int))) (R (.pointer none) vh)
    (∃ a : Addr, d = some a ∧
      ∃ c1 : Sl, hcell vh (a.add 2) = some (.slice c1.base c1.len c1.cap) ∧
      IfB (decide (i ≥ (c1.len : Int))) (R (.pointer none) vh)
      (∃ a1 : Addr, d = some a1 ∧
        ∃ c2 : Sl, hcell vh (a1.add 2) = some (.slice c2.base c2.len c2.cap) ∧
        ∃ a2 : Addr, c2.base = some a2 ∧ 0 ≤ i ∧ i < (c2.len : Int) ∧
        ∃ c3 : Option Addr, hcell vh (a2.add ((i).toNat * 1)) = some (.pointer c3) ∧
        R (.pointer c3) vh)))
theorem zdev_Dev_at_vc {d : Option Addr} {i : Int} {h : Hp} {R : Value → Hp → Prop} (H : vczdev_Dev_at d i h R) : HCalls Try.prog fn_zdev_Dev_at #[.pointer d, .int .i64 i] h R :=
  vc_fn (annOf [] []) Try.func44 [.pointer d, .int .i64 i] (by kernel_rfl) (V := vczdev_Dev_at d i h R) (by kernel_rfl) H

def vcslices_Clone_sbytebyte (s : Sl) (h : Hp) (R : Value → Hp → Prop) : Prop :=
  IfB (isNone? s.base) (R (.slice Sl.nil.base Sl.nil.len Sl.nil.cap) h)
  (let vh := alc h [] ty_uint8;
    AppC ty_uint8 1 1 #[.int .u8 (0 : Int)] (Sl.mk (some (nw h)) 0 0) s vh fun s1 vh1 =>
    R (.slice s1.base s1.len s1.cap) vh1)
theorem slices_Clone_sbytebyte_vc {s : Sl} {h : Hp} {R : Value → Hp → Prop} (H : vcslices_Clone_sbytebyte s h R) : HCalls Try.prog fn_slices_Clone_sbytebyte #[.slice s.base s.len s.cap] h R :=
  vc_fn (annOf [] []) Try.func46 [.slice s.base s.len s.cap] (by kernel_rfl) (V := vcslices_Clone_sbytebyte s h R) (by kernel_rfl) H

def vczdev_Dev_gone (d : Option Addr) (h : Hp) (R : Value → Hp → Prop) : Prop :=
  IfB (isNone? d) (R (.bool true) h)
  (∃ a : Addr, d = some a ∧
    ∃ c : Sl, hcell h (a.add 2) = some (.slice c.base c.len c.cap) ∧
    R (.bool ((c.len : Int) == (0 : Int))) h)
theorem zdev_Dev_gone_vc {d : Option Addr} {h : Hp} {R : Value → Hp → Prop} (H : vczdev_Dev_gone d h R) : HCalls Try.prog fn_zdev_Dev_gone #[.pointer d] h R :=
  vc_fn (annOf [] []) Try.func47 [.pointer d] (by kernel_rfl) (V := vczdev_Dev_gone d h R) (by kernel_rfl) H

def vcscarpref6_Put (v : Int) (n : Int) (h : Hp) (R : Value → Hp → Prop) : Prop :=
  ∃ (vI : Sl → Int → Nat → Hp → Prop) (n1 : Nat), vI Sl.nil (0 : Int) n1 h ∧
  ∀ _junk : Nat → Value, ∀ b : Sl, ∀ i : Int, ∀ (n2 : Nat) (vh : Hp), vI b i n2 vh →
  IfB (decide (i < n)) (0 ≤ (iMul .i64 (8 : Int) i) ∧
    let vh1 := alc vh [.int .u8 (iConv .u8 (iShr .u64 v (iMul .i64 (8 : Int) i)))] ty_uint8;
    AppC ty_uint8 1 1 #[.int .u8 (0 : Int)] b (Sl.mk (some (nw vh)) 1 1) vh1 fun s vh2 =>
    ∃ n3, n3 < n2 ∧ vI s (iAdd .i64 i (1 : Int)) n3 vh2)
  (R (.slice b.base b.len b.cap) vh)
theorem scarpref6_Put_vc {v : Int} {n : Int} {h : Hp} {R : Value → Hp → Prop} (H : vcscarpref6_Put v n h R) : HCalls Try.prog fn_scarpref6_Put #[.int .u64 v, .int .i64 n] h R :=
  vc_fn (annOf [(0, [(5, .sl), (6, .int .i64)])] []) Try.func48 [.int .u64 v, .int .i64 n] (by kernel_rfl) (V := vcscarpref6_Put v n h R) (by kernel_rfl) H

def vcscarpref6_Crc (b : Sl) (h : Hp) (R : Value → Hp → Prop) : Prop :=
  ∃ (vI : Int → Int → Nat → Hp → Prop) (n : Nat), vI (4294967295 : Int) (0 : Int) n h ∧
  ∀ _junk : Nat → Value, ∀ r : Int, ∀ i : Int, ∀ (n1 : Nat) (vh : Hp), vI r i n1 vh →
  IfB (decide (i < (b.len : Int))) (∃ a : Addr, b.base = some a ∧ 0 ≤ i ∧ i < (b.len : Int) ∧
    ∃ c : Int, hcell vh (a.add ((i).toNat * 1)) = some (.int .u8 c) ∧
    ∃ (vI1 : Int → Int → Nat → Hp → Prop) (n3 : Nat), vI1 (iXor .u32 r (iConv .u32 c)) (0 : Int) n3 vh ∧
    ∀ _junk : Nat → Value, ∀ r1 : Int, ∀ k : Int, ∀ (n4 : Nat) (vh1 : Hp), vI1 r1 k n4 vh1 →
    IfB (decide (k < (8 : Int))) (IfB ((iAnd .u32 r1 (1 : Int)) == (1 : Int)) (0 ≤ (1 : Int) ∧
        ∃ n5, n5 < n4 ∧ vI1 (iXor .u32 (iShr .u32 r1 (1 : Int)) (2197175160 : Int)) (iAdd .i64 k (1 : Int)) n5 vh1)
      (0 ≤ (1 : Int) ∧
        ∃ n5, n5 < n4 ∧ vI1 (iShr .u32 r1 (1 : Int)) (iAdd .i64 k (1 : Int)) n5 vh1))
    (∃ n2, n2 < n1 ∧ vI r1 (iAdd .i64 i (1 : Int)) n2 vh1))
  (R (.int .u32 (iNot .u32 r)) vh)
theorem scarpref6_Crc_vc {b : Sl} {h : Hp} {R : Value → Hp → Prop} (H : vcscarpref6_Crc b h R) : HCalls Try.prog fn_scarpref6_Crc #[.slice b.base b.len b.cap] h R :=
  vc_fn (annOf [(0, [(3, .int .u32), (4, .int .i64)]), (1, [(3, .int .u32), (5, .int .i64)])] []) Try.func49 [.slice b.base b.len b.cap] (by kernel_rfl) (V := vcscarpref6_Crc b h R) (by kernel_rfl) H

def vcbits_Get64 (b : Sl) (h : Hp) (R : Value → Hp → Prop) : Prop :=
  HCalls Try.prog fn_bits_get #[.slice b.base b.len b.cap, .int .i64 (8 : Int)] h fun r vh =>
  ∃ c : Int, ∃ c1 : Bool, r = .tuple #[.int .u64 c, .bool c1] ∧
  R (.tuple #[.int .u64 c, .bool c1]) vh
theorem bits_Get64_vc {b : Sl} {h : Hp} {R : Value → Hp → Prop} (H : vcbits_Get64 b h R) : HCalls Try.prog fn_bits_Get64 #[.slice b.base b.len b.cap] h R :=
  vc_fn (annOf [] []) Try.func50 [.slice b.base b.len b.cap] (by kernel_rfl) (V := vcbits_Get64 b h R) (by kernel_rfl) H

def vcbits_Get32 (b : Sl) (h : Hp) (R : Value → Hp → Prop) : Prop :=
  HCalls Try.prog fn_bits_get #[.slice b.base b.len b.cap, .int .i64 (4 : Int)] h fun r vh =>
  ∃ c : Int, ∃ c1 : Bool, r = .tuple #[.int .u64 c, .bool c1] ∧
  R (.tuple #[.int .u32 (iConv .u32 c), .bool c1]) vh
theorem bits_Get32_vc {b : Sl} {h : Hp} {R : Value → Hp → Prop} (H : vcbits_Get32 b h R) : HCalls Try.prog fn_bits_Get32 #[.slice b.base b.len b.cap] h R :=
  vc_fn (annOf [] []) Try.func51 [.slice b.base b.len b.cap] (by kernel_rfl) (V := vcbits_Get32 b h R) (by kernel_rfl) H

def vcslices_Equal_sbytebyte (s1 : Sl) (s2 : Sl) (h : Hp) (R : Value → Hp → Prop) : Prop :=
  IfB ((s1.len : Int) != (s2.len : Int)) (R (.bool false) h)
  (∃ (vI : Int → Nat → Hp → Prop) (n : Nat), vI (0 : Int) n h ∧
    ∀ _junk : Nat → Value, ∀ t13 : Int, ∀ (n1 : Nat) (vh : Hp), vI t13 n1 vh →
    IfB (decide (t13 < (s1.len : Int))) (∃ a : Addr, s1.base = some a ∧ 0 ≤ t13 ∧ t13 < (s1.len : Int) ∧
      ∃ c : Int, hcell vh (a.add ((t13).toNat * 1)) = some (.int .u8 c) ∧
      ∃ a1 : Addr, s2.base = some a1 ∧ 0 ≤ t13 ∧ t13 < (s2.len : Int) ∧
      ∃ c1 : Int, hcell vh (a1.add ((t13).toNat * 1)) = some (.int .u8 c1) ∧
      IfB (c != c1) (R (.bool false) vh)
      (∃ n2, n2 < n1 ∧ vI (iAdd .i64 t13 (1 : Int)) n2 vh))
    (R (.bool true) vh))
theorem slices_Equal_sbytebyte_vc {s1 : Sl} {s2 : Sl} {h : Hp} {R : Value → Hp → Prop} (H : vcslices_Equal_sbytebyte s1 s2 h R) : HCalls Try.prog fn_slices_Equal_sbytebyte #[.slice s1.base s1.len s1.cap, .slice s2.base s2.len s2.cap] h R :=
  vc_fn (annOf [(0, [(13, .int .i64)])] []) Try.func52 [.slice s1.base s1.len s1.cap, .slice s2.base s2.len s2.cap] (by kernel_rfl) (V := vcslices_Equal_sbytebyte s1 s2 h R) (by kernel_rfl) H

def vcscarpref6_Get (b : Sl) (n : Int) (h : Hp) (R : Value → Hp → Prop) : Prop :=
  IfB (decide ((b.len : Int) < n)) (R (.tuple #[.int .u64 (0 : Int), .bool false]) h)
  (∃ (vI : Int → Int → Nat → Hp → Prop) (n1 : Nat), vI (0 : Int) (iSub .i64 n (1 : Int)) n1 h ∧
    ∀ _junk : Nat → Value, ∀ v : Int, ∀ i : Int, ∀ (n2 : Nat) (vh : Hp), vI v i n2 vh →
    IfB (decide (i ≥ (0 : Int))) (0 ≤ (8 : Int) ∧
      ∃ a : Addr, b.base = some a ∧ 0 ≤ i ∧ i < (b.len : Int) ∧
      ∃ c : Int, hcell vh (a.add ((i).toNat * 1)) = some (.int .u8 c) ∧
      ∃ n3, n3 < n2 ∧ vI (iOr .u64 (iShl .u64 v (8 : Int)) (iConv .u64 c)) (iSub .i64 i (1 : Int)) n3 vh)
    (R (.tuple #[.int .u64 v, .bool true]) vh))
theorem scarpref6_Get_vc {b : Sl} {n : Int} {h : Hp} {R : Value → Hp → Prop} (H : vcscarpref6_Get b n h R) : HCalls Try.prog fn_scarpref6_Get #[.slice b.base b.len b.cap, .int .i64 n] h R :=
  vc_fn (annOf [(0, [(6, .int .u64), (7, .int .i64)])] []) Try.func53 [.slice b.base b.len b.cap, .int .i64 n] (by kernel_rfl) (V := vcscarpref6_Get b n h R) (by kernel_rfl) H

def vczdev_pick (l : Sl) (k : Int) (h : Hp) (R : Value → Hp → Prop) : Prop :=
  IfB ((l.len : Int) == (0 : Int)) (R (.tuple #[.int .i64 (0 : Int), .bool false]) h)
  ((l.len : Int) ≠ 0 ∧
    ∃ a : Addr, l.base = some a ∧ 0 ≤ (iRem k (l.len : Int)) ∧ (iRem k (l.len : Int)) < (l.len : Int) ∧
    ∃ c : Int, hcell h (a.add (((iRem k (l.len : Int))).toNat * 1)) = some (.int .i64 c) ∧
    R (.tuple #[.int .i64 c, .bool true]) h)
theorem zdev_pick_vc {l : Sl} {k : Int} {h : Hp} {R : Value → Hp → Prop} (H : vczdev_pick l k h R) : HCalls Try.prog fn_zdev_pick #[.slice l.base l.len l.cap, .int .i64 k] h R :=
  vc_fn (annOf [] []) Try.func54 [.slice l.base l.len l.cap, .int .i64 k] (by kernel_rfl) (V := vczdev_pick l k h R) (by kernel_rfl) H

def vczdev_rest (n : Int) (vby : Int) (h : Hp) (R : Value → Hp → Prop) : Prop :=
  vby ≠ 0 ∧
  IfB (decide ((iRem n vby) < (0 : Int))) (R (.int .i64 (iAdd .i64 (iRem n vby) vby)) h)
  (R (.int .i64 (iRem n vby)) h)
theorem zdev_rest_vc {n : Int} {vby : Int} {h : Hp} {R : Value → Hp → Prop} (H : vczdev_rest n vby h R) : HCalls Try.prog fn_zdev_rest #[.int .i64 n, .int .i64 vby] h R :=
  vc_fn (annOf [] []) Try.func55 [.int .i64 n, .int .i64 vby] (by kernel_rfl) (V := vczdev_rest n vby h R) (by kernel_rfl) H

def vczdev_own (l : Sl) (h : Hp) (R : Value → Hp → Prop) : Prop :=
  ∃ (vI : Sl → Int → Nat → Hp → Prop) (n : Nat), vI Sl.nil (0 : Int) n h ∧
  ∀ _junk : Nat → Value, ∀ out : Sl, ∀ t7 : Int, ∀ (n1 : Nat) (vh : Hp), vI out t7 n1 vh →
  IfB (decide (t7 < (l.len : Int))) (∃ a : Addr, l.base = some a ∧ 0 ≤ t7 ∧ t7 < (l.len : Int) ∧
    ∃ c : Sl, hcell vh (a.add ((t7).toNat * 1)) = some (.slice c.base c.len c.cap) ∧
    HCalls Try.prog fn_slices_Clone_sbytebyte #[.slice c.base c.len c.cap] vh fun r vh1 =>
    ∃ c1 : Sl, r = .slice c1.base c1.len c1.cap ∧
    let vh2 := alc vh1 [.slice c1.base c1.len c1.cap] ty_suint8;
    AppC ty_suint8 1 24 #[.slice Sl.nil.base Sl.nil.len Sl.nil.cap] out (Sl.mk (some (nw vh1)) 1 1) vh2 fun s vh3 =>
    ∃ n2, n2 < n1 ∧ vI s (iAdd .i64 t7 (1 : Int)) n2 vh3)
  (R (.slice out.base out.len out.cap) vh)
theorem zdev_own_vc {l : Sl} {h : Hp} {R : Value → Hp → Prop} (H : vczdev_own l h R) : HCalls Try.prog fn_zdev_own #[.slice l.base l.len l.cap] h R :=
  vc_fn (annOf [(0, [(2, .sl), (7, .int .i64)])] []) Try.func56 [.slice l.base l.len l.cap] (by kernel_rfl) (V := vczdev_own l h R) (by kernel_rfl) H

def vczdev_tear (p : Sl) (h : Hp) (R : Value → Hp → Prop) : Prop :=
  HCalls Try.prog fn_slices_Clone_sbytebyte #[.slice p.base p.len p.cap] h fun r vh =>
  ∃ c : Sl, r = .slice c.base c.len c.cap ∧
  ∃ (vI : Int → Nat → Hp → Prop) (n : Nat), vI (32 : Int) n vh ∧
  ∀ _junk : Nat → Value, ∀ i : Int, ∀ (n1 : Nat) (vh1 : Hp), vI i n1 vh1 →
  IfB (decide (i < (c.len : Int))) (∃ a : Addr, c.base = some a ∧ 0 ≤ i ∧ i < (c.len : Int) ∧
    ∃ c1 : Int, hcell vh1 (a.add ((i).toNat * 1)) = some (.int .u8 c1) ∧
    ∃ a1 : Addr, c.base = some a1 ∧ 0 ≤ i ∧ i < (c.len : Int) ∧
    StOk vh1 (a1.add ((i).toNat * 1)) ∧
    Lt (hset vh1 (a1.add ((i).toNat * 1)) (.int .u8 (iXor .u8 c1 (85 : Int)))) fun vh2 =>
    ∃ n2, n2 < n1 ∧ vI (iAdd .i64 i (1 : Int)) n2 vh2)
  (R (.slice c.base c.len c.cap) vh1)
theorem zdev_tear_vc {p : Sl} {h : Hp} {R : Value → Hp → Prop} (H : vczdev_tear p h R) : HCalls Try.prog fn_zdev_tear #[.slice p.base p.len p.cap] h R :=
  vc_fn (annOf [(0, [(4, .int .i64)])] []) Try.func57 [.slice p.base p.len p.cap] (by kernel_rfl) (V := vczdev_tear p h R) (by kernel_rfl) H

def vcslices_Grow_sbytebyte (s : Sl) (n : Int) (h : Hp) (R : Value → Hp → Prop) : Prop :=
  IfB (decide (n < (0 : Int))) (False)
  (IfB (decide ((iSub .i64 n (iSub .i64 (s.cap : Int) (s.len : Int))) > (0 : Int))) (0 ≤ (0 : Int) ∧ (0 : Int) ≤ (s.cap : Int) ∧ (s.cap : Int) ≤ (s.cap : Int) ∧ (s.cap : Int) ≤ (s.cap : Int) ∧
      AppZ ty_uint8 1 1 #[.int .u8 (0 : Int)] (cutSl s (0 : Int) (s.cap : Int) (s.cap : Int) 1) (iSub .i64 n (iSub .i64 (s.cap : Int) (s.len : Int))) h fun s1 vh =>
      0 ≤ (0 : Int) ∧ (0 : Int) ≤ (s.len : Int) ∧ (s.len : Int) ≤ (s1.cap : Int) ∧ (s1.cap : Int) ≤ (s1.cap : Int) ∧
      R (.slice (cutSl s1 (0 : Int) (s.len : Int) (s1.cap : Int) 1).base (cutSl s1 (0 : Int) (s.len : Int) (s1.cap : Int) 1).len (cutSl s1 (0 : Int) (s.len : Int) (s1.cap : Int) 1).cap) vh)
    (R (.slice s.base s.len s.cap) h))
theorem slices_Grow_sbytebyte_vc {s : Sl} {n : Int} {h : Hp} {R : Value → Hp → Prop} (H : vcslices_Grow_sbytebyte s n h R) : HCalls Try.prog fn_slices_Grow_sbytebyte #[.slice s.base s.len s.cap, .int .i64 n] h R :=
  vc_fn (annOf [] []) Try.func58 [.slice s.base s.len s.cap, .int .i64 n] (by kernel_rfl) (V := vcslices_Grow_sbytebyte s n h R) (by kernel_rfl) H

def vcbits_put (v : Int) (n : Int) (h : Hp) (R : Value → Hp → Prop) : Prop :=
  MkC ty_uint8 1 #[.int .u8 (0 : Int)] n n h fun s vh =>
  ∃ (vI : Int → Nat → Hp → Prop) (n1 : Nat), vI (0 : Int) n1 vh ∧
  ∀ _junk : Nat → Value, ∀ t11 : Int, ∀ (n2 : Nat) (vh1 : Hp), vI t11 n2 vh1 →
  IfB (decide (t11 < (s.len : Int))) (0 ≤ (iMul .i64 (8 : Int) t11) ∧
    ∃ a : Addr, s.base = some a ∧ 0 ≤ t11 ∧ t11 < (s.len : Int) ∧
    StOk vh1 (a.add ((t11).toNat * 1)) ∧
    Lt (hset vh1 (a.add ((t11).toNat * 1)) (.int .u8 (iConv .u8 (iShr .u64 v (iMul .i64 (8 : Int) t11))))) fun vh2 =>
    ∃ n3, n3 < n2 ∧ vI (iAdd .i64 t11 (1 : Int)) n3 vh2)
  (R (.slice s.base s.len s.cap) vh1)
theorem bits_put_vc {v : Int} {n : Int} {h : Hp} {R : Value → Hp → Prop} (H : vcbits_put v n h R) : HCalls Try.prog fn_bits_put #[.int .u64 v, .int .i64 n] h R :=
  vc_fn (annOf [(0, [(11, .int .i64)])] []) Try.func59 [.int .u64 v, .int .i64 n] (by kernel_rfl) (V := vcbits_put v n h R) (by kernel_rfl) H

def vccrc_New (h : Hp) (R : Value → Hp → Prop) : Prop :=
  let vh := alc h [.int .u32 (0 : Int)] ty_crc_Sum;
  R (.pointer (some (nw h))) vh
theorem crc_New_vc {h : Hp} {R : Value → Hp → Prop} (H : vccrc_New h R) : HCalls Try.prog fn_crc_New #[] h R :=
  vc_fn (annOf [] []) Try.func60 [] (by kernel_rfl) (V := vccrc_New h R) (by kernel_rfl) H

def vccrc_Sum_Add (s : Option Addr) (b : Sl) (h : Hp) (R : Value → Hp → Prop) : Prop :=
  IfB (isNone? s) (R (.pointer none) h)
  (∃ a : Addr, s = some a ∧
    ∃ c : Int, hcell h a = some (.int .u32 c) ∧
    ∃ (vI : Int → Int → Nat → Hp → Prop) (n : Nat), vI (iNot .u32 c) (0 : Int) n h ∧
    ∀ _junk : Nat → Value, ∀ r : Int, ∀ t17 : Int, ∀ (n1 : Nat) (vh : Hp), vI r t17 n1 vh →
    IfB (decide (t17 < (b.len : Int))) (∃ a1 : Addr, b.base = some a1 ∧ 0 ≤ t17 ∧ t17 < (b.len : Int) ∧
      ∃ c1 : Int, hcell vh (a1.add ((t17).toNat * 1)) = some (.int .u8 c1) ∧
      ∃ (vI1 : Int → Int → Nat → Hp → Prop) (n3 : Nat), vI1 (iXor .u32 r (iConv .u32 c1)) (0 : Int) n3 vh ∧
      ∀ _junk : Nat → Value, ∀ r1 : Int, ∀ t25 : Int, ∀ (n4 : Nat) (vh1 : Hp), vI1 r1 t25 n4 vh1 →
      IfB (decide (t25 < (8 : Int))) (0 ≤ (1 : Int) ∧
        ∃ n5, n5 < n4 ∧ vI1 (iXor .u32 (iShr .u32 r1 (1 : Int)) (iAnd .u32 (2197175160 : Int) (iNeg .u32 (iAnd .u32 r1 (1 : Int))))) (iAdd .i64 t25 (1 : Int)) n5 vh1)
      (∃ n2, n2 < n1 ∧ vI r1 (iAdd .i64 t17 (1 : Int)) n2 vh1))
    (∃ a2 : Addr, s = some a2 ∧
      StOk vh a2 ∧
      Lt (hset vh a2 (.int .u32 (iNot .u32 r))) fun vh2 =>
      R (.pointer s) vh2))
theorem crc_Sum_Add_vc {s : Option Addr} {b : Sl} {h : Hp} {R : Value → Hp → Prop} (H : vccrc_Sum_Add s b h R) : HCalls Try.prog fn_crc_Sum_Add #[.pointer s, .slice b.base b.len b.cap] h R :=
  vc_fn (annOf [(0, [(5, .int .u32), (17, .int .i64)]), (1, [(5, .int .u32), (25, .int .i64)])] []) Try.func61 [.pointer s, .slice b.base b.len b.cap] (by kernel_rfl) (V := vccrc_Sum_Add s b h R) (by kernel_rfl) H

def vccrc_Sum_Value (s : Option Addr) (h : Hp) (R : Value → Hp → Prop) : Prop :=
  IfB (isNone? s) (R (.int .u32 (0 : Int)) h)
  (∃ a : Addr, s = some a ∧
    ∃ c : Int, hcell h a = some (.int .u32 c) ∧
    R (.int .u32 c) h)
theorem crc_Sum_Value_vc {s : Option Addr} {h : Hp} {R : Value → Hp → Prop} (H : vccrc_Sum_Value s h R) : HCalls Try.prog fn_crc_Sum_Value #[.pointer s] h R :=
  vc_fn (annOf [] []) Try.func62 [.pointer s] (by kernel_rfl) (V := vccrc_Sum_Value s h R) (by kernel_rfl) H

def vcslices_IndexFunc_sbytebyte (s : Sl) (f : Nat) (h : Hp) (R : Value → Hp → Prop) : Prop :=
  ∃ (vI : Int → Nat → Hp → Prop) (n : Nat), vI (0 : Int) n h ∧
  ∀ _junk : Nat → Value, ∀ t8 : Int, ∀ (n1 : Nat) (vh : Hp), vI t8 n1 vh →
  IfB (decide (t8 < (s.len : Int))) (∃ a : Addr, s.base = some a ∧ 0 ≤ t8 ∧ t8 < (s.len : Int) ∧
    ∃ c : Int, hcell vh (a.add ((t8).toNat * 1)) = some (.int .u8 c) ∧
    HCalls Try.prog f #[.int .u8 c] vh fun r vh1 =>
    ∃ c1 : Bool, r = .bool c1 ∧
    IfB c1 (R (.int .i64 t8) vh1)
    (∃ n2, n2 < n1 ∧ vI (iAdd .i64 t8 (1 : Int)) n2 vh1))
  (R (.int .i64 (-1 : Int)) vh)
theorem slices_IndexFunc_sbytebyte_vc {s : Sl} {f : Nat} {h : Hp} {R : Value → Hp → Prop} (H : vcslices_IndexFunc_sbytebyte s f h R) : HCalls Try.prog fn_slices_IndexFunc_sbytebyte #[.slice s.base s.len s.cap, .func (.func f) #[] #[]] h R :=
  vc_fn (annOf [(0, [(8, .int .i64)])] []) Try.func63 [.slice s.base s.len s.cap, .func (.func f) #[] #[]] (by kernel_rfl) (V := vcslices_IndexFunc_sbytebyte s f h R) (by kernel_rfl) H

def vcbits_get (b : Sl) (n : Int) (h : Hp) (R : Value → Hp → Prop) : Prop :=
  IfB (decide ((b.len : Int) < n)) (R (.tuple #[.int .u64 (0 : Int), .bool false]) h)
  (∃ (vI : Int → Int → Nat → Hp → Prop) (n1 : Nat), vI (0 : Int) (0 : Int) n1 h ∧
    ∀ _junk : Nat → Value, ∀ v : Int, ∀ t12 : Int, ∀ (n2 : Nat) (vh : Hp), vI v t12 n2 vh →
    IfB (decide (t12 < n)) (∃ a : Addr, b.base = some a ∧ 0 ≤ t12 ∧ t12 < (b.len : Int) ∧
      ∃ c : Int, hcell vh (a.add ((t12).toNat * 1)) = some (.int .u8 c) ∧
      0 ≤ (iMul .i64 (8 : Int) t12) ∧
      ∃ n3, n3 < n2 ∧ vI (iOr .u64 v (iShl .u64 (iConv .u64 c) (iMul .i64 (8 : Int) t12))) (iAdd .i64 t12 (1 : Int)) n3 vh)
    (R (.tuple #[.int .u64 v, .bool true]) vh))
theorem bits_get_vc {b : Sl} {n : Int} {h : Hp} {R : Value → Hp → Prop} (H : vcbits_get b n h R) : HCalls Try.prog fn_bits_get #[.slice b.base b.len b.cap, .int .i64 n] h R :=
  vc_fn (annOf [(0, [(4, .int .u64), (12, .int .i64)])] []) Try.func64 [.slice b.base b.len b.cap, .int .i64 n] (by kernel_rfl) (V := vcbits_get b n h R) (by kernel_rfl) H

def vczdev_Dev_Crash (d : Option Addr) (picks : Sl) (torn : Sl) (h : Hp) (R : Value → Hp → Prop) : Prop :=
  HCalls Try.prog fn_zdev_Dev_gone #[.pointer d] h fun r vh =>
  ∃ c : Bool, r = .bool c ∧
  IfB c (R (.pointer none) vh)
  (∃ a : Addr, d = some a ∧
    ∃ c1 : Int, ∃ c2 : Int, hcell vh (a) = some (.int .i64 c1) ∧ hcell vh (a.add 1) = some (.int .i64 c2) ∧
    HCalls Try.prog fn_zdev_New #[.agg #[.int .i64 c1, .int .i64 c2]] vh fun r1 vh1 =>
    ∃ c3 : Option Addr, ∃ c4 : Int, r1 = .tuple #[.pointer c3, .int .i64 c4] ∧
    ∃ a1 : Addr, d = some a1 ∧
    ∃ c5 : Sl, hcell vh1 (a1.add 2) = some (.slice c5.base c5.len c5.cap) ∧
    ∃ (vI : Int → Nat → Hp → Prop) (n : Nat), vI (0 : Int) n vh1 ∧
    ∀ _junk : Nat → Value, ∀ t33 : Int, ∀ (n1 : Nat) (vh2 : Hp), vI t33 n1 vh2 →
    IfB (decide (t33 < (c5.len : Int))) (∃ a2 : Addr, c5.base = some a2 ∧ 0 ≤ t33 ∧ t33 < (c5.len : Int) ∧
      ∃ c6 : Option Addr, hcell vh2 (a2.add ((t33).toNat * 1)) = some (.pointer c6) ∧
      ∃ a3 : Addr, c6 = some a3 ∧
      ∃ c7 : Int, hcell vh2 (a3.add 1) = some (.int .i64 c7) ∧
      ∃ a4 : Addr, c6 = some a4 ∧
      ∃ c8 : Sl, hcell vh2 a4 = some (.slice c8.base c8.len c8.cap) ∧
      ∃ vJ : Int → Hp → Prop,
      (HCalls Try.prog fn_zdev_pick #[.slice picks.base picks.len picks.cap, .int .i64 t33] vh2 fun r2 vh3 =>
        ∃ c9 : Int, ∃ c10 : Bool, r2 = .tuple #[.int .i64 c9, .bool c10] ∧
        IfB c10 (HCalls Try.prog fn_zdev_rest #[.int .i64 c9, .int .i64 (iAdd .i64 (iSub .i64 (c8.len : Int) c7) (1 : Int))] vh3 fun r3 vh4 =>
          ∃ c11 : Int, r3 = .int .i64 c11 ∧
          vJ (iAdd .i64 c7 c11) vh4)
        (vJ c7 vh3)) ∧
      ∀ _junk : Nat → Value, ∀ n3 : Int, ∀ vh5 : Hp, vJ n3 vh5 →
      ∃ a5 : Addr, c6 = some a5 ∧
      ∃ c12 : Sl, hcell vh5 a5 = some (.slice c12.base c12.len c12.cap) ∧
      0 ≤ (0 : Int) ∧ (0 : Int) ≤ n3 ∧ n3 ≤ (c12.cap : Int) ∧ (c12.cap : Int) ≤ (c12.cap : Int) ∧
      HCalls Try.prog fn_zdev_own #[.slice (cutSl c12 (0 : Int) n3 (c12.cap : Int) 1).base (cutSl c12 (0 : Int) n3 (c12.cap : Int) 1).len (cutSl c12 (0 : Int) n3 (c12.cap : Int) 1).cap] vh5 fun r4 vh6 =>
      ∃ c13 : Sl, r4 = .slice c13.base c13.len c13.cap ∧
      ∃ vJ1 : Sl → Hp → Prop,
      (HCalls Try.prog fn_zdev_pick #[.slice torn.base torn.len torn.cap, .int .i64 t33] vh6 fun r5 vh7 =>
        ∃ c14 : Int, ∃ c15 : Bool, r5 = .tuple #[.int .i64 c14, .bool c15] ∧
        IfB c15 (IfB (decide (n3 < (c8.len : Int))) ((2 : Int) ≠ 0 ∧
            IfB ((iRem c14 (2 : Int)) != (0 : Int)) (∃ a6 : Addr, c6 = some a6 ∧
              ∃ c16 : Sl, hcell vh7 a6 = some (.slice c16.base c16.len c16.cap) ∧
              ∃ a7 : Addr, c16.base = some a7 ∧ 0 ≤ n3 ∧ n3 < (c16.len : Int) ∧
              ∃ c17 : Sl, hcell vh7 (a7.add ((n3).toNat * 1)) = some (.slice c17.base c17.len c17.cap) ∧
              HCalls Try.prog fn_zdev_tear #[.slice c17.base c17.len c17.cap] vh7 fun r6 vh8 =>
              ∃ c18 : Sl, r6 = .slice c18.base c18.len c18.cap ∧
              let vh9 := alc vh8 [.slice c18.base c18.len c18.cap] ty_suint8;
              AppC ty_suint8 1 24 #[.slice Sl.nil.base Sl.nil.len Sl.nil.cap] c13 (Sl.mk (some (nw vh8)) 1 1) vh9 fun s vh10 =>
              vJ1 s vh10)
            (vJ1 c13 vh7))
          (vJ1 c13 vh7))
        (vJ1 c13 vh7)) ∧
      ∀ _junk : Nat → Value, ∀ l : Sl, ∀ vh11 : Hp, vJ1 l vh11 →
      ∃ a8 : Addr, c3 = some a8 ∧
      ∃ c19 : Sl, hcell vh11 (a8.add 2) = some (.slice c19.base c19.len c19.cap) ∧
      ∃ a9 : Addr, c19.base = some a9 ∧ 0 ≤ t33 ∧ t33 < (c19.len : Int) ∧
      ∃ c20 : Option Addr, hcell vh11 (a9.add ((t33).toNat * 1)) = some (.pointer c20) ∧
      ∃ a10 : Addr, c20 = some a10 ∧
      stCells a10 0 [.slice l.base l.len l.cap, .int .i64 (l.len : Int)] vh11 fun vh12 =>
      ∃ n2, n2 < n1 ∧ vI (iAdd .i64 t33 (1 : Int)) n2 vh12)
    (R (.pointer c3) vh2))
theorem zdev_Dev_Crash_vc {d : Option Addr} {picks : Sl} {torn : Sl} {h : Hp} {R : Value → Hp → Prop} (H : vczdev_Dev_Crash d picks torn h R) : HCalls Try.prog fn_zdev_Dev_Crash #[.pointer d, .slice picks.base picks.len picks.cap, .slice torn.base torn.len torn.cap] h R :=
  vc_fn (annOf [(0, [(33, .int .i64)])] [(11, [(11, .int .i64)]), (15, [(15, .sl)])]) Try.func32 [.pointer d, .slice picks.base picks.len picks.cap, .slice torn.base torn.len torn.cap] (by kernel_rfl) (V := vczdev_Dev_Crash d picks torn h R) (by kernel_rfl) H

def vczdev_Dev_begin (d : Option Addr) (h : Hp) (R : Value → Hp → Prop) : Prop :=
  ∃ a : Addr, d = some a ∧
  ∃ c : Int, hcell h (a.add 3) = some (.int .i64 c) ∧
  ∃ a1 : Addr, d = some a1 ∧
  StOk h (a1.add 3) ∧
  Lt (hset h (a1.add 3) (.int .i64 (iAdd .i64 c (1 : Int)))) fun vh =>
  ∃ vJ : Hp → Prop,
  (∃ a2 : Addr, d = some a2 ∧
    ∃ c1 : Bool, hcell vh (a2.add 7) = some (.bool c1) ∧
    IfB c1 (∃ a3 : Addr, d = some a3 ∧
      StOk vh (a3.add 7) ∧
      Lt (hset vh (a3.add 7) (.bool true)) fun vh1 =>
      vJ vh1)
    (∃ a4 : Addr, d = some a4 ∧
      ∃ c2 : Bool, hcell vh (a4.add 5) = some (.bool c2) ∧
      IfB c2 (∃ a5 : Addr, d = some a5 ∧
        ∃ c3 : Int, hcell vh (a5.add 6) = some (.int .i64 c3) ∧
        ∃ a6 : Addr, d = some a6 ∧
        StOk vh (a6.add 7) ∧
        Lt (hset vh (a6.add 7) (.bool (decide (c3 < (1 : Int))))) fun vh2 =>
        vJ vh2)
      (∃ a7 : Addr, d = some a7 ∧
        StOk vh (a7.add 7) ∧
        Lt (hset vh (a7.add 7) (.bool false)) fun vh3 =>
        vJ vh3))) ∧
  ∀ _junk : Nat → Value, ∀ vh4 : Hp, vJ vh4 →
  ∃ a8 : Addr, d = some a8 ∧
  ∃ c4 : Bool, hcell vh4 (a8.add 7) = some (.bool c4) ∧
  IfB c4 (R (.bool false) vh4)
  (∃ a9 : Addr, d = some a9 ∧
    ∃ c5 : Bool, hcell vh4 (a9.add 5) = some (.bool c5) ∧
    IfB c5 (∃ a10 : Addr, d = some a10 ∧
      ∃ c6 : Int, hcell vh4 (a10.add 6) = some (.int .i64 c6) ∧
      ∃ a11 : Addr, d = some a11 ∧
      StOk vh4 (a11.add 6) ∧
      Lt (hset vh4 (a11.add 6) (.int .i64 (iSub .i64 c6 (1 : Int)))) fun vh5 =>
      R (.bool true) vh5)
    (R (.bool true) vh4))
theorem zdev_Dev_begin_vc {d : Option Addr} {h : Hp} {R : Value → Hp → Prop} (H : vczdev_Dev_begin d h R) : HCalls Try.prog fn_zdev_Dev_begin #[.pointer d] h R :=
  vc_fn (annOf [] [(3, [])]) Try.func45 [.pointer d] (by kernel_rfl) (V := vczdev_Dev_begin d h R) (by kernel_rfl) H

def vczdev_Dev_Append (d : Option Addr) (i : Int) (p : Sl) (h : Hp) (R : Value → Hp → Prop) : Prop :=
  HCalls Try.prog fn_zdev_Dev_at #[.pointer d, .int .i64 i] h fun r vh =>
  ∃ c : Option Addr, r = .pointer c ∧
  IfB (isNone? c) (R (.tuple #[.int .i64 (0 : Int), .int .i64 (1 : Int)]) vh)
  (IfB ((p.len : Int) != (64 : Int)) (R (.tuple #[.int .i64 (0 : Int), .int .i64 (3 : Int)]) vh)
    (HCalls Try.prog fn_zdev_Dev_begin #[.pointer d] vh fun r1 vh1 =>
      ∃ c1 : Bool, r1 = .bool c1 ∧
      IfB (!c1) (R (.tuple #[.int .i64 (0 : Int), .int .i64 (12 : Int)]) vh1)
      (∃ a : Addr, c = some a ∧
        ∃ c2 : Sl, hcell vh1 a = some (.slice c2.base c2.len c2.cap) ∧
        ∃ a1 : Addr, d = some a1 ∧
        ∃ c3 : Int, hcell vh1 (a1.add 1) = some (.int .i64 c3) ∧
        IfB (decide ((c2.len : Int) ≥ c3)) (R (.tuple #[.int .i64 (0 : Int), .int .i64 (9 : Int)]) vh1)
        (∃ hR : Hp, Sub hR vh1 ∧
          ∃ a2 : Addr, c = some a2 ∧
          ∃ c4 : Sl, hcell hR a2 = some (.slice c4.base c4.len c4.cap) ∧
          HCalls Try.prog fn_slices_Clone_sbytebyte #[.slice p.base p.len p.cap] vh1 fun r2 vh2 =>
          ∃ c5 : Sl, r2 = .slice c5.base c5.len c5.cap ∧
          Sub hR vh2 ∧
          let vh3 := alc vh2 [.slice c5.base c5.len c5.cap] ty_suint8;
          Sub hR vh3 ∧
          AppC ty_suint8 1 24 #[.slice Sl.nil.base Sl.nil.len Sl.nil.cap] c4 (Sl.mk (some (nw vh2)) 1 1) vh3 fun s vh4 =>
          Sub hR vh4 ∧
          ∃ a3 : Addr, c = some a3 ∧
          StOk vh4 a3 ∧
          Lt (hset vh4 a3 (.slice s.base s.len s.cap)) fun vh5 =>
          ∃ a4 : Addr, c = some a4 ∧
          ∃ c6 : Sl, hcell vh5 a4 = some (.slice c6.base c6.len c6.cap) ∧
          R (.tuple #[.int .i64 (iSub .i64 (c6.len : Int) (1 : Int)), .int .i64 (0 : Int)]) vh5))))
theorem zdev_Dev_Append_vc {d : Option Addr} {i : Int} {p : Sl} {h : Hp} {R : Value → Hp → Prop} (H : vczdev_Dev_Append d i p h R) : HCalls Try.prog fn_zdev_Dev_Append #[.pointer d, .int .i64 i, .slice p.base p.len p.cap] h R :=
  vc_fn (annOfL [] [] [10]) Try.func24 [.pointer d, .int .i64 i, .slice p.base p.len p.cap] (by kernel_rfl) (V := vczdev_Dev_Append d i p h R) (by kernel_rfl) H

def vcscarplaw9_ZdevZones (l : Sl) (zone : Int) (h : Hp) (R : Value → Hp → Prop) : Prop :=
  IfB (decide ((l.len : Int) > (200 : Int))) (HCalls Try.prog fn_scarplaw9_awake #[] h fun r vh =>
    ∃ c : Bool, r = .bool c ∧
    R (.bool c) vh)
  (HCalls Try.prog fn_scarplaw9_least #[] h fun r1 vh1 =>
    ∃ c1 : Int, ∃ c2 : Int, r1 = .agg #[.int .i64 c1, .int .i64 c2] ∧
    HCalls Try.prog fn_zdev_New #[.agg #[.int .i64 c1, .int .i64 c2]] vh1 fun r2 vh2 =>
    ∃ c3 : Option Addr, ∃ c4 : Int, r2 = .tuple #[.pointer c3, .int .i64 c4] ∧
    IfB (c4 != (0 : Int)) (R (.bool false) vh2)
    (IfB (isNone? c3) (R (.bool false) vh2)
      (HCalls Try.prog fn_scarpalike_Round #[.int .i64 zone, .int .i64 (8 : Int)] vh2 fun r3 vh3 =>
        ∃ c5 : Int, r3 = .int .i64 c5 ∧
        ∃ (vI : Int → Int → Nat → Hp → Prop) (n : Nat), vI (0 : Int) (0 : Int) n vh3 ∧
        ∀ _junk : Nat → Value, ∀ n3 : Int, ∀ i : Int, ∀ (n1 : Nat) (vh4 : Hp), vI n3 i n1 vh4 →
        IfB (decide (i < (l.len : Int))) (∃ a : Addr, l.base = some a ∧ 0 ≤ i ∧ i < (l.len : Int) ∧
          ∃ c6 : Int, hcell vh4 (a.add ((i).toNat * 1)) = some (.int .i64 c6) ∧
          HCalls Try.prog fn_scarpalike_Round #[.int .i64 c6, .int .i64 (8 : Int)] vh4 fun r4 vh5 =>
          ∃ c7 : Int, r4 = .int .i64 c7 ∧
          ∃ vJ : Int → Int → Hp → Prop,
          (∃ a1 : Addr, l.base = some a1 ∧ 0 ≤ i ∧ i < (l.len : Int) ∧
            ∃ c8 : Int, hcell vh5 (a1.add ((i).toNat * 1)) = some (.int .i64 c8) ∧
            (8 : Int) ≠ 0 ∧
            HCalls Try.prog fn_scarpalike_Round #[.int .i64 (iQuo .i64 c8 (8 : Int)), .int .i64 (7 : Int)] vh5 fun r5 vh6 =>
            ∃ c9 : Int, r5 = .int .i64 c9 ∧
            IfB (c9 == (0 : Int)) (HCalls Try.prog fn_zdev_Dev_Reset #[.pointer c3, .int .i64 c7] vh6 fun r6 vh7 =>
              ∃ c10 : Int, r6 = .int .i64 c10 ∧
              IfB (c7 == c5) (vJ (0 : Int) c10 vh7)
              (vJ n3 c10 vh7))
            (HCalls Try.prog fn_scarpalike_Block #[.int .i64 (64 : Int), .int .i64 c7] vh6 fun r7 vh8 =>
              ∃ c11 : Sl, r7 = .slice c11.base c11.len c11.cap ∧
              HCalls Try.prog fn_zdev_Dev_Append #[.pointer c3, .int .i64 c7, .slice c11.base c11.len c11.cap] vh8 fun r8 vh9 =>
              ∃ c12 : Int, ∃ c13 : Int, r8 = .tuple #[.int .i64 c12, .int .i64 c13] ∧
              IfB (c7 == c5) (IfB (c13 == (0 : Int)) (vJ (iAdd .i64 n3 (1 : Int)) c13 vh9)
                (vJ n3 c13 vh9))
              (vJ n3 c13 vh9))) ∧
          ∀ _junk : Nat → Value, ∀ n4 : Int, ∀ f : Int, ∀ vh10 : Hp, vJ n4 f vh10 →
          IfB (f != (0 : Int)) (IfB (f != (9 : Int)) (R (.bool false) vh10)
            (HCalls Try.prog fn_zdev_Dev_Pointer #[.pointer c3, .int .i64 c5] vh10 fun r9 vh11 =>
              ∃ c14 : Int, ∃ c15 : Int, r9 = .tuple #[.int .i64 c14, .int .i64 c15] ∧
              IfB (c15 != (0 : Int)) (R (.bool false) vh11)
              (IfB (c14 != n4) (R (.bool false) vh11)
                (∃ n2, n2 < n1 ∧ vI n4 (iAdd .i64 i (1 : Int)) n2 vh11))))
          (HCalls Try.prog fn_zdev_Dev_Pointer #[.pointer c3, .int .i64 c5] vh10 fun r10 vh12 =>
            ∃ c16 : Int, ∃ c17 : Int, r10 = .tuple #[.int .i64 c16, .int .i64 c17] ∧
            IfB (c17 != (0 : Int)) (R (.bool false) vh12)
            (IfB (c16 != n4) (R (.bool false) vh12)
              (∃ n2, n2 < n1 ∧ vI n4 (iAdd .i64 i (1 : Int)) n2 vh12))))
        (HCalls Try.prog fn_zdev_Dev_Ops #[.pointer c3] vh4 fun r11 vh13 =>
          ∃ c18 : Int, r11 = .int .i64 c18 ∧
          IfB (c18 == (l.len : Int)) (HCalls Try.prog fn_scarplaw9_awake #[] vh13 fun r12 vh14 =>
            ∃ c19 : Bool, r12 = .bool c19 ∧
            R (.bool c19) vh14)
          (R (.bool false) vh13)))))
theorem scarplaw9_ZdevZones_vc {l : Sl} {zone : Int} {h : Hp} {R : Value → Hp → Prop} (H : vcscarplaw9_ZdevZones l zone h R) : HCalls Try.prog fn_scarplaw9_ZdevZones #[.slice l.base l.len l.cap, .int .i64 zone] h R :=
  vc_fn (annOf [(0, [(7, .int .i64), (8, .int .i64)])] [(20, [(7, .int .i64), (10, .int .i64)])]) Try.func5 [.slice l.base l.len l.cap, .int .i64 zone] (by kernel_rfl) (V := vcscarplaw9_ZdevZones l zone h R) (by kernel_rfl) H

end Go.Proofs.Ytomeglmlhmpbhaa
