/-
  Conditions of functions, printed by a program of ours; the kernel checks each against vcFunc.
-/
import Derived.Test.YtfelkonmhfejdaaRows
import Derived.Test.YtfelkonmhfejdaaVc5
namespace Go.Proofs.Ytfelkonmhfejdaa
set_option maxRecDepth 100000
set_option linter.unusedVariables false

abbrev fn_bits_Get32 : Nat := 46
abbrev fn_bits_Get64 : Nat := 45
abbrev fn_bits_Put32 : Nat := 48
abbrev fn_bits_Put64 : Nat := 51
abbrev fn_bits_get : Nat := 52
abbrev fn_bits_put : Nat := 54
abbrev fn_crc_New : Nat := 55
abbrev fn_crc_Of : Nat := 49
abbrev fn_crc_Sum_Add : Nat := 56
abbrev fn_crc_Sum_Value : Nat := 57
abbrev fn_frame_Decode : Nat := 38
abbrev fn_frame_Encode : Nat := 43
abbrev fn_frame_within : Nat := 50
abbrev fn_scarpalike_Block : Nat := 13
abbrev fn_scarpalike_Bytes : Nat := 16
abbrev fn_scarpalike_Round : Nat := 12
abbrev fn_scarplaw19_SlotApart : Nat := 5
abbrev fn_scarplaw19_SlotCrash : Nat := 7
abbrev fn_scarplaw19_SlotNothing : Nat := 4
abbrev fn_scarplaw19_SlotPlays : Nat := 3
abbrev fn_scarplaw19_SlotTurns : Nat := 6
abbrev fn_scarplaw19_awake : Nat := 8
abbrev fn_scarplaw19_dev : Nat := 9
abbrev fn_slices_Clone_sbytebyte : Nat := 29
abbrev fn_slices_Concat_sbytebyte : Nat := 47
abbrev fn_slices_ContainsFunc_ssbytesbyte : Nat := 24
abbrev fn_slices_Equal_sbytebyte : Nat := 39
abbrev fn_slices_Grow_sbytebyte : Nat := 53
abbrev fn_slices_IndexFunc_ssbytesbyte : Nat := 37
abbrev fn_slot_Open : Nat := 10
abbrev fn_slot_Open_1 : Nat := 25
abbrev fn_slot_Slots_Dead : Nat := 17
abbrev fn_slot_Slots_Load : Nat := 15
abbrev fn_slot_Slots_Room : Nat := 11
abbrev fn_slot_Slots_Save : Nat := 14
abbrev fn_slot_Slots_blocks : Nat := 23
abbrev fn_slot_Slots_write : Nat := 28
abbrev fn_slot_read : Nat := 26
abbrev fn_slot_tail : Nat := 40
abbrev fn_zdev_Dev_Append : Nat := 44
abbrev fn_zdev_Dev_Crash : Nat := 19
abbrev fn_zdev_Dev_Cut : Nat := 20
abbrev fn_zdev_Dev_Flush : Nat := 27
abbrev fn_zdev_Dev_Geometry : Nat := 22
abbrev fn_zdev_Dev_Pointer : Nat := 18
abbrev fn_zdev_Dev_Read : Nat := 36
abbrev fn_zdev_Dev_Reset : Nat := 42
abbrev fn_zdev_Dev_at : Nat := 30
abbrev fn_zdev_Dev_begin : Nat := 41
abbrev fn_zdev_Dev_gone : Nat := 31
abbrev fn_zdev_New : Nat := 21
abbrev fn_zdev_own : Nat := 34
abbrev fn_zdev_pick : Nat := 32
abbrev fn_zdev_rest : Nat := 33
abbrev fn_zdev_tear : Nat := 35
abbrev ty_uint8 : Nat := 5
abbrev ty_suint8 : Nat := 32
abbrev ty_api_Geometry : Nat := 51
abbrev ty_slot_Slots : Nat := 55
abbrev ty_pzdev_zone : Nat := 64
abbrev ty_zdev_zone : Nat := 67
abbrev ty_zdev_Dev : Nat := 70
abbrev ty_frame_Block : Nat := 78
abbrev ty_crc_Sum : Nat := 103

def vcscarplaw19_SlotNothing (low : Int) (mid : Int) (high : Int) (h : Hp) (R : Value → Hp → Prop) : Prop :=
  HCalls Try.prog fn_scarplaw19_dev #[] h fun r vh =>
  ∃ c : Option Addr, ∃ c1 : Bool, r = .tuple #[.pointer c, .bool c1] ∧
  IfB (!c1) (R (.bool false) vh)
  (HCalls Try.prog fn_slot_Open #[.pointer c, .int .i64 low, .int .i64 mid, .int .i64 high] vh fun r1 vh1 =>
    ∃ c2 : Option Addr, ∃ c3 : Int, r1 = .tuple #[.pointer c2, .int .i64 c3] ∧
    HCalls Try.prog fn_slot_Open #[.pointer none, .int .i64 (0 : Int), .int .i64 (1 : Int), .int .i64 (2 : Int)] vh1 fun r2 vh2 =>
    ∃ c4 : Option Addr, ∃ c5 : Int, r2 = .tuple #[.pointer c4, .int .i64 c5] ∧
    HCalls Try.prog fn_slot_Slots_Load #[.pointer none] vh2 fun r3 vh3 =>
    ∃ c6 : Sl, ∃ c7 : Int, r3 = .tuple #[.slice c6.base c6.len c6.cap, .int .i64 c7] ∧
    IfB (decide (low ≥ (0 : Int))) (IfB (decide (low < mid)) (IfB (decide (mid < high)) (IfB ((c3 == (0 : Int)) == (decide (high ≤ (8 : Int)))) (IfB ((!isNone? c2) == (decide (high ≤ (8 : Int)))) (IfB (decide (high ≤ (8 : Int))) (IfB (c5 == (1 : Int)) (HCalls Try.prog fn_slot_Slots_Room #[.pointer none] vh3 fun r4 vh4 =>
                  ∃ c8 : Int, r4 = .int .i64 c8 ∧
                  IfB (c8 == (0 : Int)) (let vh5 := alc vh4 [.int .u8 (120 : Int)] ty_uint8;
                    ∃ a : Addr, (Sl.mk (some (nw vh4)) 1 1).base = some a ∧
                    let vh6 := hstr vh5 a;
                    HCalls Try.prog fn_slot_Slots_Save #[.pointer none, .slice (Sl.mk (some (nw vh4)) 1 1).base (Sl.mk (some (nw vh4)) 1 1).len (Sl.mk (some (nw vh4)) 1 1).cap] vh6 fun r5 vh7 =>
                    ∃ c9 : Int, r5 = .int .i64 c9 ∧
                    IfB (c9 == (7 : Int)) (HCalls Try.prog fn_slot_Slots_Save #[.pointer none, .slice Sl.nil.base Sl.nil.len Sl.nil.cap] vh7 fun r6 vh8 =>
                      ∃ c10 : Int, r6 = .int .i64 c10 ∧
                      IfB (c10 == (12 : Int)) (IfB ((c6.len : Int) == (0 : Int)) (IfB (c7 == (0 : Int)) (HCalls Try.prog fn_slot_Slots_Dead #[.pointer none] vh8 fun r7 vh9 =>
                            ∃ c11 : Bool, r7 = .bool c11 ∧
                            IfB c11 (HCalls Try.prog fn_scarplaw19_awake #[] vh9 fun r8 vh10 =>
                              ∃ c12 : Bool, r8 = .bool c12 ∧
                              R (.bool c12) vh10)
                            (R (.bool false) vh9))
                          (R (.bool false) vh8))
                        (R (.bool false) vh8))
                      (R (.bool false) vh8))
                    (R (.bool false) vh7))
                  (R (.bool false) vh4))
                (R (.bool false) vh3))
              (IfB (c3 == (1 : Int)) (IfB (c5 == (1 : Int)) (HCalls Try.prog fn_slot_Slots_Room #[.pointer none] vh3 fun r9 vh11 =>
                    ∃ c13 : Int, r9 = .int .i64 c13 ∧
                    IfB (c13 == (0 : Int)) (let vh12 := alc vh11 [.int .u8 (120 : Int)] ty_uint8;
                      ∃ a1 : Addr, (Sl.mk (some (nw vh11)) 1 1).base = some a1 ∧
                      let vh13 := hstr vh12 a1;
                      HCalls Try.prog fn_slot_Slots_Save #[.pointer none, .slice (Sl.mk (some (nw vh11)) 1 1).base (Sl.mk (some (nw vh11)) 1 1).len (Sl.mk (some (nw vh11)) 1 1).cap] vh13 fun r10 vh14 =>
                      ∃ c14 : Int, r10 = .int .i64 c14 ∧
                      IfB (c14 == (7 : Int)) (HCalls Try.prog fn_slot_Slots_Save #[.pointer none, .slice Sl.nil.base Sl.nil.len Sl.nil.cap] vh14 fun r11 vh15 =>
                        ∃ c15 : Int, r11 = .int .i64 c15 ∧
                        IfB (c15 == (12 : Int)) (IfB ((c6.len : Int) == (0 : Int)) (IfB (c7 == (0 : Int)) (HCalls Try.prog fn_slot_Slots_Dead #[.pointer none] vh15 fun r12 vh16 =>
                              ∃ c16 : Bool, r12 = .bool c16 ∧
                              IfB c16 (HCalls Try.prog fn_scarplaw19_awake #[] vh16 fun r13 vh17 =>
                                ∃ c17 : Bool, r13 = .bool c17 ∧
                                R (.bool c17) vh17)
                              (R (.bool false) vh16))
                            (R (.bool false) vh15))
                          (R (.bool false) vh15))
                        (R (.bool false) vh15))
                      (R (.bool false) vh14))
                    (R (.bool false) vh11))
                  (R (.bool false) vh3))
                (R (.bool false) vh3)))
            (R (.bool false) vh3))
          (R (.bool false) vh3))
        (IfB ((c3 == (0 : Int)) == false) (IfB ((!isNone? c2) == false) (IfB (c3 == (1 : Int)) (IfB (c5 == (1 : Int)) (HCalls Try.prog fn_slot_Slots_Room #[.pointer none] vh3 fun r14 vh18 =>
                  ∃ c18 : Int, r14 = .int .i64 c18 ∧
                  IfB (c18 == (0 : Int)) (let vh19 := alc vh18 [.int .u8 (120 : Int)] ty_uint8;
                    ∃ a2 : Addr, (Sl.mk (some (nw vh18)) 1 1).base = some a2 ∧
                    let vh20 := hstr vh19 a2;
                    HCalls Try.prog fn_slot_Slots_Save #[.pointer none, .slice (Sl.mk (some (nw vh18)) 1 1).base (Sl.mk (some (nw vh18)) 1 1).len (Sl.mk (some (nw vh18)) 1 1).cap] vh20 fun r15 vh21 =>
                    ∃ c19 : Int, r15 = .int .i64 c19 ∧
                    IfB (c19 == (7 : Int)) (HCalls Try.prog fn_slot_Slots_Save #[.pointer none, .slice Sl.nil.base Sl.nil.len Sl.nil.cap] vh21 fun r16 vh22 =>
                      ∃ c20 : Int, r16 = .int .i64 c20 ∧
                      IfB (c20 == (12 : Int)) (IfB ((c6.len : Int) == (0 : Int)) (IfB (c7 == (0 : Int)) (HCalls Try.prog fn_slot_Slots_Dead #[.pointer none] vh22 fun r17 vh23 =>
                            ∃ c21 : Bool, r17 = .bool c21 ∧
                            IfB c21 (HCalls Try.prog fn_scarplaw19_awake #[] vh23 fun r18 vh24 =>
                              ∃ c22 : Bool, r18 = .bool c22 ∧
                              R (.bool c22) vh24)
                            (R (.bool false) vh23))
                          (R (.bool false) vh22))
                        (R (.bool false) vh22))
                      (R (.bool false) vh22))
                    (R (.bool false) vh21))
                  (R (.bool false) vh18))
                (R (.bool false) vh3))
              (R (.bool false) vh3))
            (R (.bool false) vh3))
          (R (.bool false) vh3)))
      (IfB ((c3 == (0 : Int)) == false) (IfB ((!isNone? c2) == false) (IfB (c3 == (1 : Int)) (IfB (c5 == (1 : Int)) (HCalls Try.prog fn_slot_Slots_Room #[.pointer none] vh3 fun r19 vh25 =>
                ∃ c23 : Int, r19 = .int .i64 c23 ∧
                IfB (c23 == (0 : Int)) (let vh26 := alc vh25 [.int .u8 (120 : Int)] ty_uint8;
                  ∃ a3 : Addr, (Sl.mk (some (nw vh25)) 1 1).base = some a3 ∧
                  let vh27 := hstr vh26 a3;
                  HCalls Try.prog fn_slot_Slots_Save #[.pointer none, .slice (Sl.mk (some (nw vh25)) 1 1).base (Sl.mk (some (nw vh25)) 1 1).len (Sl.mk (some (nw vh25)) 1 1).cap] vh27 fun r20 vh28 =>
                  ∃ c24 : Int, r20 = .int .i64 c24 ∧
                  IfB (c24 == (7 : Int)) (HCalls Try.prog fn_slot_Slots_Save #[.pointer none, .slice Sl.nil.base Sl.nil.len Sl.nil.cap] vh28 fun r21 vh29 =>
                    ∃ c25 : Int, r21 = .int .i64 c25 ∧
                    IfB (c25 == (12 : Int)) (IfB ((c6.len : Int) == (0 : Int)) (IfB (c7 == (0 : Int)) (HCalls Try.prog fn_slot_Slots_Dead #[.pointer none] vh29 fun r22 vh30 =>
                          ∃ c26 : Bool, r22 = .bool c26 ∧
                          IfB c26 (HCalls Try.prog fn_scarplaw19_awake #[] vh30 fun r23 vh31 =>
                            ∃ c27 : Bool, r23 = .bool c27 ∧
                            R (.bool c27) vh31)
                          (R (.bool false) vh30))
                        (R (.bool false) vh29))
                      (R (.bool false) vh29))
                    (R (.bool false) vh29))
                  (R (.bool false) vh28))
                (R (.bool false) vh25))
              (R (.bool false) vh3))
            (R (.bool false) vh3))
          (R (.bool false) vh3))
        (R (.bool false) vh3)))
    (IfB ((c3 == (0 : Int)) == false) (IfB ((!isNone? c2) == false) (IfB (c3 == (1 : Int)) (IfB (c5 == (1 : Int)) (HCalls Try.prog fn_slot_Slots_Room #[.pointer none] vh3 fun r24 vh32 =>
              ∃ c28 : Int, r24 = .int .i64 c28 ∧
              IfB (c28 == (0 : Int)) (let vh33 := alc vh32 [.int .u8 (120 : Int)] ty_uint8;
                ∃ a4 : Addr, (Sl.mk (some (nw vh32)) 1 1).base = some a4 ∧
                let vh34 := hstr vh33 a4;
                HCalls Try.prog fn_slot_Slots_Save #[.pointer none, .slice (Sl.mk (some (nw vh32)) 1 1).base (Sl.mk (some (nw vh32)) 1 1).len (Sl.mk (some (nw vh32)) 1 1).cap] vh34 fun r25 vh35 =>
                ∃ c29 : Int, r25 = .int .i64 c29 ∧
                IfB (c29 == (7 : Int)) (HCalls Try.prog fn_slot_Slots_Save #[.pointer none, .slice Sl.nil.base Sl.nil.len Sl.nil.cap] vh35 fun r26 vh36 =>
                  ∃ c30 : Int, r26 = .int .i64 c30 ∧
                  IfB (c30 == (12 : Int)) (IfB ((c6.len : Int) == (0 : Int)) (IfB (c7 == (0 : Int)) (HCalls Try.prog fn_slot_Slots_Dead #[.pointer none] vh36 fun r27 vh37 =>
                        ∃ c31 : Bool, r27 = .bool c31 ∧
                        IfB c31 (HCalls Try.prog fn_scarplaw19_awake #[] vh37 fun r28 vh38 =>
                          ∃ c32 : Bool, r28 = .bool c32 ∧
                          R (.bool c32) vh38)
                        (R (.bool false) vh37))
                      (R (.bool false) vh36))
                    (R (.bool false) vh36))
                  (R (.bool false) vh36))
                (R (.bool false) vh35))
              (R (.bool false) vh32))
            (R (.bool false) vh3))
          (R (.bool false) vh3))
        (R (.bool false) vh3))
      (R (.bool false) vh3)))
theorem scarplaw19_SlotNothing_vc {low : Int} {mid : Int} {high : Int} {h : Hp} {R : Value → Hp → Prop} (H : vcscarplaw19_SlotNothing low mid high h R) : HCalls Try.prog fn_scarplaw19_SlotNothing #[.int .i64 low, .int .i64 mid, .int .i64 high] h R :=
  vc_fn (annOf [] []) Try.func4 [.int .i64 low, .int .i64 mid, .int .i64 high] (by kernel_rfl) (V := vcscarplaw19_SlotNothing low mid high h R) (by kernel_rfl) H

def vcscarplaw19_SlotApart (l : Sl) (picks : Sl) (h : Hp) (R : Value → Hp → Prop) : Prop :=
  IfB (decide ((l.len : Int) > (20 : Int))) (HCalls Try.prog fn_scarplaw19_awake #[] h fun r vh =>
    ∃ c : Bool, r = .bool c ∧
    R (.bool c) vh)
  (IfB (decide ((picks.len : Int) > (30 : Int))) (HCalls Try.prog fn_scarplaw19_awake #[] h fun r1 vh1 =>
      ∃ c1 : Bool, r1 = .bool c1 ∧
      R (.bool c1) vh1)
    (HCalls Try.prog fn_scarplaw19_dev #[] h fun r2 vh2 =>
      ∃ c2 : Option Addr, ∃ c3 : Bool, r2 = .tuple #[.pointer c2, .bool c3] ∧
      IfB (!c3) (R (.bool false) vh2)
      (HCalls Try.prog fn_slot_Open #[.pointer c2, .int .i64 (0 : Int), .int .i64 (2 : Int), .int .i64 (4 : Int)] vh2 fun r3 vh3 =>
        ∃ c4 : Option Addr, ∃ c5 : Int, r3 = .tuple #[.pointer c4, .int .i64 c5] ∧
        HCalls Try.prog fn_slot_Open #[.pointer c2, .int .i64 (5 : Int), .int .i64 (6 : Int), .int .i64 (7 : Int)] vh3 fun r4 vh4 =>
        ∃ c6 : Option Addr, ∃ c7 : Int, r4 = .tuple #[.pointer c6, .int .i64 c7] ∧
        IfB (c5 != (0 : Int)) (R (.bool false) vh4)
        (IfB (c7 != (0 : Int)) (R (.bool false) vh4)
          (IfB (isNone? c4) (R (.bool false) vh4)
            (IfB (isNone? c6) (R (.bool false) vh4)
              (∃ (vI : Sl → Sl → Int → Int → Int → Nat → Hp → Prop) (n : Nat), vI Sl.nil Sl.nil (0 : Int) (0 : Int) (0 : Int) n vh4 ∧
                ∀ _junk : Nat → Value, ∀ x : Sl, ∀ y : Sl, ∀ n3 : Int, ∀ vm : Int, ∀ i : Int, ∀ (n1 : Nat) (vh5 : Hp), vI x y n3 vm i n1 vh5 →
                IfB (decide (i < (l.len : Int))) (∃ a : Addr, l.base = some a ∧ 0 ≤ i ∧ i < (l.len : Int) ∧
                  ∃ c8 : Int, hcell vh5 (a.add ((i).toNat * 1)) = some (.int .i64 c8) ∧
                  HCalls Try.prog fn_scarpalike_Round #[.int .i64 c8, .int .i64 (2000 : Int)] vh5 fun r5 vh6 =>
                  ∃ c9 : Int, r5 = .int .i64 c9 ∧
                  HCalls Try.prog fn_scarpalike_Block #[.int .i64 c9, .int .i64 i] vh6 fun r6 vh7 =>
                  ∃ c10 : Sl, r6 = .slice c10.base c10.len c10.cap ∧
                  (2 : Int) ≠ 0 ∧
                  IfB ((iRem i (2 : Int)) == (0 : Int)) (HCalls Try.prog fn_slot_Slots_Save #[.pointer c4, .slice c10.base c10.len c10.cap] vh7 fun r7 vh8 =>
                    ∃ c11 : Int, r7 = .int .i64 c11 ∧
                    IfB (c11 != (0 : Int)) (R (.bool false) vh8)
                    (∃ n2, n2 < n1 ∧ vI c10 y (iAdd .i64 n3 (1 : Int)) vm (iAdd .i64 i (1 : Int)) n2 vh8))
                  (HCalls Try.prog fn_slot_Slots_Save #[.pointer c6, .slice c10.base c10.len c10.cap] vh7 fun r8 vh9 =>
                    ∃ c12 : Int, r8 = .int .i64 c12 ∧
                    IfB (c12 != (0 : Int)) (R (.bool false) vh9)
                    (∃ n2, n2 < n1 ∧ vI x c10 n3 (iAdd .i64 vm (1 : Int)) (iAdd .i64 i (1 : Int)) n2 vh9)))
                (HCalls Try.prog fn_zdev_Dev_Pointer #[.pointer c2, .int .i64 (4 : Int)] vh5 fun r9 vh10 =>
                  ∃ c13 : Int, ∃ c14 : Int, r9 = .tuple #[.int .i64 c13, .int .i64 c14] ∧
                  HCalls Try.prog fn_zdev_Dev_Pointer #[.pointer c2, .int .i64 (7 : Int)] vh10 fun r10 vh11 =>
                  ∃ c15 : Int, ∃ c16 : Int, r10 = .tuple #[.int .i64 c15, .int .i64 c16] ∧
                  HCalls Try.prog fn_zdev_Dev_Crash #[.pointer c2, .slice picks.base picks.len picks.cap, .slice picks.base picks.len picks.cap] vh11 fun r11 vh12 =>
                  ∃ c17 : Option Addr, r11 = .pointer c17 ∧
                  IfB (c14 != (0 : Int)) (R (.bool false) vh12)
                  (IfB (c16 != (0 : Int)) (R (.bool false) vh12)
                    (IfB (c13 != (0 : Int)) (R (.bool false) vh12)
                      (IfB (c15 != (0 : Int)) (R (.bool false) vh12)
                        (IfB (isNone? c17) (R (.bool false) vh12)
                          (HCalls Try.prog fn_slot_Open #[.pointer c17, .int .i64 (0 : Int), .int .i64 (2 : Int), .int .i64 (4 : Int)] vh12 fun r12 vh13 =>
                            ∃ c18 : Option Addr, ∃ c19 : Int, r12 = .tuple #[.pointer c18, .int .i64 c19] ∧
                            HCalls Try.prog fn_slot_Open #[.pointer c17, .int .i64 (5 : Int), .int .i64 (6 : Int), .int .i64 (7 : Int)] vh13 fun r13 vh14 =>
                            ∃ c20 : Option Addr, ∃ c21 : Int, r13 = .tuple #[.pointer c20, .int .i64 c21] ∧
                            IfB (c19 != (0 : Int)) (R (.bool false) vh14)
                            (IfB (c21 != (0 : Int)) (R (.bool false) vh14)
                              (IfB (isNone? c18) (R (.bool false) vh14)
                                (IfB (isNone? c20) (R (.bool false) vh14)
                                  (HCalls Try.prog fn_slot_Slots_Load #[.pointer c18] vh14 fun r14 vh15 =>
                                    ∃ c22 : Sl, ∃ c23 : Int, r14 = .tuple #[.slice c22.base c22.len c22.cap, .int .i64 c23] ∧
                                    HCalls Try.prog fn_slot_Slots_Load #[.pointer c20] vh15 fun r15 vh16 =>
                                    ∃ c24 : Sl, ∃ c25 : Int, r15 = .tuple #[.slice c24.base c24.len c24.cap, .int .i64 c25] ∧
                                    HCalls Try.prog fn_scarpalike_Bytes #[.slice c22.base c22.len c22.cap, .slice x.base x.len x.cap] vh16 fun r16 vh17 =>
                                    ∃ c26 : Bool, r16 = .bool c26 ∧
                                    IfB c26 (IfB (c23 == n3) (HCalls Try.prog fn_scarpalike_Bytes #[.slice c24.base c24.len c24.cap, .slice y.base y.len y.cap] vh17 fun r17 vh18 =>
                                        ∃ c27 : Bool, r17 = .bool c27 ∧
                                        IfB c27 (IfB (c25 == vm) (HCalls Try.prog fn_scarplaw19_awake #[] vh18 fun r18 vh19 =>
                                            ∃ c28 : Bool, r18 = .bool c28 ∧
                                            R (.bool c28) vh19)
                                          (R (.bool false) vh18))
                                        (R (.bool false) vh18))
                                      (R (.bool false) vh17))
                                    (R (.bool false) vh17))))))))))))))))))
theorem scarplaw19_SlotApart_vc {l : Sl} {picks : Sl} {h : Hp} {R : Value → Hp → Prop} (H : vcscarplaw19_SlotApart l picks h R) : HCalls Try.prog fn_scarplaw19_SlotApart #[.slice l.base l.len l.cap, .slice picks.base picks.len picks.cap] h R :=
  vc_fn (annOf [(0, [(11, .sl), (12, .sl), (13, .int .i64), (14, .int .i64), (15, .int .i64)])] []) Try.func5 [.slice l.base l.len l.cap, .slice picks.base picks.len picks.cap] (by kernel_rfl) (V := vcscarplaw19_SlotApart l picks h R) (by kernel_rfl) H

def vcscarplaw19_SlotTurns (n : Int) (sizes : Sl) (picks : Sl) (torn : Sl) (h : Hp) (R : Value → Hp → Prop) : Prop :=
  IfB (decide (n < (0 : Int))) (HCalls Try.prog fn_scarplaw19_awake #[] h fun r vh =>
    ∃ c : Bool, r = .bool c ∧
    R (.bool c) vh)
  (IfB (decide (n > (20 : Int))) (HCalls Try.prog fn_scarplaw19_awake #[] h fun r1 vh1 =>
      ∃ c1 : Bool, r1 = .bool c1 ∧
      R (.bool c1) vh1)
    (IfB (decide ((sizes.len : Int) > (20 : Int))) (HCalls Try.prog fn_scarplaw19_awake #[] h fun r2 vh2 =>
        ∃ c2 : Bool, r2 = .bool c2 ∧
        R (.bool c2) vh2)
      (IfB (decide ((picks.len : Int) > (30 : Int))) (HCalls Try.prog fn_scarplaw19_awake #[] h fun r3 vh3 =>
          ∃ c3 : Bool, r3 = .bool c3 ∧
          R (.bool c3) vh3)
        (IfB (decide ((torn.len : Int) > (30 : Int))) (HCalls Try.prog fn_scarplaw19_awake #[] h fun r4 vh4 =>
            ∃ c4 : Bool, r4 = .bool c4 ∧
            R (.bool c4) vh4)
          (HCalls Try.prog fn_scarplaw19_dev #[] h fun r5 vh5 =>
            ∃ c5 : Option Addr, ∃ c6 : Bool, r5 = .tuple #[.pointer c5, .bool c6] ∧
            IfB (!c6) (R (.bool false) vh5)
            (∃ (vI : Option Addr → Sl → Int → Nat → Hp → Prop) (n1 : Nat), vI c5 Sl.nil (0 : Int) n1 vh5 ∧
              ∀ _junk : Nat → Value, ∀ d : Option Addr, ∀ want : Sl, ∀ i : Int, ∀ (n2 : Nat) (vh6 : Hp), vI d want i n2 vh6 →
              IfB (decide (i < n)) (HCalls Try.prog fn_slot_Open #[.pointer d, .int .i64 (1 : Int), .int .i64 (2 : Int), .int .i64 (3 : Int)] vh6 fun r6 vh7 =>
                ∃ c7 : Option Addr, ∃ c8 : Int, r6 = .tuple #[.pointer c7, .int .i64 c8] ∧
                IfB (c8 != (0 : Int)) (R (.bool false) vh7)
                (IfB (isNone? c7) (R (.bool false) vh7)
                  (HCalls Try.prog fn_slot_Slots_Load #[.pointer c7] vh7 fun r7 vh8 =>
                    ∃ c9 : Sl, ∃ c10 : Int, r7 = .tuple #[.slice c9.base c9.len c9.cap, .int .i64 c10] ∧
                    IfB (c10 != i) (R (.bool false) vh8)
                    (HCalls Try.prog fn_scarpalike_Bytes #[.slice c9.base c9.len c9.cap, .slice want.base want.len want.cap] vh8 fun r8 vh9 =>
                      ∃ c11 : Bool, r8 = .bool c11 ∧
                      IfB (!c11) (R (.bool false) vh9)
                      (IfB (decide (i < (sizes.len : Int))) (∃ a : Addr, sizes.base = some a ∧ 0 ≤ i ∧ i < (sizes.len : Int) ∧
                          ∃ c12 : Int, hcell vh9 (a.add ((i).toNat * 1)) = some (.int .i64 c12) ∧
                          HCalls Try.prog fn_scarpalike_Round #[.int .i64 c12, .int .i64 (3000 : Int)] vh9 fun r9 vh10 =>
                          ∃ c13 : Int, r9 = .int .i64 c13 ∧
                          HCalls Try.prog fn_scarpalike_Block #[.int .i64 c13, .int .i64 i] vh10 fun r10 vh11 =>
                          ∃ c14 : Sl, r10 = .slice c14.base c14.len c14.cap ∧
                          HCalls Try.prog fn_slot_Slots_Save #[.pointer c7, .slice c14.base c14.len c14.cap] vh11 fun r11 vh12 =>
                          ∃ c15 : Int, r11 = .int .i64 c15 ∧
                          IfB (c15 != (0 : Int)) (R (.bool false) vh12)
                          (HCalls Try.prog fn_zdev_Dev_Crash #[.pointer d, .slice picks.base picks.len picks.cap, .slice torn.base torn.len torn.cap] vh12 fun r12 vh13 =>
                            ∃ c16 : Option Addr, r12 = .pointer c16 ∧
                            ∃ n3, n3 < n2 ∧ vI c16 c14 (iAdd .i64 i (1 : Int)) n3 vh13))
                        (HCalls Try.prog fn_scarpalike_Block #[.int .i64 i, .int .i64 i] vh9 fun r13 vh14 =>
                          ∃ c17 : Sl, r13 = .slice c17.base c17.len c17.cap ∧
                          HCalls Try.prog fn_slot_Slots_Save #[.pointer c7, .slice c17.base c17.len c17.cap] vh14 fun r14 vh15 =>
                          ∃ c18 : Int, r14 = .int .i64 c18 ∧
                          IfB (c18 != (0 : Int)) (R (.bool false) vh15)
                          (HCalls Try.prog fn_zdev_Dev_Crash #[.pointer d, .slice picks.base picks.len picks.cap, .slice torn.base torn.len torn.cap] vh15 fun r15 vh16 =>
                            ∃ c19 : Option Addr, r15 = .pointer c19 ∧
                            ∃ n3, n3 < n2 ∧ vI c19 c17 (iAdd .i64 i (1 : Int)) n3 vh16)))))))
              (HCalls Try.prog fn_slot_Open #[.pointer d, .int .i64 (1 : Int), .int .i64 (2 : Int), .int .i64 (3 : Int)] vh6 fun r16 vh17 =>
                ∃ c20 : Option Addr, ∃ c21 : Int, r16 = .tuple #[.pointer c20, .int .i64 c21] ∧
                IfB (c21 != (0 : Int)) (R (.bool false) vh17)
                (IfB (isNone? c20) (R (.bool false) vh17)
                  (HCalls Try.prog fn_slot_Slots_Load #[.pointer c20] vh17 fun r17 vh18 =>
                    ∃ c22 : Sl, ∃ c23 : Int, r17 = .tuple #[.slice c22.base c22.len c22.cap, .int .i64 c23] ∧
                    IfB (c23 == n) (HCalls Try.prog fn_scarpalike_Bytes #[.slice c22.base c22.len c22.cap, .slice want.base want.len want.cap] vh18 fun r18 vh19 =>
                      ∃ c24 : Bool, r18 = .bool c24 ∧
                      IfB c24 (HCalls Try.prog fn_scarplaw19_awake #[] vh19 fun r19 vh20 =>
                        ∃ c25 : Bool, r19 = .bool c25 ∧
                        R (.bool c25) vh20)
                      (R (.bool false) vh19))
                    (R (.bool false) vh18))))))))))
theorem scarplaw19_SlotTurns_vc {n : Int} {sizes : Sl} {picks : Sl} {torn : Sl} {h : Hp} {R : Value → Hp → Prop} (H : vcscarplaw19_SlotTurns n sizes picks torn h R) : HCalls Try.prog fn_scarplaw19_SlotTurns #[.int .i64 n, .slice sizes.base sizes.len sizes.cap, .slice picks.base picks.len picks.cap, .slice torn.base torn.len torn.cap] h R :=
  vc_fn (annOf [(0, [(9, .ptr), (11, .sl), (12, .int .i64)])] []) Try.func6 [.int .i64 n, .slice sizes.base sizes.len sizes.cap, .slice picks.base picks.len picks.cap, .slice torn.base torn.len torn.cap] (by kernel_rfl) (V := vcscarplaw19_SlotTurns n sizes picks torn h R) (by kernel_rfl) H

def vcscarplaw19_SlotCrash (sizes : Sl) (cut : Int) (picks : Sl) (torn : Sl) (cuts : Sl) (h : Hp) (R : Value → Hp → Prop) : Prop :=
  IfB (decide ((sizes.len : Int) > (20 : Int))) (HCalls Try.prog fn_scarplaw19_awake #[] h fun r vh =>
    ∃ c : Bool, r = .bool c ∧
    R (.bool c) vh)
  (IfB (decide (cut < (0 : Int))) (HCalls Try.prog fn_scarplaw19_awake #[] h fun r1 vh1 =>
      ∃ c1 : Bool, r1 = .bool c1 ∧
      R (.bool c1) vh1)
    (IfB (decide (cut > (1000 : Int))) (HCalls Try.prog fn_scarplaw19_awake #[] h fun r2 vh2 =>
        ∃ c2 : Bool, r2 = .bool c2 ∧
        R (.bool c2) vh2)
      (IfB (decide ((picks.len : Int) > (60 : Int))) (HCalls Try.prog fn_scarplaw19_awake #[] h fun r3 vh3 =>
          ∃ c3 : Bool, r3 = .bool c3 ∧
          R (.bool c3) vh3)
        (IfB (decide ((torn.len : Int) > (60 : Int))) (HCalls Try.prog fn_scarplaw19_awake #[] h fun r4 vh4 =>
            ∃ c4 : Bool, r4 = .bool c4 ∧
            R (.bool c4) vh4)
          (IfB (decide ((cuts.len : Int) > (5 : Int))) (HCalls Try.prog fn_scarplaw19_awake #[] h fun r5 vh5 =>
              ∃ c5 : Bool, r5 = .bool c5 ∧
              R (.bool c5) vh5)
            (HCalls Try.prog fn_scarplaw19_dev #[] h fun r6 vh6 =>
              ∃ c6 : Option Addr, ∃ c7 : Bool, r6 = .tuple #[.pointer c6, .bool c7] ∧
              IfB (!c7) (R (.bool false) vh6)
              (HCalls Try.prog fn_slot_Open #[.pointer c6, .int .i64 (2 : Int), .int .i64 (4 : Int), .int .i64 (6 : Int)] vh6 fun r7 vh7 =>
                ∃ c8 : Option Addr, ∃ c9 : Int, r7 = .tuple #[.pointer c8, .int .i64 c9] ∧
                IfB (c9 != (0 : Int)) (R (.bool false) vh7)
                (IfB (isNone? c8) (R (.bool false) vh7)
                  (HCalls Try.prog fn_zdev_Dev_Cut #[.pointer c6, .int .i64 cut] vh7 fun r8 vh8 =>
                    r8 = .tuple #[] ∧
                    ∃ (vI : Sl → Sl → Int → Int → Nat → Hp → Prop) (n : Nat), vI Sl.nil Sl.nil (0 : Int) (0 : Int) n vh8 ∧
                    ∀ _junk : Nat → Value, ∀ kept : Sl, ∀ may : Sl, ∀ n3 : Int, ∀ i : Int, ∀ (n1 : Nat) (vh9 : Hp), vI kept may n3 i n1 vh9 →
                    IfB (decide (i < (sizes.len : Int))) (∃ a : Addr, sizes.base = some a ∧ 0 ≤ i ∧ i < (sizes.len : Int) ∧
                      ∃ c10 : Int, hcell vh9 (a.add ((i).toNat * 1)) = some (.int .i64 c10) ∧
                      HCalls Try.prog fn_scarpalike_Round #[.int .i64 c10, .int .i64 (3000 : Int)] vh9 fun r9 vh10 =>
                      ∃ c11 : Int, r9 = .int .i64 c11 ∧
                      HCalls Try.prog fn_scarpalike_Block #[.int .i64 c11, .int .i64 i] vh10 fun r10 vh11 =>
                      ∃ c12 : Sl, r10 = .slice c12.base c12.len c12.cap ∧
                      HCalls Try.prog fn_slot_Slots_Save #[.pointer c8, .slice c12.base c12.len c12.cap] vh11 fun r11 vh12 =>
                      ∃ c13 : Int, r11 = .int .i64 c13 ∧
                      IfB (c13 == (12 : Int)) (HCalls Try.prog fn_slot_Slots_Dead #[.pointer c8] vh12 fun r12 vh13 =>
                        ∃ c14 : Bool, r12 = .bool c14 ∧
                        IfB (!c14) (R (.bool false) vh13)
                        (IfB (n3 == (sizes.len : Int)) (HCalls Try.prog fn_zdev_Dev_Crash #[.pointer c6, .slice picks.base picks.len picks.cap, .slice torn.base torn.len torn.cap] vh13 fun r13 vh14 =>
                            ∃ c15 : Option Addr, r13 = .pointer c15 ∧
                            ∃ (vI1 : Option Addr → Int → Nat → Hp → Prop) (n4 : Nat), vI1 c15 (0 : Int) n4 vh14 ∧
                            ∀ _junk : Nat → Value, ∀ d : Option Addr, ∀ i1 : Int, ∀ (n5 : Nat) (vh15 : Hp), vI1 d i1 n5 vh15 →
                            IfB (decide (i1 < (cuts.len : Int))) (∃ a1 : Addr, cuts.base = some a1 ∧ 0 ≤ i1 ∧ i1 < (cuts.len : Int) ∧
                              ∃ c16 : Int, hcell vh15 (a1.add ((i1).toNat * 1)) = some (.int .i64 c16) ∧
                              HCalls Try.prog fn_scarpalike_Round #[.int .i64 c16, .int .i64 (20 : Int)] vh15 fun r14 vh16 =>
                              ∃ c17 : Int, r14 = .int .i64 c17 ∧
                              HCalls Try.prog fn_zdev_Dev_Cut #[.pointer d, .int .i64 c17] vh16 fun r15 vh17 =>
                              r15 = .tuple #[] ∧
                              HCalls Try.prog fn_slot_Open #[.pointer d, .int .i64 (2 : Int), .int .i64 (4 : Int), .int .i64 (6 : Int)] vh17 fun r16 vh18 =>
                              ∃ c18 : Option Addr, ∃ c19 : Int, r16 = .tuple #[.pointer c18, .int .i64 c19] ∧
                              HCalls Try.prog fn_zdev_Dev_Crash #[.pointer d, .slice picks.base picks.len picks.cap, .slice torn.base torn.len torn.cap] vh18 fun r17 vh19 =>
                              ∃ c20 : Option Addr, r17 = .pointer c20 ∧
                              ∃ n6, n6 < n5 ∧ vI1 c20 (iAdd .i64 i1 (1 : Int)) n6 vh19)
                            (HCalls Try.prog fn_slot_Open #[.pointer d, .int .i64 (2 : Int), .int .i64 (4 : Int), .int .i64 (6 : Int)] vh15 fun r18 vh20 =>
                              ∃ c21 : Option Addr, ∃ c22 : Int, r18 = .tuple #[.pointer c21, .int .i64 c22] ∧
                              IfB (c22 != (0 : Int)) (R (.bool false) vh20)
                              (IfB (isNone? c21) (R (.bool false) vh20)
                                (HCalls Try.prog fn_slot_Slots_Load #[.pointer c21] vh20 fun r19 vh21 =>
                                  ∃ c23 : Sl, ∃ c24 : Int, r19 = .tuple #[.slice c23.base c23.len c23.cap, .int .i64 c24] ∧
                                  IfB (c24 == n3) (HCalls Try.prog fn_scarpalike_Bytes #[.slice c23.base c23.len c23.cap, .slice kept.base kept.len kept.cap] vh21 fun r20 vh22 =>
                                    ∃ c25 : Bool, r20 = .bool c25 ∧
                                    IfB (!c25) (IfB (c24 == (iAdd .i64 n3 (1 : Int))) (HCalls Try.prog fn_scarpalike_Bytes #[.slice c23.base c23.len c23.cap, .slice kept.base kept.len kept.cap] vh22 fun r21 vh23 =>
                                        ∃ c26 : Bool, r21 = .bool c26 ∧
                                        IfB (!c26) (R (.bool false) vh23)
                                        (HCalls Try.prog fn_zdev_Dev_Crash #[.pointer d, .slice picks.base picks.len picks.cap, .slice torn.base torn.len torn.cap] vh23 fun r22 vh24 =>
                                          ∃ c27 : Option Addr, r22 = .pointer c27 ∧
                                          HCalls Try.prog fn_slot_Open #[.pointer c27, .int .i64 (2 : Int), .int .i64 (4 : Int), .int .i64 (6 : Int)] vh24 fun r23 vh25 =>
                                          ∃ c28 : Option Addr, ∃ c29 : Int, r23 = .tuple #[.pointer c28, .int .i64 c29] ∧
                                          IfB (c29 != (0 : Int)) (R (.bool false) vh25)
                                          (IfB (isNone? c28) (R (.bool false) vh25)
                                            (let vh26 := alc vh25 [.int .u8 (110 : Int), .int .u8 (101 : Int), .int .u8 (120 : Int), .int .u8 (116 : Int)] ty_uint8;
                                              ∃ a2 : Addr, (Sl.mk (some (nw vh25)) 4 4).base = some a2 ∧
                                              let vh27 := hstr vh26 a2;
                                              HCalls Try.prog fn_slot_Slots_Save #[.pointer c28, .slice (Sl.mk (some (nw vh25)) 4 4).base (Sl.mk (some (nw vh25)) 4 4).len (Sl.mk (some (nw vh25)) 4 4).cap] vh27 fun r24 vh28 =>
                                              ∃ c30 : Int, r24 = .int .i64 c30 ∧
                                              IfB (c30 != (0 : Int)) (R (.bool false) vh28)
                                              (HCalls Try.prog fn_slot_Slots_Load #[.pointer c28] vh28 fun r25 vh29 =>
                                                ∃ c31 : Sl, ∃ c32 : Int, r25 = .tuple #[.slice c31.base c31.len c31.cap, .int .i64 c32] ∧
                                                ∃ bs : List UInt8, bs.length = c31.len ∧ RdC vh29 c31.base (bs.map fun x => .int .u8 (x.toNat : Int)) ∧
                                                IfB ((ByteArray.mk bs.toArray).toList == (ByteArray.mk #[110, 101, 120, 116]).toList) (IfB (c32 == (iAdd .i64 c24 (1 : Int))) (HCalls Try.prog fn_scarplaw19_awake #[] vh29 fun r26 vh30 =>
                                                    ∃ c33 : Bool, r26 = .bool c33 ∧
                                                    R (.bool c33) vh30)
                                                  (R (.bool false) vh29))
                                                (R (.bool false) vh29))))))
                                      (IfB (!false) (R (.bool false) vh22)
                                        (HCalls Try.prog fn_zdev_Dev_Crash #[.pointer d, .slice picks.base picks.len picks.cap, .slice torn.base torn.len torn.cap] vh22 fun r27 vh31 =>
                                          ∃ c34 : Option Addr, r27 = .pointer c34 ∧
                                          HCalls Try.prog fn_slot_Open #[.pointer c34, .int .i64 (2 : Int), .int .i64 (4 : Int), .int .i64 (6 : Int)] vh31 fun r28 vh32 =>
                                          ∃ c35 : Option Addr, ∃ c36 : Int, r28 = .tuple #[.pointer c35, .int .i64 c36] ∧
                                          IfB (c36 != (0 : Int)) (R (.bool false) vh32)
                                          (IfB (isNone? c35) (R (.bool false) vh32)
                                            (let vh33 := alc vh32 [.int .u8 (110 : Int), .int .u8 (101 : Int), .int .u8 (120 : Int), .int .u8 (116 : Int)] ty_uint8;
                                              ∃ a3 : Addr, (Sl.mk (some (nw vh32)) 4 4).base = some a3 ∧
                                              let vh34 := hstr vh33 a3;
                                              HCalls Try.prog fn_slot_Slots_Save #[.pointer c35, .slice (Sl.mk (some (nw vh32)) 4 4).base (Sl.mk (some (nw vh32)) 4 4).len (Sl.mk (some (nw vh32)) 4 4).cap] vh34 fun r29 vh35 =>
                                              ∃ c37 : Int, r29 = .int .i64 c37 ∧
                                              IfB (c37 != (0 : Int)) (R (.bool false) vh35)
                                              (HCalls Try.prog fn_slot_Slots_Load #[.pointer c35] vh35 fun r30 vh36 =>
                                                ∃ c38 : Sl, ∃ c39 : Int, r30 = .tuple #[.slice c38.base c38.len c38.cap, .int .i64 c39] ∧
                                                ∃ bs1 : List UInt8, bs1.length = c38.len ∧ RdC vh36 c38.base (bs1.map fun x => .int .u8 (x.toNat : Int)) ∧
                                                IfB ((ByteArray.mk bs1.toArray).toList == (ByteArray.mk #[110, 101, 120, 116]).toList) (IfB (c39 == (iAdd .i64 c24 (1 : Int))) (HCalls Try.prog fn_scarplaw19_awake #[] vh36 fun r31 vh37 =>
                                                    ∃ c40 : Bool, r31 = .bool c40 ∧
                                                    R (.bool c40) vh37)
                                                  (R (.bool false) vh36))
                                                (R (.bool false) vh36)))))))
                                    (HCalls Try.prog fn_zdev_Dev_Crash #[.pointer d, .slice picks.base picks.len picks.cap, .slice torn.base torn.len torn.cap] vh22 fun r32 vh38 =>
                                      ∃ c41 : Option Addr, r32 = .pointer c41 ∧
                                      HCalls Try.prog fn_slot_Open #[.pointer c41, .int .i64 (2 : Int), .int .i64 (4 : Int), .int .i64 (6 : Int)] vh38 fun r33 vh39 =>
                                      ∃ c42 : Option Addr, ∃ c43 : Int, r33 = .tuple #[.pointer c42, .int .i64 c43] ∧
                                      IfB (c43 != (0 : Int)) (R (.bool false) vh39)
                                      (IfB (isNone? c42) (R (.bool false) vh39)
                                        (let vh40 := alc vh39 [.int .u8 (110 : Int), .int .u8 (101 : Int), .int .u8 (120 : Int), .int .u8 (116 : Int)] ty_uint8;
                                          ∃ a4 : Addr, (Sl.mk (some (nw vh39)) 4 4).base = some a4 ∧
                                          let vh41 := hstr vh40 a4;
                                          HCalls Try.prog fn_slot_Slots_Save #[.pointer c42, .slice (Sl.mk (some (nw vh39)) 4 4).base (Sl.mk (some (nw vh39)) 4 4).len (Sl.mk (some (nw vh39)) 4 4).cap] vh41 fun r34 vh42 =>
                                          ∃ c44 : Int, r34 = .int .i64 c44 ∧
                                          IfB (c44 != (0 : Int)) (R (.bool false) vh42)
                                          (HCalls Try.prog fn_slot_Slots_Load #[.pointer c42] vh42 fun r35 vh43 =>
                                            ∃ c45 : Sl, ∃ c46 : Int, r35 = .tuple #[.slice c45.base c45.len c45.cap, .int .i64 c46] ∧
                                            ∃ bs2 : List UInt8, bs2.length = c45.len ∧ RdC vh43 c45.base (bs2.map fun x => .int .u8 (x.toNat : Int)) ∧
                                            IfB ((ByteArray.mk bs2.toArray).toList == (ByteArray.mk #[110, 101, 120, 116]).toList) (IfB (c46 == (iAdd .i64 c24 (1 : Int))) (HCalls Try.prog fn_scarplaw19_awake #[] vh43 fun r36 vh44 =>
                                                ∃ c47 : Bool, r36 = .bool c47 ∧
                                                R (.bool c47) vh44)
                                              (R (.bool false) vh43))
                                            (R (.bool false) vh43))))))
                                  (IfB (!false) (IfB (c24 == (iAdd .i64 n3 (1 : Int))) (HCalls Try.prog fn_scarpalike_Bytes #[.slice c23.base c23.len c23.cap, .slice kept.base kept.len kept.cap] vh21 fun r37 vh45 =>
                                        ∃ c48 : Bool, r37 = .bool c48 ∧
                                        IfB (!c48) (R (.bool false) vh45)
                                        (HCalls Try.prog fn_zdev_Dev_Crash #[.pointer d, .slice picks.base picks.len picks.cap, .slice torn.base torn.len torn.cap] vh45 fun r38 vh46 =>
                                          ∃ c49 : Option Addr, r38 = .pointer c49 ∧
                                          HCalls Try.prog fn_slot_Open #[.pointer c49, .int .i64 (2 : Int), .int .i64 (4 : Int), .int .i64 (6 : Int)] vh46 fun r39 vh47 =>
                                          ∃ c50 : Option Addr, ∃ c51 : Int, r39 = .tuple #[.pointer c50, .int .i64 c51] ∧
                                          IfB (c51 != (0 : Int)) (R (.bool false) vh47)
                                          (IfB (isNone? c50) (R (.bool false) vh47)
                                            (let vh48 := alc vh47 [.int .u8 (110 : Int), .int .u8 (101 : Int), .int .u8 (120 : Int), .int .u8 (116 : Int)] ty_uint8;
                                              ∃ a5 : Addr, (Sl.mk (some (nw vh47)) 4 4).base = some a5 ∧
                                              let vh49 := hstr vh48 a5;
                                              HCalls Try.prog fn_slot_Slots_Save #[.pointer c50, .slice (Sl.mk (some (nw vh47)) 4 4).base (Sl.mk (some (nw vh47)) 4 4).len (Sl.mk (some (nw vh47)) 4 4).cap] vh49 fun r40 vh50 =>
                                              ∃ c52 : Int, r40 = .int .i64 c52 ∧
                                              IfB (c52 != (0 : Int)) (R (.bool false) vh50)
                                              (HCalls Try.prog fn_slot_Slots_Load #[.pointer c50] vh50 fun r41 vh51 =>
                                                ∃ c53 : Sl, ∃ c54 : Int, r41 = .tuple #[.slice c53.base c53.len c53.cap, .int .i64 c54] ∧
                                                ∃ bs3 : List UInt8, bs3.length = c53.len ∧ RdC vh51 c53.base (bs3.map fun x => .int .u8 (x.toNat : Int)) ∧
                                                IfB ((ByteArray.mk bs3.toArray).toList == (ByteArray.mk #[110, 101, 120, 116]).toList) (IfB (c54 == (iAdd .i64 c24 (1 : Int))) (HCalls Try.prog fn_scarplaw19_awake #[] vh51 fun r42 vh52 =>
                                                    ∃ c55 : Bool, r42 = .bool c55 ∧
                                                    R (.bool c55) vh52)
                                                  (R (.bool false) vh51))
                                                (R (.bool false) vh51))))))
                                      (IfB (!false) (R (.bool false) vh21)
                                        (HCalls Try.prog fn_zdev_Dev_Crash #[.pointer d, .slice picks.base picks.len picks.cap, .slice torn.base torn.len torn.cap] vh21 fun r43 vh53 =>
                                          ∃ c56 : Option Addr, r43 = .pointer c56 ∧
                                          HCalls Try.prog fn_slot_Open #[.pointer c56, .int .i64 (2 : Int), .int .i64 (4 : Int), .int .i64 (6 : Int)] vh53 fun r44 vh54 =>
                                          ∃ c57 : Option Addr, ∃ c58 : Int, r44 = .tuple #[.pointer c57, .int .i64 c58] ∧
                                          IfB (c58 != (0 : Int)) (R (.bool false) vh54)
                                          (IfB (isNone? c57) (R (.bool false) vh54)
                                            (let vh55 := alc vh54 [.int .u8 (110 : Int), .int .u8 (101 : Int), .int .u8 (120 : Int), .int .u8 (116 : Int)] ty_uint8;
                                              ∃ a6 : Addr, (Sl.mk (some (nw vh54)) 4 4).base = some a6 ∧
                                              let vh56 := hstr vh55 a6;
                                              HCalls Try.prog fn_slot_Slots_Save #[.pointer c57, .slice (Sl.mk (some (nw vh54)) 4 4).base (Sl.mk (some (nw vh54)) 4 4).len (Sl.mk (some (nw vh54)) 4 4).cap] vh56 fun r45 vh57 =>
                                              ∃ c59 : Int, r45 = .int .i64 c59 ∧
                                              IfB (c59 != (0 : Int)) (R (.bool false) vh57)
                                              (HCalls Try.prog fn_slot_Slots_Load #[.pointer c57] vh57 fun r46 vh58 =>
                                                ∃ c60 : Sl, ∃ c61 : Int, r46 = .tuple #[.slice c60.base c60.len c60.cap, .int .i64 c61] ∧
                                                ∃ bs4 : List UInt8, bs4.length = c60.len ∧ RdC vh58 c60.base (bs4.map fun x => .int .u8 (x.toNat : Int)) ∧
                                                IfB ((ByteArray.mk bs4.toArray).toList == (ByteArray.mk #[110, 101, 120, 116]).toList) (IfB (c61 == (iAdd .i64 c24 (1 : Int))) (HCalls Try.prog fn_scarplaw19_awake #[] vh58 fun r47 vh59 =>
                                                    ∃ c62 : Bool, r47 = .bool c62 ∧
                                                    R (.bool c62) vh59)
                                                  (R (.bool false) vh58))
                                                (R (.bool false) vh58)))))))
                                    (HCalls Try.prog fn_zdev_Dev_Crash #[.pointer d, .slice picks.base picks.len picks.cap, .slice torn.base torn.len torn.cap] vh21 fun r48 vh60 =>
                                      ∃ c63 : Option Addr, r48 = .pointer c63 ∧
                                      HCalls Try.prog fn_slot_Open #[.pointer c63, .int .i64 (2 : Int), .int .i64 (4 : Int), .int .i64 (6 : Int)] vh60 fun r49 vh61 =>
                                      ∃ c64 : Option Addr, ∃ c65 : Int, r49 = .tuple #[.pointer c64, .int .i64 c65] ∧
                                      IfB (c65 != (0 : Int)) (R (.bool false) vh61)
                                      (IfB (isNone? c64) (R (.bool false) vh61)
                                        (let vh62 := alc vh61 [.int .u8 (110 : Int), .int .u8 (101 : Int), .int .u8 (120 : Int), .int .u8 (116 : Int)] ty_uint8;
                                          ∃ a7 : Addr, (Sl.mk (some (nw vh61)) 4 4).base = some a7 ∧
                                          let vh63 := hstr vh62 a7;
                                          HCalls Try.prog fn_slot_Slots_Save #[.pointer c64, .slice (Sl.mk (some (nw vh61)) 4 4).base (Sl.mk (some (nw vh61)) 4 4).len (Sl.mk (some (nw vh61)) 4 4).cap] vh63 fun r50 vh64 =>
                                          ∃ c66 : Int, r50 = .int .i64 c66 ∧
                                          IfB (c66 != (0 : Int)) (R (.bool false) vh64)
                                          (HCalls Try.prog fn_slot_Slots_Load #[.pointer c64] vh64 fun r51 vh65 =>
                                            ∃ c67 : Sl, ∃ c68 : Int, r51 = .tuple #[.slice c67.base c67.len c67.cap, .int .i64 c68] ∧
                                            ∃ bs5 : List UInt8, bs5.length = c67.len ∧ RdC vh65 c67.base (bs5.map fun x => .int .u8 (x.toNat : Int)) ∧
                                            IfB ((ByteArray.mk bs5.toArray).toList == (ByteArray.mk #[110, 101, 120, 116]).toList) (IfB (c68 == (iAdd .i64 c24 (1 : Int))) (HCalls Try.prog fn_scarplaw19_awake #[] vh65 fun r52 vh66 =>
                                                ∃ c69 : Bool, r52 = .bool c69 ∧
                                                R (.bool c69) vh66)
                                              (R (.bool false) vh65))
                                            (R (.bool false) vh65))))))))))
                          (HCalls Try.prog fn_zdev_Dev_Crash #[.pointer c6, .slice picks.base picks.len picks.cap, .slice torn.base torn.len torn.cap] vh13 fun r53 vh67 =>
                            ∃ c70 : Option Addr, r53 = .pointer c70 ∧
                            ∃ (vI2 : Option Addr → Int → Nat → Hp → Prop) (n7 : Nat), vI2 c70 (0 : Int) n7 vh67 ∧
                            ∀ _junk : Nat → Value, ∀ d1 : Option Addr, ∀ i2 : Int, ∀ (n8 : Nat) (vh68 : Hp), vI2 d1 i2 n8 vh68 →
                            IfB (decide (i2 < (cuts.len : Int))) (∃ a8 : Addr, cuts.base = some a8 ∧ 0 ≤ i2 ∧ i2 < (cuts.len : Int) ∧
                              ∃ c71 : Int, hcell vh68 (a8.add ((i2).toNat * 1)) = some (.int .i64 c71) ∧
                              HCalls Try.prog fn_scarpalike_Round #[.int .i64 c71, .int .i64 (20 : Int)] vh68 fun r54 vh69 =>
                              ∃ c72 : Int, r54 = .int .i64 c72 ∧
                              HCalls Try.prog fn_zdev_Dev_Cut #[.pointer d1, .int .i64 c72] vh69 fun r55 vh70 =>
                              r55 = .tuple #[] ∧
                              HCalls Try.prog fn_slot_Open #[.pointer d1, .int .i64 (2 : Int), .int .i64 (4 : Int), .int .i64 (6 : Int)] vh70 fun r56 vh71 =>
                              ∃ c73 : Option Addr, ∃ c74 : Int, r56 = .tuple #[.pointer c73, .int .i64 c74] ∧
                              HCalls Try.prog fn_zdev_Dev_Crash #[.pointer d1, .slice picks.base picks.len picks.cap, .slice torn.base torn.len torn.cap] vh71 fun r57 vh72 =>
                              ∃ c75 : Option Addr, r57 = .pointer c75 ∧
                              ∃ n9, n9 < n8 ∧ vI2 c75 (iAdd .i64 i2 (1 : Int)) n9 vh72)
                            (HCalls Try.prog fn_slot_Open #[.pointer d1, .int .i64 (2 : Int), .int .i64 (4 : Int), .int .i64 (6 : Int)] vh68 fun r58 vh73 =>
                              ∃ c76 : Option Addr, ∃ c77 : Int, r58 = .tuple #[.pointer c76, .int .i64 c77] ∧
                              IfB (c77 != (0 : Int)) (R (.bool false) vh73)
                              (IfB (isNone? c76) (R (.bool false) vh73)
                                (HCalls Try.prog fn_slot_Slots_Load #[.pointer c76] vh73 fun r59 vh74 =>
                                  ∃ c78 : Sl, ∃ c79 : Int, r59 = .tuple #[.slice c78.base c78.len c78.cap, .int .i64 c79] ∧
                                  IfB (c79 == n3) (HCalls Try.prog fn_scarpalike_Bytes #[.slice c78.base c78.len c78.cap, .slice kept.base kept.len kept.cap] vh74 fun r60 vh75 =>
                                    ∃ c80 : Bool, r60 = .bool c80 ∧
                                    IfB (!c80) (IfB (c79 == (iAdd .i64 n3 (1 : Int))) (HCalls Try.prog fn_scarpalike_Bytes #[.slice c78.base c78.len c78.cap, .slice c12.base c12.len c12.cap] vh75 fun r61 vh76 =>
                                        ∃ c81 : Bool, r61 = .bool c81 ∧
                                        IfB (!c81) (R (.bool false) vh76)
                                        (HCalls Try.prog fn_zdev_Dev_Crash #[.pointer d1, .slice picks.base picks.len picks.cap, .slice torn.base torn.len torn.cap] vh76 fun r62 vh77 =>
                                          ∃ c82 : Option Addr, r62 = .pointer c82 ∧
                                          HCalls Try.prog fn_slot_Open #[.pointer c82, .int .i64 (2 : Int), .int .i64 (4 : Int), .int .i64 (6 : Int)] vh77 fun r63 vh78 =>
                                          ∃ c83 : Option Addr, ∃ c84 : Int, r63 = .tuple #[.pointer c83, .int .i64 c84] ∧
                                          IfB (c84 != (0 : Int)) (R (.bool false) vh78)
                                          (IfB (isNone? c83) (R (.bool false) vh78)
                                            (let vh79 := alc vh78 [.int .u8 (110 : Int), .int .u8 (101 : Int), .int .u8 (120 : Int), .int .u8 (116 : Int)] ty_uint8;
                                              ∃ a9 : Addr, (Sl.mk (some (nw vh78)) 4 4).base = some a9 ∧
                                              let vh80 := hstr vh79 a9;
                                              HCalls Try.prog fn_slot_Slots_Save #[.pointer c83, .slice (Sl.mk (some (nw vh78)) 4 4).base (Sl.mk (some (nw vh78)) 4 4).len (Sl.mk (some (nw vh78)) 4 4).cap] vh80 fun r64 vh81 =>
                                              ∃ c85 : Int, r64 = .int .i64 c85 ∧
                                              IfB (c85 != (0 : Int)) (R (.bool false) vh81)
                                              (HCalls Try.prog fn_slot_Slots_Load #[.pointer c83] vh81 fun r65 vh82 =>
                                                ∃ c86 : Sl, ∃ c87 : Int, r65 = .tuple #[.slice c86.base c86.len c86.cap, .int .i64 c87] ∧
                                                ∃ bs6 : List UInt8, bs6.length = c86.len ∧ RdC vh82 c86.base (bs6.map fun x => .int .u8 (x.toNat : Int)) ∧
                                                IfB ((ByteArray.mk bs6.toArray).toList == (ByteArray.mk #[110, 101, 120, 116]).toList) (IfB (c87 == (iAdd .i64 c79 (1 : Int))) (HCalls Try.prog fn_scarplaw19_awake #[] vh82 fun r66 vh83 =>
                                                    ∃ c88 : Bool, r66 = .bool c88 ∧
                                                    R (.bool c88) vh83)
                                                  (R (.bool false) vh82))
                                                (R (.bool false) vh82))))))
                                      (IfB (!false) (R (.bool false) vh75)
                                        (HCalls Try.prog fn_zdev_Dev_Crash #[.pointer d1, .slice picks.base picks.len picks.cap, .slice torn.base torn.len torn.cap] vh75 fun r67 vh84 =>
                                          ∃ c89 : Option Addr, r67 = .pointer c89 ∧
                                          HCalls Try.prog fn_slot_Open #[.pointer c89, .int .i64 (2 : Int), .int .i64 (4 : Int), .int .i64 (6 : Int)] vh84 fun r68 vh85 =>
                                          ∃ c90 : Option Addr, ∃ c91 : Int, r68 = .tuple #[.pointer c90, .int .i64 c91] ∧
                                          IfB (c91 != (0 : Int)) (R (.bool false) vh85)
                                          (IfB (isNone? c90) (R (.bool false) vh85)
                                            (let vh86 := alc vh85 [.int .u8 (110 : Int), .int .u8 (101 : Int), .int .u8 (120 : Int), .int .u8 (116 : Int)] ty_uint8;
                                              ∃ a10 : Addr, (Sl.mk (some (nw vh85)) 4 4).base = some a10 ∧
                                              let vh87 := hstr vh86 a10;
                                              HCalls Try.prog fn_slot_Slots_Save #[.pointer c90, .slice (Sl.mk (some (nw vh85)) 4 4).base (Sl.mk (some (nw vh85)) 4 4).len (Sl.mk (some (nw vh85)) 4 4).cap] vh87 fun r69 vh88 =>
                                              ∃ c92 : Int, r69 = .int .i64 c92 ∧
                                              IfB (c92 != (0 : Int)) (R (.bool false) vh88)
                                              (HCalls Try.prog fn_slot_Slots_Load #[.pointer c90] vh88 fun r70 vh89 =>
                                                ∃ c93 : Sl, ∃ c94 : Int, r70 = .tuple #[.slice c93.base c93.len c93.cap, .int .i64 c94] ∧
                                                ∃ bs7 : List UInt8, bs7.length = c93.len ∧ RdC vh89 c93.base (bs7.map fun x => .int .u8 (x.toNat : Int)) ∧
                                                IfB ((ByteArray.mk bs7.toArray).toList == (ByteArray.mk #[110, 101, 120, 116]).toList) (IfB (c94 == (iAdd .i64 c79 (1 : Int))) (HCalls Try.prog fn_scarplaw19_awake #[] vh89 fun r71 vh90 =>
                                                    ∃ c95 : Bool, r71 = .bool c95 ∧
                                                    R (.bool c95) vh90)
                                                  (R (.bool false) vh89))
                                                (R (.bool false) vh89)))))))
                                    (HCalls Try.prog fn_zdev_Dev_Crash #[.pointer d1, .slice picks.base picks.len picks.cap, .slice torn.base torn.len torn.cap] vh75 fun r72 vh91 =>
                                      ∃ c96 : Option Addr, r72 = .pointer c96 ∧
                                      HCalls Try.prog fn_slot_Open #[.pointer c96, .int .i64 (2 : Int), .int .i64 (4 : Int), .int .i64 (6 : Int)] vh91 fun r73 vh92 =>
                                      ∃ c97 : Option Addr, ∃ c98 : Int, r73 = .tuple #[.pointer c97, .int .i64 c98] ∧
                                      IfB (c98 != (0 : Int)) (R (.bool false) vh92)
                                      (IfB (isNone? c97) (R (.bool false) vh92)
                                        (let vh93 := alc vh92 [.int .u8 (110 : Int), .int .u8 (101 : Int), .int .u8 (120 : Int), .int .u8 (116 : Int)] ty_uint8;
                                          ∃ a11 : Addr, (Sl.mk (some (nw vh92)) 4 4).base = some a11 ∧
                                          let vh94 := hstr vh93 a11;
                                          HCalls Try.prog fn_slot_Slots_Save #[.pointer c97, .slice (Sl.mk (some (nw vh92)) 4 4).base (Sl.mk (some (nw vh92)) 4 4).len (Sl.mk (some (nw vh92)) 4 4).cap] vh94 fun r74 vh95 =>
                                          ∃ c99 : Int, r74 = .int .i64 c99 ∧
                                          IfB (c99 != (0 : Int)) (R (.bool false) vh95)
                                          (HCalls Try.prog fn_slot_Slots_Load #[.pointer c97] vh95 fun r75 vh96 =>
                                            ∃ c100 : Sl, ∃ c101 : Int, r75 = .tuple #[.slice c100.base c100.len c100.cap, .int .i64 c101] ∧
                                            ∃ bs8 : List UInt8, bs8.length = c100.len ∧ RdC vh96 c100.base (bs8.map fun x => .int .u8 (x.toNat : Int)) ∧
                                            IfB ((ByteArray.mk bs8.toArray).toList == (ByteArray.mk #[110, 101, 120, 116]).toList) (IfB (c101 == (iAdd .i64 c79 (1 : Int))) (HCalls Try.prog fn_scarplaw19_awake #[] vh96 fun r76 vh97 =>
                                                ∃ c102 : Bool, r76 = .bool c102 ∧
                                                R (.bool c102) vh97)
                                              (R (.bool false) vh96))
                                            (R (.bool false) vh96))))))
                                  (IfB (!false) (IfB (c79 == (iAdd .i64 n3 (1 : Int))) (HCalls Try.prog fn_scarpalike_Bytes #[.slice c78.base c78.len c78.cap, .slice c12.base c12.len c12.cap] vh74 fun r77 vh98 =>
                                        ∃ c103 : Bool, r77 = .bool c103 ∧
                                        IfB (!c103) (R (.bool false) vh98)
                                        (HCalls Try.prog fn_zdev_Dev_Crash #[.pointer d1, .slice picks.base picks.len picks.cap, .slice torn.base torn.len torn.cap] vh98 fun r78 vh99 =>
                                          ∃ c104 : Option Addr, r78 = .pointer c104 ∧
                                          HCalls Try.prog fn_slot_Open #[.pointer c104, .int .i64 (2 : Int), .int .i64 (4 : Int), .int .i64 (6 : Int)] vh99 fun r79 vh100 =>
                                          ∃ c105 : Option Addr, ∃ c106 : Int, r79 = .tuple #[.pointer c105, .int .i64 c106] ∧
                                          IfB (c106 != (0 : Int)) (R (.bool false) vh100)
                                          (IfB (isNone? c105) (R (.bool false) vh100)
                                            (let vh101 := alc vh100 [.int .u8 (110 : Int), .int .u8 (101 : Int), .int .u8 (120 : Int), .int .u8 (116 : Int)] ty_uint8;
                                              ∃ a12 : Addr, (Sl.mk (some (nw vh100)) 4 4).base = some a12 ∧
                                              let vh102 := hstr vh101 a12;
                                              HCalls Try.prog fn_slot_Slots_Save #[.pointer c105, .slice (Sl.mk (some (nw vh100)) 4 4).base (Sl.mk (some (nw vh100)) 4 4).len (Sl.mk (some (nw vh100)) 4 4).cap] vh102 fun r80 vh103 =>
                                              ∃ c107 : Int, r80 = .int .i64 c107 ∧
                                              IfB (c107 != (0 : Int)) (R (.bool false) vh103)
                                              (HCalls Try.prog fn_slot_Slots_Load #[.pointer c105] vh103 fun r81 vh104 =>
                                                ∃ c108 : Sl, ∃ c109 : Int, r81 = .tuple #[.slice c108.base c108.len c108.cap, .int .i64 c109] ∧
                                                ∃ bs9 : List UInt8, bs9.length = c108.len ∧ RdC vh104 c108.base (bs9.map fun x => .int .u8 (x.toNat : Int)) ∧
                                                IfB ((ByteArray.mk bs9.toArray).toList == (ByteArray.mk #[110, 101, 120, 116]).toList) (IfB (c109 == (iAdd .i64 c79 (1 : Int))) (HCalls Try.prog fn_scarplaw19_awake #[] vh104 fun r82 vh105 =>
                                                    ∃ c110 : Bool, r82 = .bool c110 ∧
                                                    R (.bool c110) vh105)
                                                  (R (.bool false) vh104))
                                                (R (.bool false) vh104))))))
                                      (IfB (!false) (R (.bool false) vh74)
                                        (HCalls Try.prog fn_zdev_Dev_Crash #[.pointer d1, .slice picks.base picks.len picks.cap, .slice torn.base torn.len torn.cap] vh74 fun r83 vh106 =>
                                          ∃ c111 : Option Addr, r83 = .pointer c111 ∧
                                          HCalls Try.prog fn_slot_Open #[.pointer c111, .int .i64 (2 : Int), .int .i64 (4 : Int), .int .i64 (6 : Int)] vh106 fun r84 vh107 =>
                                          ∃ c112 : Option Addr, ∃ c113 : Int, r84 = .tuple #[.pointer c112, .int .i64 c113] ∧
                                          IfB (c113 != (0 : Int)) (R (.bool false) vh107)
                                          (IfB (isNone? c112) (R (.bool false) vh107)
                                            (let vh108 := alc vh107 [.int .u8 (110 : Int), .int .u8 (101 : Int), .int .u8 (120 : Int), .int .u8 (116 : Int)] ty_uint8;
                                              ∃ a13 : Addr, (Sl.mk (some (nw vh107)) 4 4).base = some a13 ∧
                                              let vh109 := hstr vh108 a13;
                                              HCalls Try.prog fn_slot_Slots_Save #[.pointer c112, .slice (Sl.mk (some (nw vh107)) 4 4).base (Sl.mk (some (nw vh107)) 4 4).len (Sl.mk (some (nw vh107)) 4 4).cap] vh109 fun r85 vh110 =>
                                              ∃ c114 : Int, r85 = .int .i64 c114 ∧
                                              IfB (c114 != (0 : Int)) (R (.bool false) vh110)
                                              (HCalls Try.prog fn_slot_Slots_Load #[.pointer c112] vh110 fun r86 vh111 =>
                                                ∃ c115 : Sl, ∃ c116 : Int, r86 = .tuple #[.slice c115.base c115.len c115.cap, .int .i64 c116] ∧
                                                ∃ bs10 : List UInt8, bs10.length = c115.len ∧ RdC vh111 c115.base (bs10.map fun x => .int .u8 (x.toNat : Int)) ∧
                                                IfB ((ByteArray.mk bs10.toArray).toList == (ByteArray.mk #[110, 101, 120, 116]).toList) (IfB (c116 == (iAdd .i64 c79 (1 : Int))) (HCalls Try.prog fn_scarplaw19_awake #[] vh111 fun r87 vh112 =>
                                                    ∃ c117 : Bool, r87 = .bool c117 ∧
                                                    R (.bool c117) vh112)
                                                  (R (.bool false) vh111))
                                                (R (.bool false) vh111)))))))
                                    (HCalls Try.prog fn_zdev_Dev_Crash #[.pointer d1, .slice picks.base picks.len picks.cap, .slice torn.base torn.len torn.cap] vh74 fun r88 vh113 =>
                                      ∃ c118 : Option Addr, r88 = .pointer c118 ∧
                                      HCalls Try.prog fn_slot_Open #[.pointer c118, .int .i64 (2 : Int), .int .i64 (4 : Int), .int .i64 (6 : Int)] vh113 fun r89 vh114 =>
                                      ∃ c119 : Option Addr, ∃ c120 : Int, r89 = .tuple #[.pointer c119, .int .i64 c120] ∧
                                      IfB (c120 != (0 : Int)) (R (.bool false) vh114)
                                      (IfB (isNone? c119) (R (.bool false) vh114)
                                        (let vh115 := alc vh114 [.int .u8 (110 : Int), .int .u8 (101 : Int), .int .u8 (120 : Int), .int .u8 (116 : Int)] ty_uint8;
                                          ∃ a14 : Addr, (Sl.mk (some (nw vh114)) 4 4).base = some a14 ∧
                                          let vh116 := hstr vh115 a14;
                                          HCalls Try.prog fn_slot_Slots_Save #[.pointer c119, .slice (Sl.mk (some (nw vh114)) 4 4).base (Sl.mk (some (nw vh114)) 4 4).len (Sl.mk (some (nw vh114)) 4 4).cap] vh116 fun r90 vh117 =>
                                          ∃ c121 : Int, r90 = .int .i64 c121 ∧
                                          IfB (c121 != (0 : Int)) (R (.bool false) vh117)
                                          (HCalls Try.prog fn_slot_Slots_Load #[.pointer c119] vh117 fun r91 vh118 =>
                                            ∃ c122 : Sl, ∃ c123 : Int, r91 = .tuple #[.slice c122.base c122.len c122.cap, .int .i64 c123] ∧
                                            ∃ bs11 : List UInt8, bs11.length = c122.len ∧ RdC vh118 c122.base (bs11.map fun x => .int .u8 (x.toNat : Int)) ∧
                                            IfB ((ByteArray.mk bs11.toArray).toList == (ByteArray.mk #[110, 101, 120, 116]).toList) (IfB (c123 == (iAdd .i64 c79 (1 : Int))) (HCalls Try.prog fn_scarplaw19_awake #[] vh118 fun r92 vh119 =>
                                                ∃ c124 : Bool, r92 = .bool c124 ∧
                                                R (.bool c124) vh119)
                                              (R (.bool false) vh118))
                                            (R (.bool false) vh118))))))))))))
                      (IfB (c13 != (0 : Int)) (R (.bool false) vh12)
                        (∃ n2, n2 < n1 ∧ vI c12 c12 (iAdd .i64 n3 (1 : Int)) (iAdd .i64 i (1 : Int)) n2 vh12)))
                    (IfB (n3 == (sizes.len : Int)) (HCalls Try.prog fn_zdev_Dev_Crash #[.pointer c6, .slice picks.base picks.len picks.cap, .slice torn.base torn.len torn.cap] vh9 fun r93 vh120 =>
                        ∃ c125 : Option Addr, r93 = .pointer c125 ∧
                        ∃ (vI3 : Option Addr → Int → Nat → Hp → Prop) (n10 : Nat), vI3 c125 (0 : Int) n10 vh120 ∧
                        ∀ _junk : Nat → Value, ∀ d2 : Option Addr, ∀ i3 : Int, ∀ (n11 : Nat) (vh121 : Hp), vI3 d2 i3 n11 vh121 →
                        IfB (decide (i3 < (cuts.len : Int))) (∃ a15 : Addr, cuts.base = some a15 ∧ 0 ≤ i3 ∧ i3 < (cuts.len : Int) ∧
                          ∃ c126 : Int, hcell vh121 (a15.add ((i3).toNat * 1)) = some (.int .i64 c126) ∧
                          HCalls Try.prog fn_scarpalike_Round #[.int .i64 c126, .int .i64 (20 : Int)] vh121 fun r94 vh122 =>
                          ∃ c127 : Int, r94 = .int .i64 c127 ∧
                          HCalls Try.prog fn_zdev_Dev_Cut #[.pointer d2, .int .i64 c127] vh122 fun r95 vh123 =>
                          r95 = .tuple #[] ∧
                          HCalls Try.prog fn_slot_Open #[.pointer d2, .int .i64 (2 : Int), .int .i64 (4 : Int), .int .i64 (6 : Int)] vh123 fun r96 vh124 =>
                          ∃ c128 : Option Addr, ∃ c129 : Int, r96 = .tuple #[.pointer c128, .int .i64 c129] ∧
                          HCalls Try.prog fn_zdev_Dev_Crash #[.pointer d2, .slice picks.base picks.len picks.cap, .slice torn.base torn.len torn.cap] vh124 fun r97 vh125 =>
                          ∃ c130 : Option Addr, r97 = .pointer c130 ∧
                          ∃ n12, n12 < n11 ∧ vI3 c130 (iAdd .i64 i3 (1 : Int)) n12 vh125)
                        (HCalls Try.prog fn_slot_Open #[.pointer d2, .int .i64 (2 : Int), .int .i64 (4 : Int), .int .i64 (6 : Int)] vh121 fun r98 vh126 =>
                          ∃ c131 : Option Addr, ∃ c132 : Int, r98 = .tuple #[.pointer c131, .int .i64 c132] ∧
                          IfB (c132 != (0 : Int)) (R (.bool false) vh126)
                          (IfB (isNone? c131) (R (.bool false) vh126)
                            (HCalls Try.prog fn_slot_Slots_Load #[.pointer c131] vh126 fun r99 vh127 =>
                              ∃ c133 : Sl, ∃ c134 : Int, r99 = .tuple #[.slice c133.base c133.len c133.cap, .int .i64 c134] ∧
                              IfB (c134 == n3) (HCalls Try.prog fn_scarpalike_Bytes #[.slice c133.base c133.len c133.cap, .slice kept.base kept.len kept.cap] vh127 fun r100 vh128 =>
                                ∃ c135 : Bool, r100 = .bool c135 ∧
                                IfB (!c135) (IfB (c134 == (iAdd .i64 n3 (1 : Int))) (HCalls Try.prog fn_scarpalike_Bytes #[.slice c133.base c133.len c133.cap, .slice kept.base kept.len kept.cap] vh128 fun r101 vh129 =>
                                    ∃ c136 : Bool, r101 = .bool c136 ∧
                                    IfB (!c136) (R (.bool false) vh129)
                                    (HCalls Try.prog fn_zdev_Dev_Crash #[.pointer d2, .slice picks.base picks.len picks.cap, .slice torn.base torn.len torn.cap] vh129 fun r102 vh130 =>
                                      ∃ c137 : Option Addr, r102 = .pointer c137 ∧
                                      HCalls Try.prog fn_slot_Open #[.pointer c137, .int .i64 (2 : Int), .int .i64 (4 : Int), .int .i64 (6 : Int)] vh130 fun r103 vh131 =>
                                      ∃ c138 : Option Addr, ∃ c139 : Int, r103 = .tuple #[.pointer c138, .int .i64 c139] ∧
                                      IfB (c139 != (0 : Int)) (R (.bool false) vh131)
                                      (IfB (isNone? c138) (R (.bool false) vh131)
                                        (let vh132 := alc vh131 [.int .u8 (110 : Int), .int .u8 (101 : Int), .int .u8 (120 : Int), .int .u8 (116 : Int)] ty_uint8;
                                          ∃ a16 : Addr, (Sl.mk (some (nw vh131)) 4 4).base = some a16 ∧
                                          let vh133 := hstr vh132 a16;
                                          HCalls Try.prog fn_slot_Slots_Save #[.pointer c138, .slice (Sl.mk (some (nw vh131)) 4 4).base (Sl.mk (some (nw vh131)) 4 4).len (Sl.mk (some (nw vh131)) 4 4).cap] vh133 fun r104 vh134 =>
                                          ∃ c140 : Int, r104 = .int .i64 c140 ∧
                                          IfB (c140 != (0 : Int)) (R (.bool false) vh134)
                                          (HCalls Try.prog fn_slot_Slots_Load #[.pointer c138] vh134 fun r105 vh135 =>
                                            ∃ c141 : Sl, ∃ c142 : Int, r105 = .tuple #[.slice c141.base c141.len c141.cap, .int .i64 c142] ∧
                                            ∃ bs12 : List UInt8, bs12.length = c141.len ∧ RdC vh135 c141.base (bs12.map fun x => .int .u8 (x.toNat : Int)) ∧
                                            IfB ((ByteArray.mk bs12.toArray).toList == (ByteArray.mk #[110, 101, 120, 116]).toList) (IfB (c142 == (iAdd .i64 c134 (1 : Int))) (HCalls Try.prog fn_scarplaw19_awake #[] vh135 fun r106 vh136 =>
                                                ∃ c143 : Bool, r106 = .bool c143 ∧
                                                R (.bool c143) vh136)
                                              (R (.bool false) vh135))
                                            (R (.bool false) vh135))))))
                                  (IfB (!false) (R (.bool false) vh128)
                                    (HCalls Try.prog fn_zdev_Dev_Crash #[.pointer d2, .slice picks.base picks.len picks.cap, .slice torn.base torn.len torn.cap] vh128 fun r107 vh137 =>
                                      ∃ c144 : Option Addr, r107 = .pointer c144 ∧
                                      HCalls Try.prog fn_slot_Open #[.pointer c144, .int .i64 (2 : Int), .int .i64 (4 : Int), .int .i64 (6 : Int)] vh137 fun r108 vh138 =>
                                      ∃ c145 : Option Addr, ∃ c146 : Int, r108 = .tuple #[.pointer c145, .int .i64 c146] ∧
                                      IfB (c146 != (0 : Int)) (R (.bool false) vh138)
                                      (IfB (isNone? c145) (R (.bool false) vh138)
                                        (let vh139 := alc vh138 [.int .u8 (110 : Int), .int .u8 (101 : Int), .int .u8 (120 : Int), .int .u8 (116 : Int)] ty_uint8;
                                          ∃ a17 : Addr, (Sl.mk (some (nw vh138)) 4 4).base = some a17 ∧
                                          let vh140 := hstr vh139 a17;
                                          HCalls Try.prog fn_slot_Slots_Save #[.pointer c145, .slice (Sl.mk (some (nw vh138)) 4 4).base (Sl.mk (some (nw vh138)) 4 4).len (Sl.mk (some (nw vh138)) 4 4).cap] vh140 fun r109 vh141 =>
                                          ∃ c147 : Int, r109 = .int .i64 c147 ∧
                                          IfB (c147 != (0 : Int)) (R (.bool false) vh141)
                                          (HCalls Try.prog fn_slot_Slots_Load #[.pointer c145] vh141 fun r110 vh142 =>
                                            ∃ c148 : Sl, ∃ c149 : Int, r110 = .tuple #[.slice c148.base c148.len c148.cap, .int .i64 c149] ∧
                                            ∃ bs13 : List UInt8, bs13.length = c148.len ∧ RdC vh142 c148.base (bs13.map fun x => .int .u8 (x.toNat : Int)) ∧
                                            IfB ((ByteArray.mk bs13.toArray).toList == (ByteArray.mk #[110, 101, 120, 116]).toList) (IfB (c149 == (iAdd .i64 c134 (1 : Int))) (HCalls Try.prog fn_scarplaw19_awake #[] vh142 fun r111 vh143 =>
                                                ∃ c150 : Bool, r111 = .bool c150 ∧
                                                R (.bool c150) vh143)
                                              (R (.bool false) vh142))
                                            (R (.bool false) vh142)))))))
                                (HCalls Try.prog fn_zdev_Dev_Crash #[.pointer d2, .slice picks.base picks.len picks.cap, .slice torn.base torn.len torn.cap] vh128 fun r112 vh144 =>
                                  ∃ c151 : Option Addr, r112 = .pointer c151 ∧
                                  HCalls Try.prog fn_slot_Open #[.pointer c151, .int .i64 (2 : Int), .int .i64 (4 : Int), .int .i64 (6 : Int)] vh144 fun r113 vh145 =>
                                  ∃ c152 : Option Addr, ∃ c153 : Int, r113 = .tuple #[.pointer c152, .int .i64 c153] ∧
                                  IfB (c153 != (0 : Int)) (R (.bool false) vh145)
                                  (IfB (isNone? c152) (R (.bool false) vh145)
                                    (let vh146 := alc vh145 [.int .u8 (110 : Int), .int .u8 (101 : Int), .int .u8 (120 : Int), .int .u8 (116 : Int)] ty_uint8;
                                      ∃ a18 : Addr, (Sl.mk (some (nw vh145)) 4 4).base = some a18 ∧
                                      let vh147 := hstr vh146 a18;
                                      HCalls Try.prog fn_slot_Slots_Save #[.pointer c152, .slice (Sl.mk (some (nw vh145)) 4 4).base (Sl.mk (some (nw vh145)) 4 4).len (Sl.mk (some (nw vh145)) 4 4).cap] vh147 fun r114 vh148 =>
                                      ∃ c154 : Int, r114 = .int .i64 c154 ∧
                                      IfB (c154 != (0 : Int)) (R (.bool false) vh148)
                                      (HCalls Try.prog fn_slot_Slots_Load #[.pointer c152] vh148 fun r115 vh149 =>
                                        ∃ c155 : Sl, ∃ c156 : Int, r115 = .tuple #[.slice c155.base c155.len c155.cap, .int .i64 c156] ∧
                                        ∃ bs14 : List UInt8, bs14.length = c155.len ∧ RdC vh149 c155.base (bs14.map fun x => .int .u8 (x.toNat : Int)) ∧
                                        IfB ((ByteArray.mk bs14.toArray).toList == (ByteArray.mk #[110, 101, 120, 116]).toList) (IfB (c156 == (iAdd .i64 c134 (1 : Int))) (HCalls Try.prog fn_scarplaw19_awake #[] vh149 fun r116 vh150 =>
                                            ∃ c157 : Bool, r116 = .bool c157 ∧
                                            R (.bool c157) vh150)
                                          (R (.bool false) vh149))
                                        (R (.bool false) vh149))))))
                              (IfB (!false) (IfB (c134 == (iAdd .i64 n3 (1 : Int))) (HCalls Try.prog fn_scarpalike_Bytes #[.slice c133.base c133.len c133.cap, .slice kept.base kept.len kept.cap] vh127 fun r117 vh151 =>
                                    ∃ c158 : Bool, r117 = .bool c158 ∧
                                    IfB (!c158) (R (.bool false) vh151)
                                    (HCalls Try.prog fn_zdev_Dev_Crash #[.pointer d2, .slice picks.base picks.len picks.cap, .slice torn.base torn.len torn.cap] vh151 fun r118 vh152 =>
                                      ∃ c159 : Option Addr, r118 = .pointer c159 ∧
                                      HCalls Try.prog fn_slot_Open #[.pointer c159, .int .i64 (2 : Int), .int .i64 (4 : Int), .int .i64 (6 : Int)] vh152 fun r119 vh153 =>
                                      ∃ c160 : Option Addr, ∃ c161 : Int, r119 = .tuple #[.pointer c160, .int .i64 c161] ∧
                                      IfB (c161 != (0 : Int)) (R (.bool false) vh153)
                                      (IfB (isNone? c160) (R (.bool false) vh153)
                                        (let vh154 := alc vh153 [.int .u8 (110 : Int), .int .u8 (101 : Int), .int .u8 (120 : Int), .int .u8 (116 : Int)] ty_uint8;
                                          ∃ a19 : Addr, (Sl.mk (some (nw vh153)) 4 4).base = some a19 ∧
                                          let vh155 := hstr vh154 a19;
                                          HCalls Try.prog fn_slot_Slots_Save #[.pointer c160, .slice (Sl.mk (some (nw vh153)) 4 4).base (Sl.mk (some (nw vh153)) 4 4).len (Sl.mk (some (nw vh153)) 4 4).cap] vh155 fun r120 vh156 =>
                                          ∃ c162 : Int, r120 = .int .i64 c162 ∧
                                          IfB (c162 != (0 : Int)) (R (.bool false) vh156)
                                          (HCalls Try.prog fn_slot_Slots_Load #[.pointer c160] vh156 fun r121 vh157 =>
                                            ∃ c163 : Sl, ∃ c164 : Int, r121 = .tuple #[.slice c163.base c163.len c163.cap, .int .i64 c164] ∧
                                            ∃ bs15 : List UInt8, bs15.length = c163.len ∧ RdC vh157 c163.base (bs15.map fun x => .int .u8 (x.toNat : Int)) ∧
                                            IfB ((ByteArray.mk bs15.toArray).toList == (ByteArray.mk #[110, 101, 120, 116]).toList) (IfB (c164 == (iAdd .i64 c134 (1 : Int))) (HCalls Try.prog fn_scarplaw19_awake #[] vh157 fun r122 vh158 =>
                                                ∃ c165 : Bool, r122 = .bool c165 ∧
                                                R (.bool c165) vh158)
                                              (R (.bool false) vh157))
                                            (R (.bool false) vh157))))))
                                  (IfB (!false) (R (.bool false) vh127)
                                    (HCalls Try.prog fn_zdev_Dev_Crash #[.pointer d2, .slice picks.base picks.len picks.cap, .slice torn.base torn.len torn.cap] vh127 fun r123 vh159 =>
                                      ∃ c166 : Option Addr, r123 = .pointer c166 ∧
                                      HCalls Try.prog fn_slot_Open #[.pointer c166, .int .i64 (2 : Int), .int .i64 (4 : Int), .int .i64 (6 : Int)] vh159 fun r124 vh160 =>
                                      ∃ c167 : Option Addr, ∃ c168 : Int, r124 = .tuple #[.pointer c167, .int .i64 c168] ∧
                                      IfB (c168 != (0 : Int)) (R (.bool false) vh160)
                                      (IfB (isNone? c167) (R (.bool false) vh160)
                                        (let vh161 := alc vh160 [.int .u8 (110 : Int), .int .u8 (101 : Int), .int .u8 (120 : Int), .int .u8 (116 : Int)] ty_uint8;
                                          ∃ a20 : Addr, (Sl.mk (some (nw vh160)) 4 4).base = some a20 ∧
                                          let vh162 := hstr vh161 a20;
                                          HCalls Try.prog fn_slot_Slots_Save #[.pointer c167, .slice (Sl.mk (some (nw vh160)) 4 4).base (Sl.mk (some (nw vh160)) 4 4).len (Sl.mk (some (nw vh160)) 4 4).cap] vh162 fun r125 vh163 =>
                                          ∃ c169 : Int, r125 = .int .i64 c169 ∧
                                          IfB (c169 != (0 : Int)) (R (.bool false) vh163)
                                          (HCalls Try.prog fn_slot_Slots_Load #[.pointer c167] vh163 fun r126 vh164 =>
                                            ∃ c170 : Sl, ∃ c171 : Int, r126 = .tuple #[.slice c170.base c170.len c170.cap, .int .i64 c171] ∧
                                            ∃ bs16 : List UInt8, bs16.length = c170.len ∧ RdC vh164 c170.base (bs16.map fun x => .int .u8 (x.toNat : Int)) ∧
                                            IfB ((ByteArray.mk bs16.toArray).toList == (ByteArray.mk #[110, 101, 120, 116]).toList) (IfB (c171 == (iAdd .i64 c134 (1 : Int))) (HCalls Try.prog fn_scarplaw19_awake #[] vh164 fun r127 vh165 =>
                                                ∃ c172 : Bool, r127 = .bool c172 ∧
                                                R (.bool c172) vh165)
                                              (R (.bool false) vh164))
                                            (R (.bool false) vh164)))))))
                                (HCalls Try.prog fn_zdev_Dev_Crash #[.pointer d2, .slice picks.base picks.len picks.cap, .slice torn.base torn.len torn.cap] vh127 fun r128 vh166 =>
                                  ∃ c173 : Option Addr, r128 = .pointer c173 ∧
                                  HCalls Try.prog fn_slot_Open #[.pointer c173, .int .i64 (2 : Int), .int .i64 (4 : Int), .int .i64 (6 : Int)] vh166 fun r129 vh167 =>
                                  ∃ c174 : Option Addr, ∃ c175 : Int, r129 = .tuple #[.pointer c174, .int .i64 c175] ∧
                                  IfB (c175 != (0 : Int)) (R (.bool false) vh167)
                                  (IfB (isNone? c174) (R (.bool false) vh167)
                                    (let vh168 := alc vh167 [.int .u8 (110 : Int), .int .u8 (101 : Int), .int .u8 (120 : Int), .int .u8 (116 : Int)] ty_uint8;
                                      ∃ a21 : Addr, (Sl.mk (some (nw vh167)) 4 4).base = some a21 ∧
                                      let vh169 := hstr vh168 a21;
                                      HCalls Try.prog fn_slot_Slots_Save #[.pointer c174, .slice (Sl.mk (some (nw vh167)) 4 4).base (Sl.mk (some (nw vh167)) 4 4).len (Sl.mk (some (nw vh167)) 4 4).cap] vh169 fun r130 vh170 =>
                                      ∃ c176 : Int, r130 = .int .i64 c176 ∧
                                      IfB (c176 != (0 : Int)) (R (.bool false) vh170)
                                      (HCalls Try.prog fn_slot_Slots_Load #[.pointer c174] vh170 fun r131 vh171 =>
                                        ∃ c177 : Sl, ∃ c178 : Int, r131 = .tuple #[.slice c177.base c177.len c177.cap, .int .i64 c178] ∧
                                        ∃ bs17 : List UInt8, bs17.length = c177.len ∧ RdC vh171 c177.base (bs17.map fun x => .int .u8 (x.toNat : Int)) ∧
                                        IfB ((ByteArray.mk bs17.toArray).toList == (ByteArray.mk #[110, 101, 120, 116]).toList) (IfB (c178 == (iAdd .i64 c134 (1 : Int))) (HCalls Try.prog fn_scarplaw19_awake #[] vh171 fun r132 vh172 =>
                                            ∃ c179 : Bool, r132 = .bool c179 ∧
                                            R (.bool c179) vh172)
                                          (R (.bool false) vh171))
                                        (R (.bool false) vh171))))))))))
                      (HCalls Try.prog fn_zdev_Dev_Crash #[.pointer c6, .slice picks.base picks.len picks.cap, .slice torn.base torn.len torn.cap] vh9 fun r133 vh173 =>
                        ∃ c180 : Option Addr, r133 = .pointer c180 ∧
                        ∃ (vI4 : Option Addr → Int → Nat → Hp → Prop) (n13 : Nat), vI4 c180 (0 : Int) n13 vh173 ∧
                        ∀ _junk : Nat → Value, ∀ d3 : Option Addr, ∀ i4 : Int, ∀ (n14 : Nat) (vh174 : Hp), vI4 d3 i4 n14 vh174 →
                        IfB (decide (i4 < (cuts.len : Int))) (∃ a22 : Addr, cuts.base = some a22 ∧ 0 ≤ i4 ∧ i4 < (cuts.len : Int) ∧
                          ∃ c181 : Int, hcell vh174 (a22.add ((i4).toNat * 1)) = some (.int .i64 c181) ∧
                          HCalls Try.prog fn_scarpalike_Round #[.int .i64 c181, .int .i64 (20 : Int)] vh174 fun r134 vh175 =>
                          ∃ c182 : Int, r134 = .int .i64 c182 ∧
                          HCalls Try.prog fn_zdev_Dev_Cut #[.pointer d3, .int .i64 c182] vh175 fun r135 vh176 =>
                          r135 = .tuple #[] ∧
                          HCalls Try.prog fn_slot_Open #[.pointer d3, .int .i64 (2 : Int), .int .i64 (4 : Int), .int .i64 (6 : Int)] vh176 fun r136 vh177 =>
                          ∃ c183 : Option Addr, ∃ c184 : Int, r136 = .tuple #[.pointer c183, .int .i64 c184] ∧
                          HCalls Try.prog fn_zdev_Dev_Crash #[.pointer d3, .slice picks.base picks.len picks.cap, .slice torn.base torn.len torn.cap] vh177 fun r137 vh178 =>
                          ∃ c185 : Option Addr, r137 = .pointer c185 ∧
                          ∃ n15, n15 < n14 ∧ vI4 c185 (iAdd .i64 i4 (1 : Int)) n15 vh178)
                        (HCalls Try.prog fn_slot_Open #[.pointer d3, .int .i64 (2 : Int), .int .i64 (4 : Int), .int .i64 (6 : Int)] vh174 fun r138 vh179 =>
                          ∃ c186 : Option Addr, ∃ c187 : Int, r138 = .tuple #[.pointer c186, .int .i64 c187] ∧
                          IfB (c187 != (0 : Int)) (R (.bool false) vh179)
                          (IfB (isNone? c186) (R (.bool false) vh179)
                            (HCalls Try.prog fn_slot_Slots_Load #[.pointer c186] vh179 fun r139 vh180 =>
                              ∃ c188 : Sl, ∃ c189 : Int, r139 = .tuple #[.slice c188.base c188.len c188.cap, .int .i64 c189] ∧
                              IfB (c189 == n3) (HCalls Try.prog fn_scarpalike_Bytes #[.slice c188.base c188.len c188.cap, .slice kept.base kept.len kept.cap] vh180 fun r140 vh181 =>
                                ∃ c190 : Bool, r140 = .bool c190 ∧
                                IfB (!c190) (IfB (c189 == (iAdd .i64 n3 (1 : Int))) (HCalls Try.prog fn_scarpalike_Bytes #[.slice c188.base c188.len c188.cap, .slice may.base may.len may.cap] vh181 fun r141 vh182 =>
                                    ∃ c191 : Bool, r141 = .bool c191 ∧
                                    IfB (!c191) (R (.bool false) vh182)
                                    (HCalls Try.prog fn_zdev_Dev_Crash #[.pointer d3, .slice picks.base picks.len picks.cap, .slice torn.base torn.len torn.cap] vh182 fun r142 vh183 =>
                                      ∃ c192 : Option Addr, r142 = .pointer c192 ∧
                                      HCalls Try.prog fn_slot_Open #[.pointer c192, .int .i64 (2 : Int), .int .i64 (4 : Int), .int .i64 (6 : Int)] vh183 fun r143 vh184 =>
                                      ∃ c193 : Option Addr, ∃ c194 : Int, r143 = .tuple #[.pointer c193, .int .i64 c194] ∧
                                      IfB (c194 != (0 : Int)) (R (.bool false) vh184)
                                      (IfB (isNone? c193) (R (.bool false) vh184)
                                        (let vh185 := alc vh184 [.int .u8 (110 : Int), .int .u8 (101 : Int), .int .u8 (120 : Int), .int .u8 (116 : Int)] ty_uint8;
                                          ∃ a23 : Addr, (Sl.mk (some (nw vh184)) 4 4).base = some a23 ∧
                                          let vh186 := hstr vh185 a23;
                                          HCalls Try.prog fn_slot_Slots_Save #[.pointer c193, .slice (Sl.mk (some (nw vh184)) 4 4).base (Sl.mk (some (nw vh184)) 4 4).len (Sl.mk (some (nw vh184)) 4 4).cap] vh186 fun r144 vh187 =>
                                          ∃ c195 : Int, r144 = .int .i64 c195 ∧
                                          IfB (c195 != (0 : Int)) (R (.bool false) vh187)
                                          (HCalls Try.prog fn_slot_Slots_Load #[.pointer c193] vh187 fun r145 vh188 =>
                                            ∃ c196 : Sl, ∃ c197 : Int, r145 = .tuple #[.slice c196.base c196.len c196.cap, .int .i64 c197] ∧
                                            ∃ bs18 : List UInt8, bs18.length = c196.len ∧ RdC vh188 c196.base (bs18.map fun x => .int .u8 (x.toNat : Int)) ∧
                                            IfB ((ByteArray.mk bs18.toArray).toList == (ByteArray.mk #[110, 101, 120, 116]).toList) (IfB (c197 == (iAdd .i64 c189 (1 : Int))) (HCalls Try.prog fn_scarplaw19_awake #[] vh188 fun r146 vh189 =>
                                                ∃ c198 : Bool, r146 = .bool c198 ∧
                                                R (.bool c198) vh189)
                                              (R (.bool false) vh188))
                                            (R (.bool false) vh188))))))
                                  (IfB (!false) (R (.bool false) vh181)
                                    (HCalls Try.prog fn_zdev_Dev_Crash #[.pointer d3, .slice picks.base picks.len picks.cap, .slice torn.base torn.len torn.cap] vh181 fun r147 vh190 =>
                                      ∃ c199 : Option Addr, r147 = .pointer c199 ∧
                                      HCalls Try.prog fn_slot_Open #[.pointer c199, .int .i64 (2 : Int), .int .i64 (4 : Int), .int .i64 (6 : Int)] vh190 fun r148 vh191 =>
                                      ∃ c200 : Option Addr, ∃ c201 : Int, r148 = .tuple #[.pointer c200, .int .i64 c201] ∧
                                      IfB (c201 != (0 : Int)) (R (.bool false) vh191)
                                      (IfB (isNone? c200) (R (.bool false) vh191)
                                        (let vh192 := alc vh191 [.int .u8 (110 : Int), .int .u8 (101 : Int), .int .u8 (120 : Int), .int .u8 (116 : Int)] ty_uint8;
                                          ∃ a24 : Addr, (Sl.mk (some (nw vh191)) 4 4).base = some a24 ∧
                                          let vh193 := hstr vh192 a24;
                                          HCalls Try.prog fn_slot_Slots_Save #[.pointer c200, .slice (Sl.mk (some (nw vh191)) 4 4).base (Sl.mk (some (nw vh191)) 4 4).len (Sl.mk (some (nw vh191)) 4 4).cap] vh193 fun r149 vh194 =>
                                          ∃ c202 : Int, r149 = .int .i64 c202 ∧
                                          IfB (c202 != (0 : Int)) (R (.bool false) vh194)
                                          (HCalls Try.prog fn_slot_Slots_Load #[.pointer c200] vh194 fun r150 vh195 =>
                                            ∃ c203 : Sl, ∃ c204 : Int, r150 = .tuple #[.slice c203.base c203.len c203.cap, .int .i64 c204] ∧
                                            ∃ bs19 : List UInt8, bs19.length = c203.len ∧ RdC vh195 c203.base (bs19.map fun x => .int .u8 (x.toNat : Int)) ∧
                                            IfB ((ByteArray.mk bs19.toArray).toList == (ByteArray.mk #[110, 101, 120, 116]).toList) (IfB (c204 == (iAdd .i64 c189 (1 : Int))) (HCalls Try.prog fn_scarplaw19_awake #[] vh195 fun r151 vh196 =>
                                                ∃ c205 : Bool, r151 = .bool c205 ∧
                                                R (.bool c205) vh196)
                                              (R (.bool false) vh195))
                                            (R (.bool false) vh195)))))))
                                (HCalls Try.prog fn_zdev_Dev_Crash #[.pointer d3, .slice picks.base picks.len picks.cap, .slice torn.base torn.len torn.cap] vh181 fun r152 vh197 =>
                                  ∃ c206 : Option Addr, r152 = .pointer c206 ∧
                                  HCalls Try.prog fn_slot_Open #[.pointer c206, .int .i64 (2 : Int), .int .i64 (4 : Int), .int .i64 (6 : Int)] vh197 fun r153 vh198 =>
                                  ∃ c207 : Option Addr, ∃ c208 : Int, r153 = .tuple #[.pointer c207, .int .i64 c208] ∧
                                  IfB (c208 != (0 : Int)) (R (.bool false) vh198)
                                  (IfB (isNone? c207) (R (.bool false) vh198)
                                    (let vh199 := alc vh198 [.int .u8 (110 : Int), .int .u8 (101 : Int), .int .u8 (120 : Int), .int .u8 (116 : Int)] ty_uint8;
                                      ∃ a25 : Addr, (Sl.mk (some (nw vh198)) 4 4).base = some a25 ∧
                                      let vh200 := hstr vh199 a25;
                                      HCalls Try.prog fn_slot_Slots_Save #[.pointer c207, .slice (Sl.mk (some (nw vh198)) 4 4).base (Sl.mk (some (nw vh198)) 4 4).len (Sl.mk (some (nw vh198)) 4 4).cap] vh200 fun r154 vh201 =>
                                      ∃ c209 : Int, r154 = .int .i64 c209 ∧
                                      IfB (c209 != (0 : Int)) (R (.bool false) vh201)
                                      (HCalls Try.prog fn_slot_Slots_Load #[.pointer c207] vh201 fun r155 vh202 =>
                                        ∃ c210 : Sl, ∃ c211 : Int, r155 = .tuple #[.slice c210.base c210.len c210.cap, .int .i64 c211] ∧
                                        ∃ bs20 : List UInt8, bs20.length = c210.len ∧ RdC vh202 c210.base (bs20.map fun x => .int .u8 (x.toNat : Int)) ∧
                                        IfB ((ByteArray.mk bs20.toArray).toList == (ByteArray.mk #[110, 101, 120, 116]).toList) (IfB (c211 == (iAdd .i64 c189 (1 : Int))) (HCalls Try.prog fn_scarplaw19_awake #[] vh202 fun r156 vh203 =>
                                            ∃ c212 : Bool, r156 = .bool c212 ∧
                                            R (.bool c212) vh203)
                                          (R (.bool false) vh202))
                                        (R (.bool false) vh202))))))
                              (IfB (!false) (IfB (c189 == (iAdd .i64 n3 (1 : Int))) (HCalls Try.prog fn_scarpalike_Bytes #[.slice c188.base c188.len c188.cap, .slice may.base may.len may.cap] vh180 fun r157 vh204 =>
                                    ∃ c213 : Bool, r157 = .bool c213 ∧
                                    IfB (!c213) (R (.bool false) vh204)
                                    (HCalls Try.prog fn_zdev_Dev_Crash #[.pointer d3, .slice picks.base picks.len picks.cap, .slice torn.base torn.len torn.cap] vh204 fun r158 vh205 =>
                                      ∃ c214 : Option Addr, r158 = .pointer c214 ∧
                                      HCalls Try.prog fn_slot_Open #[.pointer c214, .int .i64 (2 : Int), .int .i64 (4 : Int), .int .i64 (6 : Int)] vh205 fun r159 vh206 =>
                                      ∃ c215 : Option Addr, ∃ c216 : Int, r159 = .tuple #[.pointer c215, .int .i64 c216] ∧
                                      IfB (c216 != (0 : Int)) (R (.bool false) vh206)
                                      (IfB (isNone? c215) (R (.bool false) vh206)
                                        (let vh207 := alc vh206 [.int .u8 (110 : Int), .int .u8 (101 : Int), .int .u8 (120 : Int), .int .u8 (116 : Int)] ty_uint8;
                                          ∃ a26 : Addr, (Sl.mk (some (nw vh206)) 4 4).base = some a26 ∧
                                          let vh208 := hstr vh207 a26;
                                          HCalls Try.prog fn_slot_Slots_Save #[.pointer c215, .slice (Sl.mk (some (nw vh206)) 4 4).base (Sl.mk (some (nw vh206)) 4 4).len (Sl.mk (some (nw vh206)) 4 4).cap] vh208 fun r160 vh209 =>
                                          ∃ c217 : Int, r160 = .int .i64 c217 ∧
                                          IfB (c217 != (0 : Int)) (R (.bool false) vh209)
                                          (HCalls Try.prog fn_slot_Slots_Load #[.pointer c215] vh209 fun r161 vh210 =>
                                            ∃ c218 : Sl, ∃ c219 : Int, r161 = .tuple #[.slice c218.base c218.len c218.cap, .int .i64 c219] ∧
                                            ∃ bs21 : List UInt8, bs21.length = c218.len ∧ RdC vh210 c218.base (bs21.map fun x => .int .u8 (x.toNat : Int)) ∧
                                            IfB ((ByteArray.mk bs21.toArray).toList == (ByteArray.mk #[110, 101, 120, 116]).toList) (IfB (c219 == (iAdd .i64 c189 (1 : Int))) (HCalls Try.prog fn_scarplaw19_awake #[] vh210 fun r162 vh211 =>
                                                ∃ c220 : Bool, r162 = .bool c220 ∧
                                                R (.bool c220) vh211)
                                              (R (.bool false) vh210))
                                            (R (.bool false) vh210))))))
                                  (IfB (!false) (R (.bool false) vh180)
                                    (HCalls Try.prog fn_zdev_Dev_Crash #[.pointer d3, .slice picks.base picks.len picks.cap, .slice torn.base torn.len torn.cap] vh180 fun r163 vh212 =>
                                      ∃ c221 : Option Addr, r163 = .pointer c221 ∧
                                      HCalls Try.prog fn_slot_Open #[.pointer c221, .int .i64 (2 : Int), .int .i64 (4 : Int), .int .i64 (6 : Int)] vh212 fun r164 vh213 =>
                                      ∃ c222 : Option Addr, ∃ c223 : Int, r164 = .tuple #[.pointer c222, .int .i64 c223] ∧
                                      IfB (c223 != (0 : Int)) (R (.bool false) vh213)
                                      (IfB (isNone? c222) (R (.bool false) vh213)
                                        (let vh214 := alc vh213 [.int .u8 (110 : Int), .int .u8 (101 : Int), .int .u8 (120 : Int), .int .u8 (116 : Int)] ty_uint8;
                                          ∃ a27 : Addr, (Sl.mk (some (nw vh213)) 4 4).base = some a27 ∧
                                          let vh215 := hstr vh214 a27;
                                          HCalls Try.prog fn_slot_Slots_Save #[.pointer c222, .slice (Sl.mk (some (nw vh213)) 4 4).base (Sl.mk (some (nw vh213)) 4 4).len (Sl.mk (some (nw vh213)) 4 4).cap] vh215 fun r165 vh216 =>
                                          ∃ c224 : Int, r165 = .int .i64 c224 ∧
                                          IfB (c224 != (0 : Int)) (R (.bool false) vh216)
                                          (HCalls Try.prog fn_slot_Slots_Load #[.pointer c222] vh216 fun r166 vh217 =>
                                            ∃ c225 : Sl, ∃ c226 : Int, r166 = .tuple #[.slice c225.base c225.len c225.cap, .int .i64 c226] ∧
                                            ∃ bs22 : List UInt8, bs22.length = c225.len ∧ RdC vh217 c225.base (bs22.map fun x => .int .u8 (x.toNat : Int)) ∧
                                            IfB ((ByteArray.mk bs22.toArray).toList == (ByteArray.mk #[110, 101, 120, 116]).toList) (IfB (c226 == (iAdd .i64 c189 (1 : Int))) (HCalls Try.prog fn_scarplaw19_awake #[] vh217 fun r167 vh218 =>
                                                ∃ c227 : Bool, r167 = .bool c227 ∧
                                                R (.bool c227) vh218)
                                              (R (.bool false) vh217))
                                            (R (.bool false) vh217)))))))
                                (HCalls Try.prog fn_zdev_Dev_Crash #[.pointer d3, .slice picks.base picks.len picks.cap, .slice torn.base torn.len torn.cap] vh180 fun r168 vh219 =>
                                  ∃ c228 : Option Addr, r168 = .pointer c228 ∧
                                  HCalls Try.prog fn_slot_Open #[.pointer c228, .int .i64 (2 : Int), .int .i64 (4 : Int), .int .i64 (6 : Int)] vh219 fun r169 vh220 =>
                                  ∃ c229 : Option Addr, ∃ c230 : Int, r169 = .tuple #[.pointer c229, .int .i64 c230] ∧
                                  IfB (c230 != (0 : Int)) (R (.bool false) vh220)
                                  (IfB (isNone? c229) (R (.bool false) vh220)
                                    (let vh221 := alc vh220 [.int .u8 (110 : Int), .int .u8 (101 : Int), .int .u8 (120 : Int), .int .u8 (116 : Int)] ty_uint8;
                                      ∃ a28 : Addr, (Sl.mk (some (nw vh220)) 4 4).base = some a28 ∧
                                      let vh222 := hstr vh221 a28;
                                      HCalls Try.prog fn_slot_Slots_Save #[.pointer c229, .slice (Sl.mk (some (nw vh220)) 4 4).base (Sl.mk (some (nw vh220)) 4 4).len (Sl.mk (some (nw vh220)) 4 4).cap] vh222 fun r170 vh223 =>
                                      ∃ c231 : Int, r170 = .int .i64 c231 ∧
                                      IfB (c231 != (0 : Int)) (R (.bool false) vh223)
                                      (HCalls Try.prog fn_slot_Slots_Load #[.pointer c229] vh223 fun r171 vh224 =>
                                        ∃ c232 : Sl, ∃ c233 : Int, r171 = .tuple #[.slice c232.base c232.len c232.cap, .int .i64 c233] ∧
                                        ∃ bs23 : List UInt8, bs23.length = c232.len ∧ RdC vh224 c232.base (bs23.map fun x => .int .u8 (x.toNat : Int)) ∧
                                        IfB ((ByteArray.mk bs23.toArray).toList == (ByteArray.mk #[110, 101, 120, 116]).toList) (IfB (c233 == (iAdd .i64 c189 (1 : Int))) (HCalls Try.prog fn_scarplaw19_awake #[] vh224 fun r172 vh225 =>
                                            ∃ c234 : Bool, r172 = .bool c234 ∧
                                            R (.bool c234) vh225)
                                          (R (.bool false) vh224))
                                        (R (.bool false) vh224))))))))))))))))))))
theorem scarplaw19_SlotCrash_vc {sizes : Sl} {cut : Int} {picks : Sl} {torn : Sl} {cuts : Sl} {h : Hp} {R : Value → Hp → Prop} (H : vcscarplaw19_SlotCrash sizes cut picks torn cuts h R) : HCalls Try.prog fn_scarplaw19_SlotCrash #[.slice sizes.base sizes.len sizes.cap, .int .i64 cut, .slice picks.base picks.len picks.cap, .slice torn.base torn.len torn.cap, .slice cuts.base cuts.len cuts.cap] h R :=
  vc_fn (annOf [(0, [(15, .sl), (16, .sl), (17, .int .i64), (18, .int .i64)]), (1, [(11, .ptr), (20, .int .i64)])] []) Try.func7 [.slice sizes.base sizes.len sizes.cap, .int .i64 cut, .slice picks.base picks.len picks.cap, .slice torn.base torn.len torn.cap, .slice cuts.base cuts.len cuts.cap] (by kernel_rfl) (V := vcscarplaw19_SlotCrash sizes cut picks torn cuts h R) (by kernel_rfl) H

def vcscarplaw19_awake (h : Hp) (R : Value → Hp → Prop) : Prop :=
  HCalls Try.prog fn_scarplaw19_dev #[] h fun r vh =>
  ∃ c : Option Addr, ∃ c1 : Bool, r = .tuple #[.pointer c, .bool c1] ∧
  IfB (!c1) (R (.bool false) vh)
  (HCalls Try.prog fn_slot_Open #[.pointer c, .int .i64 (0 : Int), .int .i64 (1 : Int), .int .i64 (2 : Int)] vh fun r1 vh1 =>
    ∃ c2 : Option Addr, ∃ c3 : Int, r1 = .tuple #[.pointer c2, .int .i64 c3] ∧
    IfB (c3 != (0 : Int)) (R (.bool false) vh1)
    (IfB (isNone? c2) (R (.bool false) vh1)
      (let vh2 := alc vh1 [.int .u8 (97 : Int)] ty_uint8;
        ∃ a : Addr, (Sl.mk (some (nw vh1)) 1 1).base = some a ∧
        let vh3 := hstr vh2 a;
        HCalls Try.prog fn_slot_Slots_Save #[.pointer c2, .slice (Sl.mk (some (nw vh1)) 1 1).base (Sl.mk (some (nw vh1)) 1 1).len (Sl.mk (some (nw vh1)) 1 1).cap] vh3 fun r2 vh4 =>
        ∃ c4 : Int, r2 = .int .i64 c4 ∧
        IfB (c4 != (0 : Int)) (R (.bool false) vh4)
        (let vh5 := alc vh4 [.int .u8 (98 : Int)] ty_uint8;
          ∃ a1 : Addr, (Sl.mk (some (nw vh4)) 1 1).base = some a1 ∧
          let vh6 := hstr vh5 a1;
          HCalls Try.prog fn_slot_Slots_Save #[.pointer c2, .slice (Sl.mk (some (nw vh4)) 1 1).base (Sl.mk (some (nw vh4)) 1 1).len (Sl.mk (some (nw vh4)) 1 1).cap] vh6 fun r3 vh7 =>
          ∃ c5 : Int, r3 = .int .i64 c5 ∧
          IfB (c5 != (0 : Int)) (R (.bool false) vh7)
          (HCalls Try.prog fn_zdev_Dev_Crash #[.pointer c, .slice Sl.nil.base Sl.nil.len Sl.nil.cap, .slice Sl.nil.base Sl.nil.len Sl.nil.cap] vh7 fun r4 vh8 =>
            ∃ c6 : Option Addr, r4 = .pointer c6 ∧
            HCalls Try.prog fn_slot_Open #[.pointer c6, .int .i64 (0 : Int), .int .i64 (1 : Int), .int .i64 (2 : Int)] vh8 fun r5 vh9 =>
            ∃ c7 : Option Addr, ∃ c8 : Int, r5 = .tuple #[.pointer c7, .int .i64 c8] ∧
            IfB (c8 != (0 : Int)) (R (.bool false) vh9)
            (IfB (isNone? c7) (R (.bool false) vh9)
              (HCalls Try.prog fn_slot_Slots_Load #[.pointer c7] vh9 fun r6 vh10 =>
                ∃ c9 : Sl, ∃ c10 : Int, r6 = .tuple #[.slice c9.base c9.len c9.cap, .int .i64 c10] ∧
                ∃ bs : List UInt8, bs.length = c9.len ∧ RdC vh10 c9.base (bs.map fun x => .int .u8 (x.toNat : Int)) ∧
                IfB ((ByteArray.mk bs.toArray).toList == (ByteArray.mk #[98]).toList) (IfB (c10 == (2 : Int)) (HCalls Try.prog fn_slot_Slots_Room #[.pointer c2] vh10 fun r7 vh11 =>
                    ∃ c11 : Int, r7 = .int .i64 c11 ∧
                    R (.bool (c11 == (3760 : Int))) vh11)
                  (R (.bool false) vh10))
                (R (.bool false) vh10))))))))
theorem scarplaw19_awake_vc {h : Hp} {R : Value → Hp → Prop} (H : vcscarplaw19_awake h R) : HCalls Try.prog fn_scarplaw19_awake #[] h R :=
  vc_fn (annOf [] []) Try.func8 [] (by kernel_rfl) (V := vcscarplaw19_awake h R) (by kernel_rfl) H

def vcscarplaw19_dev (h : Hp) (R : Value → Hp → Prop) : Prop :=
  HCalls Try.prog fn_zdev_New #[.agg #[.int .i64 (8 : Int), .int .i64 (96 : Int)]] h fun r vh =>
  ∃ c : Option Addr, ∃ c1 : Int, r = .tuple #[.pointer c, .int .i64 c1] ∧
  IfB (c1 == (0 : Int)) (R (.tuple #[.pointer c, .bool (!isNone? c)]) vh)
  (R (.tuple #[.pointer c, .bool false]) vh)
theorem scarplaw19_dev_vc {h : Hp} {R : Value → Hp → Prop} (H : vcscarplaw19_dev h R) : HCalls Try.prog fn_scarplaw19_dev #[] h R :=
  vc_fn (annOf [] []) Try.func9 [] (by kernel_rfl) (V := vcscarplaw19_dev h R) (by kernel_rfl) H

def vcslot_Open (d : Option Addr) (low : Int) (mid : Int) (high : Int) (h : Hp) (R : Value → Hp → Prop) : Prop :=
  HCalls Try.prog fn_zdev_Dev_Geometry #[.pointer d] h fun r vh =>
  ∃ c : Int, ∃ c1 : Int, r = .agg #[.int .i64 c, .int .i64 c1] ∧
  let vh1 := alc vh [.int .i64 (0 : Int), .int .i64 (0 : Int)] ty_api_Geometry;
  stCells (nw vh) 0 [.int .i64 c, .int .i64 c1] vh1 fun vh2 =>
  ∃ c2 : Int, hcell vh2 (nw vh) = some (.int .i64 c2) ∧
  IfB (c2 == (0 : Int)) (R (.tuple #[.pointer none, .int .i64 (1 : Int)]) vh2)
  (IfB (decide (low < (0 : Int))) (R (.tuple #[.pointer none, .int .i64 (1 : Int)]) vh2)
    (IfB (decide (mid ≤ low)) (R (.tuple #[.pointer none, .int .i64 (1 : Int)]) vh2)
      (IfB (decide (high ≤ mid)) (R (.tuple #[.pointer none, .int .i64 (1 : Int)]) vh2)
        (∃ c3 : Int, hcell vh2 (nw vh) = some (.int .i64 c3) ∧
          IfB (decide (high > c3)) (R (.tuple #[.pointer none, .int .i64 (1 : Int)]) vh2)
          (∃ c4 : Int, hcell vh2 ((nw vh).add 1) = some (.int .i64 c4) ∧
            let vh3 := alc vh2 [.pointer d, .int .i64 low, .int .i64 mid, .int .i64 high, .int .i64 c4, .int .i64 (1 : Int), .slice Sl.nil.base Sl.nil.len Sl.nil.cap, .int .i64 (0 : Int), .bool false] ty_slot_Slots;
            ∃ (vI : Int → Nat → Hp → Prop) (n : Nat), vI (0 : Int) n vh3 ∧
            ∀ _junk : Nat → Value, ∀ t51 : Int, ∀ (n1 : Nat) (vh4 : Hp), vI t51 n1 vh4 →
            IfB (decide (t51 < (2 : Int))) (HCalls Try.prog fn_slot_Slots_blocks #[.pointer (some (nw vh2)), .int .i64 t51] vh4 fun r1 vh5 =>
              ∃ c5 : Sl, r1 = .slice c5.base c5.len c5.cap ∧
              HCalls Try.prog fn_slices_ContainsFunc_ssbytesbyte #[.slice c5.base c5.len c5.cap, .func (.func 25) #[] #[]] vh5 fun r2 vh6 =>
              ∃ c6 : Bool, r2 = .bool c6 ∧
              IfB c6 (R (.tuple #[.pointer none, .int .i64 (13 : Int)]) vh6)
              (HCalls Try.prog fn_slot_read #[.slice c5.base c5.len c5.cap] vh6 fun r3 vh7 =>
                ∃ c7 : Sl, ∃ c8 : Int, r3 = .tuple #[.slice c7.base c7.len c7.cap, .int .i64 c8] ∧
                ∃ a : Addr, (some (nw vh2)) = some a ∧
                ∃ c9 : Int, hcell vh7 (a.add 7) = some (.int .i64 c9) ∧
                IfB (decide (c8 > c9)) (∃ a1 : Addr, (some (nw vh2)) = some a1 ∧
                  StOk vh7 (a1.add 5) ∧
                  Lt (hset vh7 (a1.add 5) (.int .i64 t51)) fun vh8 =>
                  ∃ a2 : Addr, (some (nw vh2)) = some a2 ∧
                  StOk vh8 (a2.add 6) ∧
                  Lt (hset vh8 (a2.add 6) (.slice c7.base c7.len c7.cap)) fun vh9 =>
                  ∃ a3 : Addr, (some (nw vh2)) = some a3 ∧
                  StOk vh9 (a3.add 7) ∧
                  Lt (hset vh9 (a3.add 7) (.int .i64 c8)) fun vh10 =>
                  ∃ n2, n2 < n1 ∧ vI (iAdd .i64 t51 (1 : Int)) n2 vh10)
                (∃ n2, n2 < n1 ∧ vI (iAdd .i64 t51 (1 : Int)) n2 vh7)))
            (HCalls Try.prog fn_zdev_Dev_Flush #[.pointer d] vh4 fun r4 vh11 =>
              ∃ c10 : Int, r4 = .int .i64 c10 ∧
              IfB (c10 != (0 : Int)) (R (.tuple #[.pointer none, .int .i64 c10]) vh11)
              (R (.tuple #[.pointer (some (nw vh2)), .int .i64 (0 : Int)]) vh11)))))))
theorem slot_Open_vc {d : Option Addr} {low : Int} {mid : Int} {high : Int} {h : Hp} {R : Value → Hp → Prop} (H : vcslot_Open d low mid high h R) : HCalls Try.prog fn_slot_Open #[.pointer d, .int .i64 low, .int .i64 mid, .int .i64 high] h R :=
  vc_fn (annOf [(0, [(51, .int .i64)])] []) Try.func10 [.pointer d, .int .i64 low, .int .i64 mid, .int .i64 high] (by kernel_rfl) (V := vcslot_Open d low mid high h R) (by kernel_rfl) H

def vcslot_Slots_Room (s : Option Addr) (h : Hp) (R : Value → Hp → Prop) : Prop :=
  IfB (isNone? s) (R (.int .i64 (0 : Int)) h)
  (∃ a : Addr, s = some a ∧
    ∃ c : Option Addr, hcell h a = some (.pointer c) ∧
    IfB (isNone? c) (R (.int .i64 (0 : Int)) h)
    (∃ a1 : Addr, s = some a1 ∧
      0 ≤ (1 : Int) ∧ (1 : Int) < ((3 : Nat) : Int) ∧
      ∃ c1 : Int, hcell h ((a1.add 1).add (((1 : Int)).toNat * 1)) = some (.int .i64 c1) ∧
      ∃ a2 : Addr, s = some a2 ∧
      0 ≤ (0 : Int) ∧ (0 : Int) < ((3 : Nat) : Int) ∧
      ∃ c2 : Int, hcell h ((a2.add 1).add (((0 : Int)).toNat * 1)) = some (.int .i64 c2) ∧
      ∃ a3 : Addr, s = some a3 ∧
      0 ≤ (2 : Int) ∧ (2 : Int) < ((3 : Nat) : Int) ∧
      ∃ c3 : Int, hcell h ((a3.add 1).add (((2 : Int)).toNat * 1)) = some (.int .i64 c3) ∧
      ∃ a4 : Addr, s = some a4 ∧
      0 ≤ (1 : Int) ∧ (1 : Int) < ((3 : Nat) : Int) ∧
      ∃ c4 : Int, hcell h ((a4.add 1).add (((1 : Int)).toNat * 1)) = some (.int .i64 c4) ∧
      ∃ a5 : Addr, s = some a5 ∧
      ∃ c5 : Int, hcell h (a5.add 4) = some (.int .i64 c5) ∧
      R (.int .i64 (iMul .i64 (40 : Int) (iSub .i64 (iMul .i64 (if (iSub .i64 c3 c4) < (iSub .i64 c1 c2) then (iSub .i64 c3 c4) else (iSub .i64 c1 c2)) c5) (2 : Int)))) h))
theorem slot_Slots_Room_vc {s : Option Addr} {h : Hp} {R : Value → Hp → Prop} (H : vcslot_Slots_Room s h R) : HCalls Try.prog fn_slot_Slots_Room #[.pointer s] h R :=
  vc_fn (annOf [] []) Try.func11 [.pointer s] (by kernel_rfl) (V := vcslot_Slots_Room s h R) (by kernel_rfl) H

def vcscarpalike_Round (k : Int) (n : Int) (h : Hp) (R : Value → Hp → Prop) : Prop :=
  n ≠ 0 ∧
  IfB (decide ((iRem k n) < (0 : Int))) (R (.int .i64 (iAdd .i64 (iRem k n) n)) h)
  (R (.int .i64 (iRem k n)) h)
theorem scarpalike_Round_vc {k : Int} {n : Int} {h : Hp} {R : Value → Hp → Prop} (H : vcscarpalike_Round k n h R) : HCalls Try.prog fn_scarpalike_Round #[.int .i64 k, .int .i64 n] h R :=
  vc_fn (annOf [] []) Try.func12 [.int .i64 k, .int .i64 n] (by kernel_rfl) (V := vcscarpalike_Round k n h R) (by kernel_rfl) H

def vcscarpalike_Block (n : Int) (k : Int) (h : Hp) (R : Value → Hp → Prop) : Prop :=
  MkC ty_uint8 1 #[.int .u8 (0 : Int)] (if n < (0 : Int) then (0 : Int) else n) (if n < (0 : Int) then (0 : Int) else n) h fun s vh =>
  ∃ (vI : Int → Nat → Hp → Prop) (n1 : Nat), vI (0 : Int) n1 vh ∧
  ∀ _junk : Nat → Value, ∀ i : Int, ∀ (n2 : Nat) (vh1 : Hp), vI i n2 vh1 →
  IfB (decide (i < (s.len : Int))) (HCalls Try.prog fn_scarpalike_Round #[.int .i64 (iAdd .i64 (iAdd .i64 (iMul .i64 i i) (iMul .i64 k (7 : Int))) (1 : Int)), .int .i64 (251 : Int)] vh1 fun r vh2 =>
    ∃ c : Int, r = .int .i64 c ∧
    ∃ a : Addr, s.base = some a ∧ 0 ≤ i ∧ i < (s.len : Int) ∧
    StOk vh2 (a.add ((i).toNat * 1)) ∧
    Lt (hset vh2 (a.add ((i).toNat * 1)) (.int .u8 (iConv .u8 c))) fun vh3 =>
    ∃ n3, n3 < n2 ∧ vI (iAdd .i64 i (1 : Int)) n3 vh3)
  (R (.slice s.base s.len s.cap) vh1)
theorem scarpalike_Block_vc {n : Int} {k : Int} {h : Hp} {R : Value → Hp → Prop} (H : vcscarpalike_Block n k h R) : HCalls Try.prog fn_scarpalike_Block #[.int .i64 n, .int .i64 k] h R :=
  vc_fn (annOf [(0, [(6, .int .i64)])] []) Try.func13 [.int .i64 n, .int .i64 k] (by kernel_rfl) (V := vcscarpalike_Block n k h R) (by kernel_rfl) H

def vcslot_Slots_Load (s : Option Addr) (h : Hp) (R : Value → Hp → Prop) : Prop :=
  IfB (isNone? s) (R (.tuple #[.slice Sl.nil.base Sl.nil.len Sl.nil.cap, .int .i64 (0 : Int)]) h)
  (∃ a : Addr, s = some a ∧
    ∃ c : Sl, hcell h (a.add 6) = some (.slice c.base c.len c.cap) ∧
    ∃ a1 : Addr, s = some a1 ∧
    ∃ c1 : Int, hcell h (a1.add 7) = some (.int .i64 c1) ∧
    HCalls Try.prog fn_slices_Clone_sbytebyte #[.slice c.base c.len c.cap] h fun r vh =>
    ∃ c2 : Sl, r = .slice c2.base c2.len c2.cap ∧
    Ext h vh ∧
    R (.tuple #[.slice c2.base c2.len c2.cap, .int .i64 c1]) vh)
theorem slot_Slots_Load_vc {s : Option Addr} {h : Hp} {R : Value → Hp → Prop} (H : vcslot_Slots_Load s h R) : HCalls Try.prog fn_slot_Slots_Load #[.pointer s] h R :=
  vc_fn (annOf [] []) Try.func15 [.pointer s] (by kernel_rfl) (V := vcslot_Slots_Load s h R) (by kernel_rfl) H

def vcscarpalike_Bytes (a : Sl) (b : Sl) (h : Hp) (R : Value → Hp → Prop) : Prop :=
  IfB ((a.len : Int) != (b.len : Int)) (R (.bool false) h)
  (∃ (vI : Int → Nat → Hp → Prop) (n : Nat), vI (0 : Int) n h ∧
    ∀ _junk : Nat → Value, ∀ i : Int, ∀ (n1 : Nat) (vh : Hp), vI i n1 vh →
    IfB (decide (i < (a.len : Int))) (∃ a1 : Addr, a.base = some a1 ∧ 0 ≤ i ∧ i < (a.len : Int) ∧
      ∃ c : Int, hcell vh (a1.add ((i).toNat * 1)) = some (.int .u8 c) ∧
      ∃ a2 : Addr, b.base = some a2 ∧ 0 ≤ i ∧ i < (b.len : Int) ∧
      ∃ c1 : Int, hcell vh (a2.add ((i).toNat * 1)) = some (.int .u8 c1) ∧
      IfB (c != c1) (R (.bool false) vh)
      (∃ n2, n2 < n1 ∧ vI (iAdd .i64 i (1 : Int)) n2 vh))
    (R (.bool true) vh))
theorem scarpalike_Bytes_vc {a : Sl} {b : Sl} {h : Hp} {R : Value → Hp → Prop} (H : vcscarpalike_Bytes a b h R) : HCalls Try.prog fn_scarpalike_Bytes #[.slice a.base a.len a.cap, .slice b.base b.len b.cap] h R :=
  vc_fn (annOf [(0, [(5, .int .i64)])] []) Try.func16 [.slice a.base a.len a.cap, .slice b.base b.len b.cap] (by kernel_rfl) (V := vcscarpalike_Bytes a b h R) (by kernel_rfl) H

def vcslot_Slots_Dead (s : Option Addr) (h : Hp) (R : Value → Hp → Prop) : Prop :=
  IfB (isNone? s) (R (.bool true) h)
  (∃ a : Addr, s = some a ∧
    ∃ c : Option Addr, hcell h a = some (.pointer c) ∧
    IfB (isNone? c) (R (.bool true) h)
    (∃ a1 : Addr, s = some a1 ∧
      ∃ c1 : Bool, hcell h (a1.add 8) = some (.bool c1) ∧
      R (.bool c1) h))
theorem slot_Slots_Dead_vc {s : Option Addr} {h : Hp} {R : Value → Hp → Prop} (H : vcslot_Slots_Dead s h R) : HCalls Try.prog fn_slot_Slots_Dead #[.pointer s] h R :=
  vc_fn (annOf [] []) Try.func17 [.pointer s] (by kernel_rfl) (V := vcslot_Slots_Dead s h R) (by kernel_rfl) H

def vczdev_Dev_Pointer (d : Option Addr) (i : Int) (h : Hp) (R : Value → Hp → Prop) : Prop :=
  HCalls Try.prog fn_zdev_Dev_at #[.pointer d, .int .i64 i] h fun r vh =>
  ∃ c : Option Addr, r = .pointer c ∧
  IfB (isNone? c) (R (.tuple #[.int .i64 (0 : Int), .int .i64 (1 : Int)]) vh)
  (∃ a : Addr, c = some a ∧
    ∃ c1 : Sl, hcell vh a = some (.slice c1.base c1.len c1.cap) ∧
    R (.tuple #[.int .i64 (c1.len : Int), .int .i64 (0 : Int)]) vh)
theorem zdev_Dev_Pointer_vc {d : Option Addr} {i : Int} {h : Hp} {R : Value → Hp → Prop} (H : vczdev_Dev_Pointer d i h R) : HCalls Try.prog fn_zdev_Dev_Pointer #[.pointer d, .int .i64 i] h R :=
  vc_fn (annOf [] []) Try.func18 [.pointer d, .int .i64 i] (by kernel_rfl) (V := vczdev_Dev_Pointer d i h R) (by kernel_rfl) H

def vczdev_Dev_Cut (d : Option Addr) (n : Int) (h : Hp) (R : Value → Hp → Prop) : Prop :=
  HCalls Try.prog fn_zdev_Dev_gone #[.pointer d] h fun r vh =>
  ∃ c : Bool, r = .bool c ∧
  IfB (!c) (∃ a : Addr, d = some a ∧
    StOk vh (a.add 5) ∧
    Lt (hset vh (a.add 5) (.bool true)) fun vh1 =>
    ∃ a1 : Addr, d = some a1 ∧
    StOk vh1 (a1.add 6) ∧
    Lt (hset vh1 (a1.add 6) (.int .i64 (if n < (0 : Int) then (0 : Int) else n))) fun vh2 =>
    R (.tuple #[]) vh2)
  (R (.tuple #[]) vh)
theorem zdev_Dev_Cut_vc {d : Option Addr} {n : Int} {h : Hp} {R : Value → Hp → Prop} (H : vczdev_Dev_Cut d n h R) : HCalls Try.prog fn_zdev_Dev_Cut #[.pointer d, .int .i64 n] h R :=
  vc_fn (annOf [] []) Try.func20 [.pointer d, .int .i64 n] (by kernel_rfl) (V := vczdev_Dev_Cut d n h R) (by kernel_rfl) H

def vczdev_New (g : Int) (g1 : Int) (h : Hp) (R : Value → Hp → Prop) : Prop :=
  let vh := alc h [.int .i64 g, .int .i64 g1] ty_api_Geometry;
  ∃ c : Int, hcell vh (nw h) = some (.int .i64 c) ∧
  IfB (decide (c < (8 : Int))) (R (.tuple #[.pointer none, .int .i64 (1 : Int)]) vh)
  (∃ c1 : Int, hcell vh (nw h) = some (.int .i64 c1) ∧
    IfB (decide (c1 > (64 : Int))) (R (.tuple #[.pointer none, .int .i64 (1 : Int)]) vh)
    (∃ c2 : Int, hcell vh ((nw h).add 1) = some (.int .i64 c2) ∧
      IfB (decide (c2 < (96 : Int))) (R (.tuple #[.pointer none, .int .i64 (1 : Int)]) vh)
      (∃ c3 : Int, hcell vh ((nw h).add 1) = some (.int .i64 c3) ∧
        IfB (decide (c3 > (192 : Int))) (R (.tuple #[.pointer none, .int .i64 (1 : Int)]) vh)
        (∃ c4 : Int, ∃ c5 : Int, hcell vh ((nw h)) = some (.int .i64 c4) ∧ hcell vh ((nw h).add 1) = some (.int .i64 c5) ∧
          let vh1 := alc vh [.int .i64 c4, .int .i64 c5, .slice Sl.nil.base Sl.nil.len Sl.nil.cap, .int .i64 (0 : Int), .int .i64 (0 : Int), .bool false, .int .i64 (0 : Int), .bool false] ty_zdev_Dev;
          ∃ c6 : Int, hcell vh1 (nw h) = some (.int .i64 c6) ∧
          ∃ (vI : Int → Nat → Hp → Prop) (n : Nat), vI (0 : Int) n vh1 ∧
          ∀ _junk : Nat → Value, ∀ t28 : Int, ∀ (n1 : Nat) (vh2 : Hp), vI t28 n1 vh2 →
          IfB (decide (t28 < c6)) (∃ a : Addr, (some (nw vh)) = some a ∧
            ∃ c7 : Sl, hcell vh2 (a.add 2) = some (.slice c7.base c7.len c7.cap) ∧
            let vh3 := alc vh2 [.slice Sl.nil.base Sl.nil.len Sl.nil.cap, .int .i64 (0 : Int)] ty_zdev_zone;
            let vh4 := alc vh3 [.pointer (some (nw vh2))] ty_pzdev_zone;
            AppC ty_pzdev_zone 1 8 #[.pointer none] c7 (Sl.mk (some (nw vh3)) 1 1) vh4 fun s vh5 =>
            ∃ a1 : Addr, (some (nw vh)) = some a1 ∧
            StOk vh5 (a1.add 2) ∧
            Lt (hset vh5 (a1.add 2) (.slice s.base s.len s.cap)) fun vh6 =>
            ∃ n2, n2 < n1 ∧ vI (iAdd .i64 t28 (1 : Int)) n2 vh6)
          (R (.tuple #[.pointer (some (nw vh)), .int .i64 (0 : Int)]) vh2)))))
theorem zdev_New_vc {g : Int} {g1 : Int} {h : Hp} {R : Value → Hp → Prop} (H : vczdev_New g g1 h R) : HCalls Try.prog fn_zdev_New #[.agg #[.int .i64 g, .int .i64 g1]] h R :=
  vc_fn (annOf [(0, [(28, .int .i64)])] []) Try.func21 [.agg #[.int .i64 g, .int .i64 g1]] (by kernel_rfl) (V := vczdev_New g g1 h R) (by kernel_rfl) H

def vczdev_Dev_Geometry (d : Option Addr) (h : Hp) (R : Value → Hp → Prop) : Prop :=
  let vh := alc h [.int .i64 (0 : Int), .int .i64 (0 : Int)] ty_api_Geometry;
  HCalls Try.prog fn_zdev_Dev_gone #[.pointer d] vh fun r vh1 =>
  ∃ c : Bool, r = .bool c ∧
  IfB c (stCells (nw h) 0 [.int .i64 (0 : Int), .int .i64 (0 : Int)] vh1 fun vh2 =>
    ∃ x : Int, ∃ x1 : Int, hcell vh2 ((nw h)) = some (.int .i64 x) ∧ hcell vh2 ((nw h).add 1) = some (.int .i64 x1) ∧
    R (.agg #[.int .i64 x, .int .i64 x1]) vh2)
  (∃ a : Addr, d = some a ∧
    ∃ c1 : Int, ∃ c2 : Int, hcell vh1 (a) = some (.int .i64 c1) ∧ hcell vh1 (a.add 1) = some (.int .i64 c2) ∧
    stCells (nw h) 0 [.int .i64 c1, .int .i64 c2] vh1 fun vh3 =>
    ∃ x2 : Int, ∃ x3 : Int, hcell vh3 ((nw h)) = some (.int .i64 x2) ∧ hcell vh3 ((nw h).add 1) = some (.int .i64 x3) ∧
    R (.agg #[.int .i64 x2, .int .i64 x3]) vh3)
theorem zdev_Dev_Geometry_vc {d : Option Addr} {h : Hp} {R : Value → Hp → Prop} (H : vczdev_Dev_Geometry d h R) : HCalls Try.prog fn_zdev_Dev_Geometry #[.pointer d] h R :=
  vc_fn (annOf [] []) Try.func22 [.pointer d] (by kernel_rfl) (V := vczdev_Dev_Geometry d h R) (by kernel_rfl) H

def vcslot_Slots_blocks (s : Option Addr) (i : Int) (h : Hp) (R : Value → Hp → Prop) : Prop :=
  ∃ a : Addr, s = some a ∧
  0 ≤ i ∧ i < ((3 : Nat) : Int) ∧
  ∃ c : Int, hcell h ((a.add 1).add ((i).toNat * 1)) = some (.int .i64 c) ∧
  ∃ (vI : Sl → Int → Nat → Hp → Prop) (n : Nat), vI Sl.nil c n h ∧
  ∀ _junk : Nat → Value, ∀ out : Sl, ∀ z : Int, ∀ (n1 : Nat) (vh : Hp), vI out z n1 vh →
  ∃ a1 : Addr, s = some a1 ∧
  0 ≤ (iAdd .i64 i (1 : Int)) ∧ (iAdd .i64 i (1 : Int)) < ((3 : Nat) : Int) ∧
  ∃ c1 : Int, hcell vh ((a1.add 1).add (((iAdd .i64 i (1 : Int))).toNat * 1)) = some (.int .i64 c1) ∧
  IfB (decide (z < c1)) (∃ a2 : Addr, s = some a2 ∧
    ∃ c2 : Option Addr, hcell vh a2 = some (.pointer c2) ∧
    HCalls Try.prog fn_zdev_Dev_Pointer #[.pointer c2, .int .i64 z] vh fun r vh1 =>
    ∃ c3 : Int, ∃ c4 : Int, r = .tuple #[.int .i64 c3, .int .i64 c4] ∧
    ∃ (vI1 : Sl → Int → Nat → Hp → Prop) (n3 : Nat), vI1 out (0 : Int) n3 vh1 ∧
    ∀ _junk : Nat → Value, ∀ out1 : Sl, ∀ t38 : Int, ∀ (n4 : Nat) (vh2 : Hp), vI1 out1 t38 n4 vh2 →
    IfB (decide (t38 < c3)) (∃ a3 : Addr, s = some a3 ∧
      ∃ c5 : Option Addr, hcell vh2 a3 = some (.pointer c5) ∧
      HCalls Try.prog fn_zdev_Dev_Read #[.pointer c5, .int .i64 z, .int .i64 t38] vh2 fun r1 vh3 =>
      ∃ c6 : Sl, ∃ c7 : Int, r1 = .tuple #[.slice c6.base c6.len c6.cap, .int .i64 c7] ∧
      let vh4 := alc vh3 [.slice c6.base c6.len c6.cap] ty_suint8;
      AppC ty_suint8 1 24 #[.slice Sl.nil.base Sl.nil.len Sl.nil.cap] out1 (Sl.mk (some (nw vh3)) 1 1) vh4 fun s1 vh5 =>
      ∃ n5, n5 < n4 ∧ vI1 s1 (iAdd .i64 t38 (1 : Int)) n5 vh5)
    (∃ a4 : Addr, s = some a4 ∧
      ∃ c8 : Int, hcell vh2 (a4.add 4) = some (.int .i64 c8) ∧
      IfB (decide (c3 < c8)) (R (.slice out1.base out1.len out1.cap) vh2)
      (∃ n2, n2 < n1 ∧ vI out1 (iAdd .i64 z (1 : Int)) n2 vh2)))
  (R (.slice out.base out.len out.cap) vh)
theorem slot_Slots_blocks_vc {s : Option Addr} {i : Int} {h : Hp} {R : Value → Hp → Prop} (H : vcslot_Slots_blocks s i h R) : HCalls Try.prog fn_slot_Slots_blocks #[.pointer s, .int .i64 i] h R :=
  vc_fn (annOf [(0, [(4, .sl), (5, .int .i64)]), (1, [(4, .sl), (38, .int .i64)])] []) Try.func23 [.pointer s, .int .i64 i] (by kernel_rfl) (V := vcslot_Slots_blocks s i h R) (by kernel_rfl) H

def vcslices_ContainsFunc_ssbytesbyte (s : Sl) (f : Nat) (h : Hp) (R : Value → Hp → Prop) : Prop :=
  HCalls Try.prog fn_slices_IndexFunc_ssbytesbyte #[.slice s.base s.len s.cap, .func (.func f) #[] #[]] h fun r vh =>
  ∃ c : Int, r = .int .i64 c ∧
  R (.bool (decide (c ≥ (0 : Int)))) vh
theorem slices_ContainsFunc_ssbytesbyte_vc {s : Sl} {f : Nat} {h : Hp} {R : Value → Hp → Prop} (H : vcslices_ContainsFunc_ssbytesbyte s f h R) : HCalls Try.prog fn_slices_ContainsFunc_ssbytesbyte #[.slice s.base s.len s.cap, .func (.func f) #[] #[]] h R :=
  vc_fn (annOf [] []) Try.func24 [.slice s.base s.len s.cap, .func (.func f) #[] #[]] (by kernel_rfl) (V := vcslices_ContainsFunc_ssbytesbyte s f h R) (by kernel_rfl) H

def vcslot_Open_1 (p : Sl) (h : Hp) (R : Value → Hp → Prop) : Prop :=
  ∃ a : Addr, p.base = some a ∧ 0 ≤ (0 : Int) ∧ (0 : Int) < (p.len : Int) ∧
  ∃ c : Int, hcell h (a.add (((0 : Int)).toNat * 1)) = some (.int .u8 c) ∧
  IfB (decide (c < (1 : Int))) (R (.bool true) h)
  (∃ a1 : Addr, p.base = some a1 ∧ 0 ≤ (0 : Int) ∧ (0 : Int) < (p.len : Int) ∧
    ∃ c1 : Int, hcell h (a1.add (((0 : Int)).toNat * 1)) = some (.int .u8 c1) ∧
    R (.bool (decide (c1 > (3 : Int)))) h)
theorem slot_Open_1_vc {p : Sl} {h : Hp} {R : Value → Hp → Prop} (H : vcslot_Open_1 p h R) : HCalls Try.prog fn_slot_Open_1 #[.slice p.base p.len p.cap] h R :=
  vc_fn (annOf [] []) Try.func25 [.slice p.base p.len p.cap] (by kernel_rfl) (V := vcslot_Open_1 p h R) (by kernel_rfl) H

def vcslot_read (blocks : Sl) (h : Hp) (R : Value → Hp → Prop) : Prop :=
  ∃ (vI : Sl → Int → Int → Nat → Hp → Prop) (n : Nat), vI Sl.nil (0 : Int) (0 : Int) n h ∧
  ∀ _junk : Nat → Value, ∀ text : Sl, ∀ n3 : Int, ∀ t10 : Int, ∀ (n1 : Nat) (vh : Hp), vI text n3 t10 n1 vh →
  IfB (decide (t10 < (blocks.len : Int))) (∃ a : Addr, blocks.base = some a ∧ 0 ≤ t10 ∧ t10 < (blocks.len : Int) ∧
    ∃ c : Sl, hcell vh (a.add ((t10).toNat * 1)) = some (.slice c.base c.len c.cap) ∧
    HCalls Try.prog fn_frame_Decode #[.slice c.base c.len c.cap] vh fun r vh1 =>
    ∃ c1 : Int, ∃ c2 : Int, ∃ c3 : Int, ∃ c4 : Int, ∃ c5 : Sl, ∃ c6 : Int, r = .tuple #[.agg #[.int .i64 c1, .int .i64 c2, .int .i64 c3, .int .i64 c4, .slice c5.base c5.len c5.cap], .int .i64 c6] ∧
    let vh2 := alc vh1 [.int .i64 (0 : Int), .int .i64 (0 : Int), .int .i64 (0 : Int), .int .i64 (0 : Int), .slice Sl.nil.base Sl.nil.len Sl.nil.cap] ty_frame_Block;
    stCells (nw vh1) 0 [.int .i64 c1, .int .i64 c2, .int .i64 c3, .int .i64 c4, .slice c5.base c5.len c5.cap] vh2 fun vh3 =>
    IfB (c6 != (0 : Int)) (R (.tuple #[.slice Sl.nil.base Sl.nil.len Sl.nil.cap, .int .i64 (0 : Int)]) vh3)
    (IfB (t10 == (0 : Int)) (∃ c7 : Int, hcell vh3 (nw vh1) = some (.int .i64 c7) ∧
        IfB (c7 == (3 : Int)) (∃ c8 : Int, hcell vh3 ((nw vh1).add 2) = some (.int .i64 c8) ∧
          ∃ n2, n2 < n1 ∧ vI text c8 (iAdd .i64 t10 (1 : Int)) n2 vh3)
        (IfB (t10 == (0 : Int)) (R (.tuple #[.slice Sl.nil.base Sl.nil.len Sl.nil.cap, .int .i64 (0 : Int)]) vh3)
          (∃ c9 : Int, hcell vh3 ((nw vh1).add 2) = some (.int .i64 c9) ∧
            IfB (c9 != n3) (R (.tuple #[.slice Sl.nil.base Sl.nil.len Sl.nil.cap, .int .i64 (0 : Int)]) vh3)
            (∃ c10 : Int, hcell vh3 (nw vh1) = some (.int .i64 c10) ∧
              IfB (c10 == (1 : Int)) (∃ c11 : Sl, hcell vh3 ((nw vh1).add 4) = some (.slice c11.base c11.len c11.cap) ∧
                AppC ty_uint8 1 1 #[.int .u8 (0 : Int)] text c11 vh3 fun s vh4 =>
                ∃ n2, n2 < n1 ∧ vI s n3 (iAdd .i64 t10 (1 : Int)) n2 vh4)
              (∃ c12 : Int, hcell vh3 (nw vh1) = some (.int .i64 c12) ∧
                IfB (c12 == (2 : Int)) (∃ c13 : Int, hcell vh3 ((nw vh1).add 3) = some (.int .i64 c13) ∧
                  IfB (c13 == (iSub .i64 t10 (1 : Int))) (∃ c14 : Sl, hcell vh3 ((nw vh1).add 4) = some (.slice c14.base c14.len c14.cap) ∧
                    HCalls Try.prog fn_slot_tail #[.slice text.base text.len text.cap] vh3 fun r1 vh5 =>
                    ∃ c15 : Sl, r1 = .slice c15.base c15.len c15.cap ∧
                    Ext vh3 vh5 ∧
                    HCalls Try.prog fn_slices_Equal_sbytebyte #[.slice c14.base c14.len c14.cap, .slice c15.base c15.len c15.cap] vh5 fun r2 vh6 =>
                    ∃ c16 : Bool, r2 = .bool c16 ∧
                    Ext vh3 vh6 ∧
                    IfB c16 (R (.tuple #[.slice text.base text.len text.cap, .int .i64 n3]) vh6)
                    (R (.tuple #[.slice Sl.nil.base Sl.nil.len Sl.nil.cap, .int .i64 (0 : Int)]) vh6))
                  (R (.tuple #[.slice Sl.nil.base Sl.nil.len Sl.nil.cap, .int .i64 (0 : Int)]) vh3))
                (R (.tuple #[.slice Sl.nil.base Sl.nil.len Sl.nil.cap, .int .i64 (0 : Int)]) vh3))))))
      (IfB (t10 == (0 : Int)) (R (.tuple #[.slice Sl.nil.base Sl.nil.len Sl.nil.cap, .int .i64 (0 : Int)]) vh3)
        (∃ c17 : Int, hcell vh3 ((nw vh1).add 2) = some (.int .i64 c17) ∧
          IfB (c17 != n3) (R (.tuple #[.slice Sl.nil.base Sl.nil.len Sl.nil.cap, .int .i64 (0 : Int)]) vh3)
          (∃ c18 : Int, hcell vh3 (nw vh1) = some (.int .i64 c18) ∧
            IfB (c18 == (1 : Int)) (∃ c19 : Sl, hcell vh3 ((nw vh1).add 4) = some (.slice c19.base c19.len c19.cap) ∧
              AppC ty_uint8 1 1 #[.int .u8 (0 : Int)] text c19 vh3 fun s1 vh7 =>
              ∃ n2, n2 < n1 ∧ vI s1 n3 (iAdd .i64 t10 (1 : Int)) n2 vh7)
            (∃ c20 : Int, hcell vh3 (nw vh1) = some (.int .i64 c20) ∧
              IfB (c20 == (2 : Int)) (∃ c21 : Int, hcell vh3 ((nw vh1).add 3) = some (.int .i64 c21) ∧
                IfB (c21 == (iSub .i64 t10 (1 : Int))) (∃ c22 : Sl, hcell vh3 ((nw vh1).add 4) = some (.slice c22.base c22.len c22.cap) ∧
                  HCalls Try.prog fn_slot_tail #[.slice text.base text.len text.cap] vh3 fun r3 vh8 =>
                  ∃ c23 : Sl, r3 = .slice c23.base c23.len c23.cap ∧
                  Ext vh3 vh8 ∧
                  HCalls Try.prog fn_slices_Equal_sbytebyte #[.slice c22.base c22.len c22.cap, .slice c23.base c23.len c23.cap] vh8 fun r4 vh9 =>
                  ∃ c24 : Bool, r4 = .bool c24 ∧
                  Ext vh3 vh9 ∧
                  IfB c24 (R (.tuple #[.slice text.base text.len text.cap, .int .i64 n3]) vh9)
                  (R (.tuple #[.slice Sl.nil.base Sl.nil.len Sl.nil.cap, .int .i64 (0 : Int)]) vh9))
                (R (.tuple #[.slice Sl.nil.base Sl.nil.len Sl.nil.cap, .int .i64 (0 : Int)]) vh3))
              (R (.tuple #[.slice Sl.nil.base Sl.nil.len Sl.nil.cap, .int .i64 (0 : Int)]) vh3)))))))
  (R (.tuple #[.slice Sl.nil.base Sl.nil.len Sl.nil.cap, .int .i64 (0 : Int)]) vh)
theorem slot_read_vc {blocks : Sl} {h : Hp} {R : Value → Hp → Prop} (H : vcslot_read blocks h R) : HCalls Try.prog fn_slot_read #[.slice blocks.base blocks.len blocks.cap] h R :=
  vc_fn (annOf [(0, [(2, .sl), (3, .int .i64), (10, .int .i64)])] []) Try.func26 [.slice blocks.base blocks.len blocks.cap] (by kernel_rfl) (V := vcslot_read blocks h R) (by kernel_rfl) H

def vczdev_Dev_Flush (d : Option Addr) (h : Hp) (R : Value → Hp → Prop) : Prop :=
  HCalls Try.prog fn_zdev_Dev_gone #[.pointer d] h fun r vh =>
  ∃ c : Bool, r = .bool c ∧
  IfB c (R (.int .i64 (1 : Int)) vh)
  (HCalls Try.prog fn_zdev_Dev_begin #[.pointer d] vh fun r1 vh1 =>
    ∃ c1 : Bool, r1 = .bool c1 ∧
    IfB (!c1) (R (.int .i64 (12 : Int)) vh1)
    (∃ a : Addr, d = some a ∧
      ∃ c2 : Sl, hcell vh1 (a.add 2) = some (.slice c2.base c2.len c2.cap) ∧
      ∃ (vI : Int → Nat → Hp → Prop) (n : Nat), vI (0 : Int) n vh1 ∧
      ∀ _junk : Nat → Value, ∀ t17 : Int, ∀ (n1 : Nat) (vh2 : Hp), vI t17 n1 vh2 →
      IfB (decide (t17 < (c2.len : Int))) (∃ a1 : Addr, c2.base = some a1 ∧ 0 ≤ t17 ∧ t17 < (c2.len : Int) ∧
        ∃ c3 : Option Addr, hcell vh2 (a1.add ((t17).toNat * 1)) = some (.pointer c3) ∧
        ∃ a2 : Addr, c3 = some a2 ∧
        ∃ c4 : Sl, hcell vh2 a2 = some (.slice c4.base c4.len c4.cap) ∧
        ∃ a3 : Addr, c3 = some a3 ∧
        StOk vh2 (a3.add 1) ∧
        Lt (hset vh2 (a3.add 1) (.int .i64 (c4.len : Int))) fun vh3 =>
        ∃ n2, n2 < n1 ∧ vI (iAdd .i64 t17 (1 : Int)) n2 vh3)
      (R (.int .i64 (0 : Int)) vh2)))
theorem zdev_Dev_Flush_vc {d : Option Addr} {h : Hp} {R : Value → Hp → Prop} (H : vczdev_Dev_Flush d h R) : HCalls Try.prog fn_zdev_Dev_Flush #[.pointer d] h R :=
  vc_fn (annOf [(0, [(17, .int .i64)])] []) Try.func27 [.pointer d] (by kernel_rfl) (V := vczdev_Dev_Flush d h R) (by kernel_rfl) H

def vcslices_Clone_sbytebyte (s : Sl) (h : Hp) (R : Value → Hp → Prop) : Prop :=
  IfB (isNone? s.base) (R (.slice Sl.nil.base Sl.nil.len Sl.nil.cap) h)
  (let vh := alc h [] ty_uint8;
    AppC ty_uint8 1 1 #[.int .u8 (0 : Int)] (Sl.mk (some (nw h)) 0 0) s vh fun s1 vh1 =>
    R (.slice s1.base s1.len s1.cap) vh1)
theorem slices_Clone_sbytebyte_vc {s : Sl} {h : Hp} {R : Value → Hp → Prop} (H : vcslices_Clone_sbytebyte s h R) : HCalls Try.prog fn_slices_Clone_sbytebyte #[.slice s.base s.len s.cap] h R :=
  vc_fn (annOf [] []) Try.func29 [.slice s.base s.len s.cap] (by kernel_rfl) (V := vcslices_Clone_sbytebyte s h R) (by kernel_rfl) H

def vczdev_Dev_at (d : Option Addr) (i : Int) (h : Hp) (R : Value → Hp → Prop) : Prop :=
  HCalls Try.prog fn_zdev_Dev_gone #[.pointer d] h fun r vh =>
  ∃ c : Bool, r = .bool c ∧
  IfB c (R (.pointer none) vh)
  (IfB (decide (i < (0 : Int))) (R (.pointer none) vh)
    (∃ a : Addr, d = some a ∧
      ∃ c1 : Sl, hcell vh (a.add 2) = some (.slice c1.base c1.len c1.cap) ∧
      IfB (decide (i ≥ (c1.len : Int))) (R (.pointer none) vh)
      (∃ a1 : Addr, d = some a1 ∧
        ∃ c2 : Sl, hcell vh (a1.add 2) = some (.slice c2.base c2.len c2.cap) ∧
        ∃ a2 : Addr, c2.base = some a2 ∧ 0 ≤ i ∧ i < (c2.len : Int) ∧
        ∃ c3 : Option Addr, hcell vh (a2.add ((i).toNat * 1)) = some (.pointer c3) ∧
        R (.pointer c3) vh)))
theorem zdev_Dev_at_vc {d : Option Addr} {i : Int} {h : Hp} {R : Value → Hp → Prop} (H : vczdev_Dev_at d i h R) : HCalls Try.prog fn_zdev_Dev_at #[.pointer d, .int .i64 i] h R :=
  vc_fn (annOf [] []) Try.func30 [.pointer d, .int .i64 i] (by kernel_rfl) (V := vczdev_Dev_at d i h R) (by kernel_rfl) H

def vczdev_Dev_gone (d : Option Addr) (h : Hp) (R : Value → Hp → Prop) : Prop :=
  IfB (isNone? d) (R (.bool true) h)
  (∃ a : Addr, d = some a ∧
    ∃ c : Sl, hcell h (a.add 2) = some (.slice c.base c.len c.cap) ∧
    R (.bool ((c.len : Int) == (0 : Int))) h)
theorem zdev_Dev_gone_vc {d : Option Addr} {h : Hp} {R : Value → Hp → Prop} (H : vczdev_Dev_gone d h R) : HCalls Try.prog fn_zdev_Dev_gone #[.pointer d] h R :=
  vc_fn (annOf [] []) Try.func31 [.pointer d] (by kernel_rfl) (V := vczdev_Dev_gone d h R) (by kernel_rfl) H

def vczdev_pick (l : Sl) (k : Int) (h : Hp) (R : Value → Hp → Prop) : Prop :=
  IfB ((l.len : Int) == (0 : Int)) (R (.tuple #[.int .i64 (0 : Int), .bool false]) h)
  ((l.len : Int) ≠ 0 ∧
    ∃ a : Addr, l.base = some a ∧ 0 ≤ (iRem k (l.len : Int)) ∧ (iRem k (l.len : Int)) < (l.len : Int) ∧
    ∃ c : Int, hcell h (a.add (((iRem k (l.len : Int))).toNat * 1)) = some (.int .i64 c) ∧
    R (.tuple #[.int .i64 c, .bool true]) h)
theorem zdev_pick_vc {l : Sl} {k : Int} {h : Hp} {R : Value → Hp → Prop} (H : vczdev_pick l k h R) : HCalls Try.prog fn_zdev_pick #[.slice l.base l.len l.cap, .int .i64 k] h R :=
  vc_fn (annOf [] []) Try.func32 [.slice l.base l.len l.cap, .int .i64 k] (by kernel_rfl) (V := vczdev_pick l k h R) (by kernel_rfl) H

def vczdev_rest (n : Int) (vby : Int) (h : Hp) (R : Value → Hp → Prop) : Prop :=
  vby ≠ 0 ∧
  IfB (decide ((iRem n vby) < (0 : Int))) (R (.int .i64 (iAdd .i64 (iRem n vby) vby)) h)
  (R (.int .i64 (iRem n vby)) h)
theorem zdev_rest_vc {n : Int} {vby : Int} {h : Hp} {R : Value → Hp → Prop} (H : vczdev_rest n vby h R) : HCalls Try.prog fn_zdev_rest #[.int .i64 n, .int .i64 vby] h R :=
  vc_fn (annOf [] []) Try.func33 [.int .i64 n, .int .i64 vby] (by kernel_rfl) (V := vczdev_rest n vby h R) (by kernel_rfl) H

def vczdev_own (l : Sl) (h : Hp) (R : Value → Hp → Prop) : Prop :=
  ∃ (vI : Sl → Int → Nat → Hp → Prop) (n : Nat), vI Sl.nil (0 : Int) n h ∧
  ∀ _junk : Nat → Value, ∀ out : Sl, ∀ t7 : Int, ∀ (n1 : Nat) (vh : Hp), vI out t7 n1 vh →
  IfB (decide (t7 < (l.len : Int))) (∃ a : Addr, l.base = some a ∧ 0 ≤ t7 ∧ t7 < (l.len : Int) ∧
    ∃ c : Sl, hcell vh (a.add ((t7).toNat * 1)) = some (.slice c.base c.len c.cap) ∧
    HCalls Try.prog fn_slices_Clone_sbytebyte #[.slice c.base c.len c.cap] vh fun r vh1 =>
    ∃ c1 : Sl, r = .slice c1.base c1.len c1.cap ∧
    let vh2 := alc vh1 [.slice c1.base c1.len c1.cap] ty_suint8;
    AppC ty_suint8 1 24 #[.slice Sl.nil.base Sl.nil.len Sl.nil.cap] out (Sl.mk (some (nw vh1)) 1 1) vh2 fun s vh3 =>
    ∃ n2, n2 < n1 ∧ vI s (iAdd .i64 t7 (1 : Int)) n2 vh3)
  (R (.slice out.base out.len out.cap) vh)
theorem zdev_own_vc {l : Sl} {h : Hp} {R : Value → Hp → Prop} (H : vczdev_own l h R) : HCalls Try.prog fn_zdev_own #[.slice l.base l.len l.cap] h R :=
  vc_fn (annOf [(0, [(2, .sl), (7, .int .i64)])] []) Try.func34 [.slice l.base l.len l.cap] (by kernel_rfl) (V := vczdev_own l h R) (by kernel_rfl) H

def vczdev_tear (p : Sl) (h : Hp) (R : Value → Hp → Prop) : Prop :=
  HCalls Try.prog fn_slices_Clone_sbytebyte #[.slice p.base p.len p.cap] h fun r vh =>
  ∃ c : Sl, r = .slice c.base c.len c.cap ∧
  ∃ (vI : Int → Nat → Hp → Prop) (n : Nat), vI (32 : Int) n vh ∧
  ∀ _junk : Nat → Value, ∀ i : Int, ∀ (n1 : Nat) (vh1 : Hp), vI i n1 vh1 →
  IfB (decide (i < (c.len : Int))) (∃ a : Addr, c.base = some a ∧ 0 ≤ i ∧ i < (c.len : Int) ∧
    ∃ c1 : Int, hcell vh1 (a.add ((i).toNat * 1)) = some (.int .u8 c1) ∧
    ∃ a1 : Addr, c.base = some a1 ∧ 0 ≤ i ∧ i < (c.len : Int) ∧
    StOk vh1 (a1.add ((i).toNat * 1)) ∧
    Lt (hset vh1 (a1.add ((i).toNat * 1)) (.int .u8 (iXor .u8 c1 (85 : Int)))) fun vh2 =>
    ∃ n2, n2 < n1 ∧ vI (iAdd .i64 i (1 : Int)) n2 vh2)
  (R (.slice c.base c.len c.cap) vh1)
theorem zdev_tear_vc {p : Sl} {h : Hp} {R : Value → Hp → Prop} (H : vczdev_tear p h R) : HCalls Try.prog fn_zdev_tear #[.slice p.base p.len p.cap] h R :=
  vc_fn (annOf [(0, [(4, .int .i64)])] []) Try.func35 [.slice p.base p.len p.cap] (by kernel_rfl) (V := vczdev_tear p h R) (by kernel_rfl) H

def vczdev_Dev_Read (d : Option Addr) (i : Int) (vat : Int) (h : Hp) (R : Value → Hp → Prop) : Prop :=
  HCalls Try.prog fn_zdev_Dev_at #[.pointer d, .int .i64 i] h fun r vh =>
  ∃ c : Option Addr, r = .pointer c ∧
  IfB (isNone? c) (R (.tuple #[.slice Sl.nil.base Sl.nil.len Sl.nil.cap, .int .i64 (1 : Int)]) vh)
  (IfB (decide (vat < (0 : Int))) (R (.tuple #[.slice Sl.nil.base Sl.nil.len Sl.nil.cap, .int .i64 (14 : Int)]) vh)
    (∃ a : Addr, c = some a ∧
      ∃ c1 : Sl, hcell vh a = some (.slice c1.base c1.len c1.cap) ∧
      IfB (decide (vat ≥ (c1.len : Int))) (R (.tuple #[.slice Sl.nil.base Sl.nil.len Sl.nil.cap, .int .i64 (14 : Int)]) vh)
      (∃ a1 : Addr, d = some a1 ∧
        ∃ c2 : Int, hcell vh (a1.add 4) = some (.int .i64 c2) ∧
        ∃ a2 : Addr, d = some a2 ∧
        StOk vh (a2.add 4) ∧
        Lt (hset vh (a2.add 4) (.int .i64 (iAdd .i64 c2 (1 : Int)))) fun vh1 =>
        ∃ a3 : Addr, c = some a3 ∧
        ∃ c3 : Sl, hcell vh1 a3 = some (.slice c3.base c3.len c3.cap) ∧
        ∃ a4 : Addr, c3.base = some a4 ∧ 0 ≤ vat ∧ vat < (c3.len : Int) ∧
        ∃ c4 : Sl, hcell vh1 (a4.add ((vat).toNat * 1)) = some (.slice c4.base c4.len c4.cap) ∧
        HCalls Try.prog fn_slices_Clone_sbytebyte #[.slice c4.base c4.len c4.cap] vh1 fun r1 vh2 =>
        ∃ c5 : Sl, r1 = .slice c5.base c5.len c5.cap ∧
        R (.tuple #[.slice c5.base c5.len c5.cap, .int .i64 (0 : Int)]) vh2)))
theorem zdev_Dev_Read_vc {d : Option Addr} {i : Int} {vat : Int} {h : Hp} {R : Value → Hp → Prop} (H : vczdev_Dev_Read d i vat h R) : HCalls Try.prog fn_zdev_Dev_Read #[.pointer d, .int .i64 i, .int .i64 vat] h R :=
  vc_fn (annOf [] []) Try.func36 [.pointer d, .int .i64 i, .int .i64 vat] (by kernel_rfl) (V := vczdev_Dev_Read d i vat h R) (by kernel_rfl) H

def vcslices_IndexFunc_ssbytesbyte (s : Sl) (f : Nat) (h : Hp) (R : Value → Hp → Prop) : Prop :=
  ∃ (vI : Int → Nat → Hp → Prop) (n : Nat), vI (0 : Int) n h ∧
  ∀ _junk : Nat → Value, ∀ t8 : Int, ∀ (n1 : Nat) (vh : Hp), vI t8 n1 vh →
  IfB (decide (t8 < (s.len : Int))) (∃ a : Addr, s.base = some a ∧ 0 ≤ t8 ∧ t8 < (s.len : Int) ∧
    ∃ c : Sl, hcell vh (a.add ((t8).toNat * 1)) = some (.slice c.base c.len c.cap) ∧
    HCalls Try.prog f #[.slice c.base c.len c.cap] vh fun r vh1 =>
    ∃ c1 : Bool, r = .bool c1 ∧
    IfB c1 (R (.int .i64 t8) vh1)
    (∃ n2, n2 < n1 ∧ vI (iAdd .i64 t8 (1 : Int)) n2 vh1))
  (R (.int .i64 (-1 : Int)) vh)
theorem slices_IndexFunc_ssbytesbyte_vc {s : Sl} {f : Nat} {h : Hp} {R : Value → Hp → Prop} (H : vcslices_IndexFunc_ssbytesbyte s f h R) : HCalls Try.prog fn_slices_IndexFunc_ssbytesbyte #[.slice s.base s.len s.cap, .func (.func f) #[] #[]] h R :=
  vc_fn (annOf [(0, [(8, .int .i64)])] []) Try.func37 [.slice s.base s.len s.cap, .func (.func f) #[] #[]] (by kernel_rfl) (V := vcslices_IndexFunc_ssbytesbyte s f h R) (by kernel_rfl) H

def vcframe_Decode (p : Sl) (h : Hp) (R : Value → Hp → Prop) : Prop :=
  let vh := alc h [.int .i64 (0 : Int), .int .i64 (0 : Int), .int .i64 (0 : Int), .int .i64 (0 : Int), .slice Sl.nil.base Sl.nil.len Sl.nil.cap] ty_frame_Block;
  IfB ((p.len : Int) != (64 : Int)) (stCells (nw h) 0 [.int .i64 (0 : Int), .int .i64 (0 : Int), .int .i64 (0 : Int), .int .i64 (0 : Int), .slice Sl.nil.base Sl.nil.len Sl.nil.cap] vh fun vh1 =>
    ∃ x : Int, ∃ x1 : Int, ∃ x2 : Int, ∃ x3 : Int, ∃ x4 : Sl, hcell vh1 ((nw h)) = some (.int .i64 x) ∧ hcell vh1 ((nw h).add 1) = some (.int .i64 x1) ∧ hcell vh1 ((nw h).add 2) = some (.int .i64 x2) ∧ hcell vh1 ((nw h).add 3) = some (.int .i64 x3) ∧ hcell vh1 ((nw h).add 4) = some (.slice x4.base x4.len x4.cap) ∧
    R (.tuple #[.agg #[.int .i64 x, .int .i64 x1, .int .i64 x2, .int .i64 x3, .slice x4.base x4.len x4.cap], .int .i64 (3 : Int)]) vh1)
  (let vh2 := alc vh [.int .i64 (0 : Int), .int .i64 (0 : Int), .int .i64 (0 : Int), .int .i64 (0 : Int), .slice Sl.nil.base Sl.nil.len Sl.nil.cap] ty_frame_Block;
    ∃ (vI : Bool → Nat → Hp → Prop) (n : Nat), vI false n vh2 ∧
    ∀ _junk : Nat → Value, ∀ ok : Bool, ∀ (n1 : Nat) (vh3 : Hp), vI ok n1 vh3 →
    ∃ a : Addr, p.base = some a ∧ 0 ≤ (1 : Int) ∧ (1 : Int) < (p.len : Int) ∧
    ∃ c : Int, hcell vh3 (a.add (((1 : Int)).toNat * 1)) = some (.int .u8 c) ∧
    0 ≤ (6 : Int) ∧ (6 : Int) ≤ (p.len : Int) ∧ (p.len : Int) ≤ (p.cap : Int) ∧ (p.cap : Int) ≤ (p.cap : Int) ∧
    HCalls Try.prog fn_bits_Get64 #[.slice (cutSl p (6 : Int) (p.len : Int) (p.cap : Int) 1).base (cutSl p (6 : Int) (p.len : Int) (p.cap : Int) 1).len (cutSl p (6 : Int) (p.len : Int) (p.cap : Int) 1).cap] vh3 fun r vh4 =>
    ∃ c1 : Int, ∃ c2 : Bool, r = .tuple #[.int .u64 c1, .bool c2] ∧
    IfB (decide ((iConv .i64 c) > (40 : Int))) (IfB (!ok) (stCells (nw h) 0 [.int .i64 (0 : Int), .int .i64 (0 : Int), .int .i64 (0 : Int), .int .i64 (0 : Int), .slice Sl.nil.base Sl.nil.len Sl.nil.cap] vh4 fun vh5 =>
        ∃ x5 : Int, ∃ x6 : Int, ∃ x7 : Int, ∃ x8 : Int, ∃ x9 : Sl, hcell vh5 ((nw h)) = some (.int .i64 x5) ∧ hcell vh5 ((nw h).add 1) = some (.int .i64 x6) ∧ hcell vh5 ((nw h).add 2) = some (.int .i64 x7) ∧ hcell vh5 ((nw h).add 3) = some (.int .i64 x8) ∧ hcell vh5 ((nw h).add 4) = some (.slice x9.base x9.len x9.cap) ∧
        R (.tuple #[.agg #[.int .i64 x5, .int .i64 x6, .int .i64 x7, .int .i64 x8, .slice x9.base x9.len x9.cap], .int .i64 (13 : Int)]) vh5)
      (∃ c3 : Int, ∃ c4 : Int, ∃ c5 : Int, ∃ c6 : Int, ∃ c7 : Sl, hcell vh4 ((nw vh)) = some (.int .i64 c3) ∧ hcell vh4 ((nw vh).add 1) = some (.int .i64 c4) ∧ hcell vh4 ((nw vh).add 2) = some (.int .i64 c5) ∧ hcell vh4 ((nw vh).add 3) = some (.int .i64 c6) ∧ hcell vh4 ((nw vh).add 4) = some (.slice c7.base c7.len c7.cap) ∧
        stCells (nw h) 0 [.int .i64 c3, .int .i64 c4, .int .i64 c5, .int .i64 c6, .slice c7.base c7.len c7.cap] vh4 fun vh6 =>
        ∃ x10 : Int, ∃ x11 : Int, ∃ x12 : Int, ∃ x13 : Int, ∃ x14 : Sl, hcell vh6 ((nw h)) = some (.int .i64 x10) ∧ hcell vh6 ((nw h).add 1) = some (.int .i64 x11) ∧ hcell vh6 ((nw h).add 2) = some (.int .i64 x12) ∧ hcell vh6 ((nw h).add 3) = some (.int .i64 x13) ∧ hcell vh6 ((nw h).add 4) = some (.slice x14.base x14.len x14.cap) ∧
        R (.tuple #[.agg #[.int .i64 x10, .int .i64 x11, .int .i64 x12, .int .i64 x13, .slice x14.base x14.len x14.cap], .int .i64 (0 : Int)]) vh6))
    (IfB (decide (c1 > (1099511627776 : Int))) (IfB (!ok) (stCells (nw h) 0 [.int .i64 (0 : Int), .int .i64 (0 : Int), .int .i64 (0 : Int), .int .i64 (0 : Int), .slice Sl.nil.base Sl.nil.len Sl.nil.cap] vh4 fun vh7 =>
          ∃ x15 : Int, ∃ x16 : Int, ∃ x17 : Int, ∃ x18 : Int, ∃ x19 : Sl, hcell vh7 ((nw h)) = some (.int .i64 x15) ∧ hcell vh7 ((nw h).add 1) = some (.int .i64 x16) ∧ hcell vh7 ((nw h).add 2) = some (.int .i64 x17) ∧ hcell vh7 ((nw h).add 3) = some (.int .i64 x18) ∧ hcell vh7 ((nw h).add 4) = some (.slice x19.base x19.len x19.cap) ∧
          R (.tuple #[.agg #[.int .i64 x15, .int .i64 x16, .int .i64 x17, .int .i64 x18, .slice x19.base x19.len x19.cap], .int .i64 (13 : Int)]) vh7)
        (∃ c8 : Int, ∃ c9 : Int, ∃ c10 : Int, ∃ c11 : Int, ∃ c12 : Sl, hcell vh4 ((nw vh)) = some (.int .i64 c8) ∧ hcell vh4 ((nw vh).add 1) = some (.int .i64 c9) ∧ hcell vh4 ((nw vh).add 2) = some (.int .i64 c10) ∧ hcell vh4 ((nw vh).add 3) = some (.int .i64 c11) ∧ hcell vh4 ((nw vh).add 4) = some (.slice c12.base c12.len c12.cap) ∧
          stCells (nw h) 0 [.int .i64 c8, .int .i64 c9, .int .i64 c10, .int .i64 c11, .slice c12.base c12.len c12.cap] vh4 fun vh8 =>
          ∃ x20 : Int, ∃ x21 : Int, ∃ x22 : Int, ∃ x23 : Int, ∃ x24 : Sl, hcell vh8 ((nw h)) = some (.int .i64 x20) ∧ hcell vh8 ((nw h).add 1) = some (.int .i64 x21) ∧ hcell vh8 ((nw h).add 2) = some (.int .i64 x22) ∧ hcell vh8 ((nw h).add 3) = some (.int .i64 x23) ∧ hcell vh8 ((nw h).add 4) = some (.slice x24.base x24.len x24.cap) ∧
          R (.tuple #[.agg #[.int .i64 x20, .int .i64 x21, .int .i64 x22, .int .i64 x23, .slice x24.base x24.len x24.cap], .int .i64 (0 : Int)]) vh8))
      (0 ≤ (2 : Int) ∧ (2 : Int) ≤ (p.len : Int) ∧ (p.len : Int) ≤ (p.cap : Int) ∧ (p.cap : Int) ≤ (p.cap : Int) ∧
        HCalls Try.prog fn_bits_Get32 #[.slice (cutSl p (2 : Int) (p.len : Int) (p.cap : Int) 1).base (cutSl p (2 : Int) (p.len : Int) (p.cap : Int) 1).len (cutSl p (2 : Int) (p.len : Int) (p.cap : Int) 1).cap] vh4 fun r1 vh9 =>
        ∃ c13 : Int, ∃ c14 : Bool, r1 = .tuple #[.int .u32 c13, .bool c14] ∧
        0 ≤ (14 : Int) ∧ (14 : Int) ≤ (p.len : Int) ∧ (p.len : Int) ≤ (p.cap : Int) ∧ (p.cap : Int) ≤ (p.cap : Int) ∧
        HCalls Try.prog fn_bits_Get32 #[.slice (cutSl p (14 : Int) (p.len : Int) (p.cap : Int) 1).base (cutSl p (14 : Int) (p.len : Int) (p.cap : Int) 1).len (cutSl p (14 : Int) (p.len : Int) (p.cap : Int) 1).cap] vh9 fun r2 vh10 =>
        ∃ c15 : Int, ∃ c16 : Bool, r2 = .tuple #[.int .u32 c15, .bool c16] ∧
        ∃ a1 : Addr, p.base = some a1 ∧ 0 ≤ (0 : Int) ∧ (0 : Int) < (p.len : Int) ∧
        ∃ c17 : Int, hcell vh10 (a1.add (((0 : Int)).toNat * 1)) = some (.int .u8 c17) ∧
        0 ≤ (18 : Int) ∧ (18 : Int) ≤ (iAdd .i64 (18 : Int) (iConv .i64 c)) ∧ (iAdd .i64 (18 : Int) (iConv .i64 c)) ≤ (p.cap : Int) ∧ (p.cap : Int) ≤ (p.cap : Int) ∧
        HCalls Try.prog fn_slices_Clone_sbytebyte #[.slice (cutSl p (18 : Int) (iAdd .i64 (18 : Int) (iConv .i64 c)) (p.cap : Int) 1).base (cutSl p (18 : Int) (iAdd .i64 (18 : Int) (iConv .i64 c)) (p.cap : Int) 1).len (cutSl p (18 : Int) (iAdd .i64 (18 : Int) (iConv .i64 c)) (p.cap : Int) 1).cap] vh10 fun r3 vh11 =>
        ∃ c18 : Sl, r3 = .slice c18.base c18.len c18.cap ∧
        Ext vh10 vh11 ∧
        stCells (nw vh) 0 [.int .i64 (iConv .i64 c17), .int .i64 (iConv .i64 c13), .int .i64 (iConv .i64 c1), .int .i64 (iConv .i64 c15), .slice c18.base c18.len c18.cap] vh11 fun vh12 =>
        ∃ c19 : Int, ∃ c20 : Int, ∃ c21 : Int, ∃ c22 : Int, ∃ c23 : Sl, hcell vh12 ((nw vh)) = some (.int .i64 c19) ∧ hcell vh12 ((nw vh).add 1) = some (.int .i64 c20) ∧ hcell vh12 ((nw vh).add 2) = some (.int .i64 c21) ∧ hcell vh12 ((nw vh).add 3) = some (.int .i64 c22) ∧ hcell vh12 ((nw vh).add 4) = some (.slice c23.base c23.len c23.cap) ∧
        HCalls Try.prog fn_frame_Encode #[.agg #[.int .i64 c19, .int .i64 c20, .int .i64 c21, .int .i64 c22, .slice c23.base c23.len c23.cap]] vh12 fun r4 vh13 =>
        ∃ c24 : Sl, ∃ c25 : Int, r4 = .tuple #[.slice c24.base c24.len c24.cap, .int .i64 c25] ∧
        IfB (c25 == (0 : Int)) (HCalls Try.prog fn_slices_Equal_sbytebyte #[.slice p.base p.len p.cap, .slice c24.base c24.len c24.cap] vh13 fun r5 vh14 =>
          ∃ c26 : Bool, r5 = .bool c26 ∧
          IfB (!c26) (stCells (nw h) 0 [.int .i64 (0 : Int), .int .i64 (0 : Int), .int .i64 (0 : Int), .int .i64 (0 : Int), .slice Sl.nil.base Sl.nil.len Sl.nil.cap] vh14 fun vh15 =>
            ∃ x25 : Int, ∃ x26 : Int, ∃ x27 : Int, ∃ x28 : Int, ∃ x29 : Sl, hcell vh15 ((nw h)) = some (.int .i64 x25) ∧ hcell vh15 ((nw h).add 1) = some (.int .i64 x26) ∧ hcell vh15 ((nw h).add 2) = some (.int .i64 x27) ∧ hcell vh15 ((nw h).add 3) = some (.int .i64 x28) ∧ hcell vh15 ((nw h).add 4) = some (.slice x29.base x29.len x29.cap) ∧
            R (.tuple #[.agg #[.int .i64 x25, .int .i64 x26, .int .i64 x27, .int .i64 x28, .slice x29.base x29.len x29.cap], .int .i64 (13 : Int)]) vh15)
          (∃ c27 : Int, ∃ c28 : Int, ∃ c29 : Int, ∃ c30 : Int, ∃ c31 : Sl, hcell vh14 ((nw vh)) = some (.int .i64 c27) ∧ hcell vh14 ((nw vh).add 1) = some (.int .i64 c28) ∧ hcell vh14 ((nw vh).add 2) = some (.int .i64 c29) ∧ hcell vh14 ((nw vh).add 3) = some (.int .i64 c30) ∧ hcell vh14 ((nw vh).add 4) = some (.slice c31.base c31.len c31.cap) ∧
            stCells (nw h) 0 [.int .i64 c27, .int .i64 c28, .int .i64 c29, .int .i64 c30, .slice c31.base c31.len c31.cap] vh14 fun vh16 =>
            ∃ x30 : Int, ∃ x31 : Int, ∃ x32 : Int, ∃ x33 : Int, ∃ x34 : Sl, hcell vh16 ((nw h)) = some (.int .i64 x30) ∧ hcell vh16 ((nw h).add 1) = some (.int .i64 x31) ∧ hcell vh16 ((nw h).add 2) = some (.int .i64 x32) ∧ hcell vh16 ((nw h).add 3) = some (.int .i64 x33) ∧ hcell vh16 ((nw h).add 4) = some (.slice x34.base x34.len x34.cap) ∧
            R (.tuple #[.agg #[.int .i64 x30, .int .i64 x31, .int .i64 x32, .int .i64 x33, .slice x34.base x34.len x34.cap], .int .i64 (0 : Int)]) vh16))
        (IfB (!false) (stCells (nw h) 0 [.int .i64 (0 : Int), .int .i64 (0 : Int), .int .i64 (0 : Int), .int .i64 (0 : Int), .slice Sl.nil.base Sl.nil.len Sl.nil.cap] vh13 fun vh17 =>
            ∃ x35 : Int, ∃ x36 : Int, ∃ x37 : Int, ∃ x38 : Int, ∃ x39 : Sl, hcell vh17 ((nw h)) = some (.int .i64 x35) ∧ hcell vh17 ((nw h).add 1) = some (.int .i64 x36) ∧ hcell vh17 ((nw h).add 2) = some (.int .i64 x37) ∧ hcell vh17 ((nw h).add 3) = some (.int .i64 x38) ∧ hcell vh17 ((nw h).add 4) = some (.slice x39.base x39.len x39.cap) ∧
            R (.tuple #[.agg #[.int .i64 x35, .int .i64 x36, .int .i64 x37, .int .i64 x38, .slice x39.base x39.len x39.cap], .int .i64 (13 : Int)]) vh17)
          (∃ c32 : Int, ∃ c33 : Int, ∃ c34 : Int, ∃ c35 : Int, ∃ c36 : Sl, hcell vh13 ((nw vh)) = some (.int .i64 c32) ∧ hcell vh13 ((nw vh).add 1) = some (.int .i64 c33) ∧ hcell vh13 ((nw vh).add 2) = some (.int .i64 c34) ∧ hcell vh13 ((nw vh).add 3) = some (.int .i64 c35) ∧ hcell vh13 ((nw vh).add 4) = some (.slice c36.base c36.len c36.cap) ∧
            stCells (nw h) 0 [.int .i64 c32, .int .i64 c33, .int .i64 c34, .int .i64 c35, .slice c36.base c36.len c36.cap] vh13 fun vh18 =>
            ∃ x40 : Int, ∃ x41 : Int, ∃ x42 : Int, ∃ x43 : Int, ∃ x44 : Sl, hcell vh18 ((nw h)) = some (.int .i64 x40) ∧ hcell vh18 ((nw h).add 1) = some (.int .i64 x41) ∧ hcell vh18 ((nw h).add 2) = some (.int .i64 x42) ∧ hcell vh18 ((nw h).add 3) = some (.int .i64 x43) ∧ hcell vh18 ((nw h).add 4) = some (.slice x44.base x44.len x44.cap) ∧
            R (.tuple #[.agg #[.int .i64 x40, .int .i64 x41, .int .i64 x42, .int .i64 x43, .slice x44.base x44.len x44.cap], .int .i64 (0 : Int)]) vh18)))))
theorem frame_Decode_vc {p : Sl} {h : Hp} {R : Value → Hp → Prop} (H : vcframe_Decode p h R) : HCalls Try.prog fn_frame_Decode #[.slice p.base p.len p.cap] h R :=
  vc_fn (annOf [(0, [(5, .bool)])] []) Try.func38 [.slice p.base p.len p.cap] (by kernel_rfl) (V := vcframe_Decode p h R) (by kernel_rfl) H

def vcslices_Equal_sbytebyte (s1 : Sl) (s2 : Sl) (h : Hp) (R : Value → Hp → Prop) : Prop :=
  IfB ((s1.len : Int) != (s2.len : Int)) (R (.bool false) h)
  (∃ (vI : Int → Nat → Hp → Prop) (n : Nat), vI (0 : Int) n h ∧
    ∀ _junk : Nat → Value, ∀ t13 : Int, ∀ (n1 : Nat) (vh : Hp), vI t13 n1 vh →
    IfB (decide (t13 < (s1.len : Int))) (∃ a : Addr, s1.base = some a ∧ 0 ≤ t13 ∧ t13 < (s1.len : Int) ∧
      ∃ c : Int, hcell vh (a.add ((t13).toNat * 1)) = some (.int .u8 c) ∧
      ∃ a1 : Addr, s2.base = some a1 ∧ 0 ≤ t13 ∧ t13 < (s2.len : Int) ∧
      ∃ c1 : Int, hcell vh (a1.add ((t13).toNat * 1)) = some (.int .u8 c1) ∧
      IfB (c != c1) (R (.bool false) vh)
      (∃ n2, n2 < n1 ∧ vI (iAdd .i64 t13 (1 : Int)) n2 vh))
    (R (.bool true) vh))
theorem slices_Equal_sbytebyte_vc {s1 : Sl} {s2 : Sl} {h : Hp} {R : Value → Hp → Prop} (H : vcslices_Equal_sbytebyte s1 s2 h R) : HCalls Try.prog fn_slices_Equal_sbytebyte #[.slice s1.base s1.len s1.cap, .slice s2.base s2.len s2.cap] h R :=
  vc_fn (annOf [(0, [(13, .int .i64)])] []) Try.func39 [.slice s1.base s1.len s1.cap, .slice s2.base s2.len s2.cap] (by kernel_rfl) (V := vcslices_Equal_sbytebyte s1 s2 h R) (by kernel_rfl) H

def vcslot_tail (text : Sl) (h : Hp) (R : Value → Hp → Prop) : Prop :=
  HCalls Try.prog fn_bits_Put32 #[.int .u32 (iConv .u32 (text.len : Int))] h fun r vh =>
  ∃ c : Sl, r = .slice c.base c.len c.cap ∧
  HCalls Try.prog fn_crc_Of #[.slice text.base text.len text.cap] vh fun r1 vh1 =>
  ∃ c1 : Int, r1 = .int .u32 c1 ∧
  HCalls Try.prog fn_bits_Put32 #[.int .u32 c1] vh1 fun r2 vh2 =>
  ∃ c2 : Sl, r2 = .slice c2.base c2.len c2.cap ∧
  let vh3 := alc vh2 [.slice c.base c.len c.cap, .slice c2.base c2.len c2.cap] ty_suint8;
  HCalls Try.prog fn_slices_Concat_sbytebyte #[.slice (Sl.mk (some (nw vh2)) 2 2).base (Sl.mk (some (nw vh2)) 2 2).len (Sl.mk (some (nw vh2)) 2 2).cap] vh3 fun r3 vh4 =>
  ∃ c3 : Sl, r3 = .slice c3.base c3.len c3.cap ∧
  R (.slice c3.base c3.len c3.cap) vh4
theorem slot_tail_vc {text : Sl} {h : Hp} {R : Value → Hp → Prop} (H : vcslot_tail text h R) : HCalls Try.prog fn_slot_tail #[.slice text.base text.len text.cap] h R :=
  vc_fn (annOf [] []) Try.func40 [.slice text.base text.len text.cap] (by kernel_rfl) (V := vcslot_tail text h R) (by kernel_rfl) H

def vczdev_Dev_Reset (d : Option Addr) (i : Int) (h : Hp) (R : Value → Hp → Prop) : Prop :=
  HCalls Try.prog fn_zdev_Dev_at #[.pointer d, .int .i64 i] h fun r vh =>
  ∃ c : Option Addr, r = .pointer c ∧
  IfB (isNone? c) (R (.int .i64 (1 : Int)) vh)
  (HCalls Try.prog fn_zdev_Dev_begin #[.pointer d] vh fun r1 vh1 =>
    ∃ c1 : Bool, r1 = .bool c1 ∧
    IfB (!c1) (R (.int .i64 (12 : Int)) vh1)
    (∃ a : Addr, c = some a ∧
      stCells a 0 [.slice Sl.nil.base Sl.nil.len Sl.nil.cap, .int .i64 (0 : Int)] vh1 fun vh2 =>
      R (.int .i64 (0 : Int)) vh2))
theorem zdev_Dev_Reset_vc {d : Option Addr} {i : Int} {h : Hp} {R : Value → Hp → Prop} (H : vczdev_Dev_Reset d i h R) : HCalls Try.prog fn_zdev_Dev_Reset #[.pointer d, .int .i64 i] h R :=
  vc_fn (annOf [] []) Try.func42 [.pointer d, .int .i64 i] (by kernel_rfl) (V := vczdev_Dev_Reset d i h R) (by kernel_rfl) H

def vcframe_Encode (b : Int) (b1 : Int) (b2 : Int) (b3 : Int) (b4 : Sl) (h : Hp) (R : Value → Hp → Prop) : Prop :=
  let vh := alc h [.int .i64 b, .int .i64 b1, .int .i64 b2, .int .i64 b3, .slice b4.base b4.len b4.cap] ty_frame_Block;
  ∃ c : Int, hcell vh (nw h) = some (.int .i64 c) ∧
  HCalls Try.prog fn_frame_within #[.int .i64 c, .int .i64 (1 : Int), .int .i64 (4 : Int)] vh fun r vh1 =>
  ∃ c1 : Bool, r = .bool c1 ∧
  IfB (!c1) (R (.tuple #[.slice Sl.nil.base Sl.nil.len Sl.nil.cap, .int .i64 (1 : Int)]) vh1)
  (∃ c2 : Int, hcell vh1 ((nw h).add 1) = some (.int .i64 c2) ∧
    HCalls Try.prog fn_frame_within #[.int .i64 c2, .int .i64 (0 : Int), .int .i64 (4294967295 : Int)] vh1 fun r1 vh2 =>
    ∃ c3 : Bool, r1 = .bool c3 ∧
    IfB (!c3) (R (.tuple #[.slice Sl.nil.base Sl.nil.len Sl.nil.cap, .int .i64 (1 : Int)]) vh2)
    (∃ c4 : Int, hcell vh2 ((nw h).add 2) = some (.int .i64 c4) ∧
      HCalls Try.prog fn_frame_within #[.int .i64 c4, .int .i64 (0 : Int), .int .i64 (1099511627776 : Int)] vh2 fun r2 vh3 =>
      ∃ c5 : Bool, r2 = .bool c5 ∧
      IfB (!c5) (R (.tuple #[.slice Sl.nil.base Sl.nil.len Sl.nil.cap, .int .i64 (1 : Int)]) vh3)
      (∃ c6 : Int, hcell vh3 ((nw h).add 3) = some (.int .i64 c6) ∧
        HCalls Try.prog fn_frame_within #[.int .i64 c6, .int .i64 (0 : Int), .int .i64 (1048576 : Int)] vh3 fun r3 vh4 =>
        ∃ c7 : Bool, r3 = .bool c7 ∧
        IfB (!c7) (R (.tuple #[.slice Sl.nil.base Sl.nil.len Sl.nil.cap, .int .i64 (1 : Int)]) vh4)
        (∃ c8 : Sl, hcell vh4 ((nw h).add 4) = some (.slice c8.base c8.len c8.cap) ∧
          IfB (decide ((c8.len : Int) > (40 : Int))) (R (.tuple #[.slice Sl.nil.base Sl.nil.len Sl.nil.cap, .int .i64 (3 : Int)]) vh4)
          (∃ c9 : Int, hcell vh4 (nw h) = some (.int .i64 c9) ∧
            ∃ c10 : Sl, hcell vh4 ((nw h).add 4) = some (.slice c10.base c10.len c10.cap) ∧
            ∃ c11 : Int, hcell vh4 ((nw h).add 1) = some (.int .i64 c11) ∧
            ∃ c12 : Int, hcell vh4 ((nw h).add 2) = some (.int .i64 c12) ∧
            ∃ c13 : Int, hcell vh4 ((nw h).add 3) = some (.int .i64 c13) ∧
            ∃ c14 : Sl, hcell vh4 ((nw h).add 4) = some (.slice c14.base c14.len c14.cap) ∧
            (let vh5 := alc vh4 [.int .u8 (iConv .u8 c9), .int .u8 (iConv .u8 (c10.len : Int))] ty_uint8;
              Ext vh4 vh5 ∧
              HCalls Try.prog fn_bits_Put32 #[.int .u32 (iConv .u32 c11)] vh5 fun r4 vh6 =>
              ∃ c15 : Sl, r4 = .slice c15.base c15.len c15.cap ∧
              Ext vh4 vh6 ∧
              HCalls Try.prog fn_bits_Put64 #[.int .u64 (iConv .u64 c12)] vh6 fun r5 vh7 =>
              ∃ c16 : Sl, r5 = .slice c16.base c16.len c16.cap ∧
              Ext vh4 vh7 ∧
              HCalls Try.prog fn_bits_Put32 #[.int .u32 (iConv .u32 c13)] vh7 fun r6 vh8 =>
              ∃ c17 : Sl, r6 = .slice c17.base c17.len c17.cap ∧
              Ext vh4 vh8 ∧
              let vh9 := alc vh8 [.slice (Sl.mk (some (nw vh4)) 2 2).base (Sl.mk (some (nw vh4)) 2 2).len (Sl.mk (some (nw vh4)) 2 2).cap, .slice c15.base c15.len c15.cap, .slice c16.base c16.len c16.cap, .slice c17.base c17.len c17.cap, .slice c14.base c14.len c14.cap] ty_suint8;
              Ext vh4 vh9 ∧
              HCalls Try.prog fn_slices_Concat_sbytebyte #[.slice (Sl.mk (some (nw vh8)) 5 5).base (Sl.mk (some (nw vh8)) 5 5).len (Sl.mk (some (nw vh8)) 5 5).cap] vh9 fun r7 vh10 =>
              ∃ c18 : Sl, r7 = .slice c18.base c18.len c18.cap ∧
              Ext vh4 vh10 ∧
              AppZ ty_uint8 1 1 #[.int .u8 (0 : Int)] c18 (iSub .i64 (60 : Int) (c18.len : Int)) vh10 fun s vh11 =>
              HCalls Try.prog fn_crc_Of #[.slice s.base s.len s.cap] vh11 fun r8 vh12 =>
              ∃ c19 : Int, r8 = .int .u32 c19 ∧
              HCalls Try.prog fn_bits_Put32 #[.int .u32 c19] vh12 fun r9 vh13 =>
              ∃ c20 : Sl, r9 = .slice c20.base c20.len c20.cap ∧
              AppC ty_uint8 1 1 #[.int .u8 (0 : Int)] s c20 vh13 fun s1 vh14 =>
              R (.tuple #[.slice s1.base s1.len s1.cap, .int .i64 (0 : Int)]) vh14) ∧
            (HCalls Try.prog fn_bits_Put32 #[.int .u32 (iConv .u32 c11)] vh4 fun r10 vh15 =>
              ∃ c21 : Sl, r10 = .slice c21.base c21.len c21.cap ∧
              Ext vh4 vh15 ∧
              (let vh16 := alc vh15 [.int .u8 (iConv .u8 c9), .int .u8 (iConv .u8 (c10.len : Int))] ty_uint8;
                Ext vh4 vh16 ∧
                HCalls Try.prog fn_bits_Put64 #[.int .u64 (iConv .u64 c12)] vh16 fun r11 vh17 =>
                ∃ c22 : Sl, r11 = .slice c22.base c22.len c22.cap ∧
                Ext vh4 vh17 ∧
                HCalls Try.prog fn_bits_Put32 #[.int .u32 (iConv .u32 c13)] vh17 fun r12 vh18 =>
                ∃ c23 : Sl, r12 = .slice c23.base c23.len c23.cap ∧
                Ext vh4 vh18 ∧
                let vh19 := alc vh18 [.slice (Sl.mk (some (nw vh15)) 2 2).base (Sl.mk (some (nw vh15)) 2 2).len (Sl.mk (some (nw vh15)) 2 2).cap, .slice c21.base c21.len c21.cap, .slice c22.base c22.len c22.cap, .slice c23.base c23.len c23.cap, .slice c14.base c14.len c14.cap] ty_suint8;
                Ext vh4 vh19 ∧
                HCalls Try.prog fn_slices_Concat_sbytebyte #[.slice (Sl.mk (some (nw vh18)) 5 5).base (Sl.mk (some (nw vh18)) 5 5).len (Sl.mk (some (nw vh18)) 5 5).cap] vh19 fun r13 vh20 =>
                ∃ c24 : Sl, r13 = .slice c24.base c24.len c24.cap ∧
                Ext vh4 vh20 ∧
                AppZ ty_uint8 1 1 #[.int .u8 (0 : Int)] c24 (iSub .i64 (60 : Int) (c24.len : Int)) vh20 fun s2 vh21 =>
                HCalls Try.prog fn_crc_Of #[.slice s2.base s2.len s2.cap] vh21 fun r14 vh22 =>
                ∃ c25 : Int, r14 = .int .u32 c25 ∧
                HCalls Try.prog fn_bits_Put32 #[.int .u32 c25] vh22 fun r15 vh23 =>
                ∃ c26 : Sl, r15 = .slice c26.base c26.len c26.cap ∧
                AppC ty_uint8 1 1 #[.int .u8 (0 : Int)] s2 c26 vh23 fun s3 vh24 =>
                R (.tuple #[.slice s3.base s3.len s3.cap, .int .i64 (0 : Int)]) vh24) ∧
              (HCalls Try.prog fn_bits_Put64 #[.int .u64 (iConv .u64 c12)] vh15 fun r16 vh25 =>
                ∃ c27 : Sl, r16 = .slice c27.base c27.len c27.cap ∧
                Ext vh4 vh25 ∧
                (let vh26 := alc vh25 [.int .u8 (iConv .u8 c9), .int .u8 (iConv .u8 (c10.len : Int))] ty_uint8;
                  Ext vh4 vh26 ∧
                  HCalls Try.prog fn_bits_Put32 #[.int .u32 (iConv .u32 c13)] vh26 fun r17 vh27 =>
                  ∃ c28 : Sl, r17 = .slice c28.base c28.len c28.cap ∧
                  Ext vh4 vh27 ∧
                  let vh28 := alc vh27 [.slice (Sl.mk (some (nw vh25)) 2 2).base (Sl.mk (some (nw vh25)) 2 2).len (Sl.mk (some (nw vh25)) 2 2).cap, .slice c21.base c21.len c21.cap, .slice c27.base c27.len c27.cap, .slice c28.base c28.len c28.cap, .slice c14.base c14.len c14.cap] ty_suint8;
                  Ext vh4 vh28 ∧
                  HCalls Try.prog fn_slices_Concat_sbytebyte #[.slice (Sl.mk (some (nw vh27)) 5 5).base (Sl.mk (some (nw vh27)) 5 5).len (Sl.mk (some (nw vh27)) 5 5).cap] vh28 fun r18 vh29 =>
                  ∃ c29 : Sl, r18 = .slice c29.base c29.len c29.cap ∧
                  Ext vh4 vh29 ∧
                  AppZ ty_uint8 1 1 #[.int .u8 (0 : Int)] c29 (iSub .i64 (60 : Int) (c29.len : Int)) vh29 fun s4 vh30 =>
                  HCalls Try.prog fn_crc_Of #[.slice s4.base s4.len s4.cap] vh30 fun r19 vh31 =>
                  ∃ c30 : Int, r19 = .int .u32 c30 ∧
                  HCalls Try.prog fn_bits_Put32 #[.int .u32 c30] vh31 fun r20 vh32 =>
                  ∃ c31 : Sl, r20 = .slice c31.base c31.len c31.cap ∧
                  AppC ty_uint8 1 1 #[.int .u8 (0 : Int)] s4 c31 vh32 fun s5 vh33 =>
                  R (.tuple #[.slice s5.base s5.len s5.cap, .int .i64 (0 : Int)]) vh33) ∧
                (HCalls Try.prog fn_bits_Put32 #[.int .u32 (iConv .u32 c13)] vh25 fun r21 vh34 =>
                  ∃ c32 : Sl, r21 = .slice c32.base c32.len c32.cap ∧
                  Ext vh4 vh34 ∧
                  let vh35 := alc vh34 [.int .u8 (iConv .u8 c9), .int .u8 (iConv .u8 (c10.len : Int))] ty_uint8;
                  Ext vh4 vh35 ∧
                  let vh36 := alc vh35 [.slice (Sl.mk (some (nw vh34)) 2 2).base (Sl.mk (some (nw vh34)) 2 2).len (Sl.mk (some (nw vh34)) 2 2).cap, .slice c21.base c21.len c21.cap, .slice c27.base c27.len c27.cap, .slice c32.base c32.len c32.cap, .slice c14.base c14.len c14.cap] ty_suint8;
                  Ext vh4 vh36 ∧
                  HCalls Try.prog fn_slices_Concat_sbytebyte #[.slice (Sl.mk (some (nw vh35)) 5 5).base (Sl.mk (some (nw vh35)) 5 5).len (Sl.mk (some (nw vh35)) 5 5).cap] vh36 fun r22 vh37 =>
                  ∃ c33 : Sl, r22 = .slice c33.base c33.len c33.cap ∧
                  Ext vh4 vh37 ∧
                  AppZ ty_uint8 1 1 #[.int .u8 (0 : Int)] c33 (iSub .i64 (60 : Int) (c33.len : Int)) vh37 fun s6 vh38 =>
                  HCalls Try.prog fn_crc_Of #[.slice s6.base s6.len s6.cap] vh38 fun r23 vh39 =>
                  ∃ c34 : Int, r23 = .int .u32 c34 ∧
                  HCalls Try.prog fn_bits_Put32 #[.int .u32 c34] vh39 fun r24 vh40 =>
                  ∃ c35 : Sl, r24 = .slice c35.base c35.len c35.cap ∧
                  AppC ty_uint8 1 1 #[.int .u8 (0 : Int)] s6 c35 vh40 fun s7 vh41 =>
                  R (.tuple #[.slice s7.base s7.len s7.cap, .int .i64 (0 : Int)]) vh41))))))))
theorem frame_Encode_vc {b : Int} {b1 : Int} {b2 : Int} {b3 : Int} {b4 : Sl} {h : Hp} {R : Value → Hp → Prop} (H : vcframe_Encode b b1 b2 b3 b4 h R) : HCalls Try.prog fn_frame_Encode #[.agg #[.int .i64 b, .int .i64 b1, .int .i64 b2, .int .i64 b3, .slice b4.base b4.len b4.cap]] h R :=
  vc_fn (annOf [] []) Try.func43 [.agg #[.int .i64 b, .int .i64 b1, .int .i64 b2, .int .i64 b3, .slice b4.base b4.len b4.cap]] (by kernel_rfl) (V := vcframe_Encode b b1 b2 b3 b4 h R) (by kernel_rfl) H

def vcbits_Get64 (b : Sl) (h : Hp) (R : Value → Hp → Prop) : Prop :=
  HCalls Try.prog fn_bits_get #[.slice b.base b.len b.cap, .int .i64 (8 : Int)] h fun r vh =>
  ∃ c : Int, ∃ c1 : Bool, r = .tuple #[.int .u64 c, .bool c1] ∧
  R (.tuple #[.int .u64 c, .bool c1]) vh
theorem bits_Get64_vc {b : Sl} {h : Hp} {R : Value → Hp → Prop} (H : vcbits_Get64 b h R) : HCalls Try.prog fn_bits_Get64 #[.slice b.base b.len b.cap] h R :=
  vc_fn (annOf [] []) Try.func45 [.slice b.base b.len b.cap] (by kernel_rfl) (V := vcbits_Get64 b h R) (by kernel_rfl) H

def vcbits_Get32 (b : Sl) (h : Hp) (R : Value → Hp → Prop) : Prop :=
  HCalls Try.prog fn_bits_get #[.slice b.base b.len b.cap, .int .i64 (4 : Int)] h fun r vh =>
  ∃ c : Int, ∃ c1 : Bool, r = .tuple #[.int .u64 c, .bool c1] ∧
  R (.tuple #[.int .u32 (iConv .u32 c), .bool c1]) vh
theorem bits_Get32_vc {b : Sl} {h : Hp} {R : Value → Hp → Prop} (H : vcbits_Get32 b h R) : HCalls Try.prog fn_bits_Get32 #[.slice b.base b.len b.cap] h R :=
  vc_fn (annOf [] []) Try.func46 [.slice b.base b.len b.cap] (by kernel_rfl) (V := vcbits_Get32 b h R) (by kernel_rfl) H

def vcslices_Concat_sbytebyte (slices : Sl) (h : Hp) (R : Value → Hp → Prop) : Prop :=
  ∃ (vI : Int → Int → Nat → Hp → Prop) (n : Nat), vI (0 : Int) (0 : Int) n h ∧
  ∀ _junk : Nat → Value, ∀ size : Int, ∀ t11 : Int, ∀ (n1 : Nat) (vh : Hp), vI size t11 n1 vh →
  IfB (decide (t11 < (slices.len : Int))) (∃ a : Addr, slices.base = some a ∧ 0 ≤ t11 ∧ t11 < (slices.len : Int) ∧
    ∃ c : Sl, hcell vh (a.add ((t11).toNat * 1)) = some (.slice c.base c.len c.cap) ∧
    IfB (decide ((iAdd .i64 size (c.len : Int)) < (0 : Int))) (False)
    (∃ n2, n2 < n1 ∧ vI (iAdd .i64 size (c.len : Int)) (iAdd .i64 t11 (1 : Int)) n2 vh))
  (HCalls Try.prog fn_slices_Grow_sbytebyte #[.slice Sl.nil.base Sl.nil.len Sl.nil.cap, .int .i64 size] vh fun r vh1 =>
    ∃ c1 : Sl, r = .slice c1.base c1.len c1.cap ∧
    ∃ (vI1 : Sl → Int → Nat → Hp → Prop) (n3 : Nat), vI1 c1 (0 : Int) n3 vh1 ∧
    ∀ _junk : Nat → Value, ∀ newslice : Sl, ∀ t27 : Int, ∀ (n4 : Nat) (vh2 : Hp), vI1 newslice t27 n4 vh2 →
    IfB (decide (t27 < (slices.len : Int))) (∃ a1 : Addr, slices.base = some a1 ∧ 0 ≤ t27 ∧ t27 < (slices.len : Int) ∧
      ∃ c2 : Sl, hcell vh2 (a1.add ((t27).toNat * 1)) = some (.slice c2.base c2.len c2.cap) ∧
      AppC ty_uint8 1 1 #[.int .u8 (0 : Int)] newslice c2 vh2 fun s vh3 =>
      ∃ n5, n5 < n4 ∧ vI1 s (iAdd .i64 t27 (1 : Int)) n5 vh3)
    (R (.slice newslice.base newslice.len newslice.cap) vh2))
theorem slices_Concat_sbytebyte_vc {slices : Sl} {h : Hp} {R : Value → Hp → Prop} (H : vcslices_Concat_sbytebyte slices h R) : HCalls Try.prog fn_slices_Concat_sbytebyte #[.slice slices.base slices.len slices.cap] h R :=
  vc_fn (annOf [(0, [(3, .int .i64), (11, .int .i64)]), (1, [(6, .sl), (27, .int .i64)])] []) Try.func47 [.slice slices.base slices.len slices.cap] (by kernel_rfl) (V := vcslices_Concat_sbytebyte slices h R) (by kernel_rfl) H

def vcbits_Put32 (v : Int) (h : Hp) (R : Value → Hp → Prop) : Prop :=
  HCalls Try.prog fn_bits_put #[.int .u64 (iConv .u64 v), .int .i64 (4 : Int)] h fun r vh =>
  ∃ c : Sl, r = .slice c.base c.len c.cap ∧
  R (.slice c.base c.len c.cap) vh
theorem bits_Put32_vc {v : Int} {h : Hp} {R : Value → Hp → Prop} (H : vcbits_Put32 v h R) : HCalls Try.prog fn_bits_Put32 #[.int .u32 v] h R :=
  vc_fn (annOf [] []) Try.func48 [.int .u32 v] (by kernel_rfl) (V := vcbits_Put32 v h R) (by kernel_rfl) H

def vccrc_Of (b : Sl) (h : Hp) (R : Value → Hp → Prop) : Prop :=
  HCalls Try.prog fn_crc_New #[] h fun r vh =>
  ∃ c : Option Addr, r = .pointer c ∧
  HCalls Try.prog fn_crc_Sum_Add #[.pointer c, .slice b.base b.len b.cap] vh fun r1 vh1 =>
  ∃ c1 : Option Addr, r1 = .pointer c1 ∧
  HCalls Try.prog fn_crc_Sum_Value #[.pointer c1] vh1 fun r2 vh2 =>
  ∃ c2 : Int, r2 = .int .u32 c2 ∧
  R (.int .u32 c2) vh2
theorem crc_Of_vc {b : Sl} {h : Hp} {R : Value → Hp → Prop} (H : vccrc_Of b h R) : HCalls Try.prog fn_crc_Of #[.slice b.base b.len b.cap] h R :=
  vc_fn (annOf [] []) Try.func49 [.slice b.base b.len b.cap] (by kernel_rfl) (V := vccrc_Of b h R) (by kernel_rfl) H

def vcframe_within (n : Int) (low : Int) (high : Int) (h : Hp) (R : Value → Hp → Prop) : Prop :=
  IfB (decide (low ≤ n)) (R (.bool (decide (n ≤ high))) h)
  (R (.bool false) h)
theorem frame_within_vc {n : Int} {low : Int} {high : Int} {h : Hp} {R : Value → Hp → Prop} (H : vcframe_within n low high h R) : HCalls Try.prog fn_frame_within #[.int .i64 n, .int .i64 low, .int .i64 high] h R :=
  vc_fn (annOf [] []) Try.func50 [.int .i64 n, .int .i64 low, .int .i64 high] (by kernel_rfl) (V := vcframe_within n low high h R) (by kernel_rfl) H

def vcbits_Put64 (v : Int) (h : Hp) (R : Value → Hp → Prop) : Prop :=
  HCalls Try.prog fn_bits_put #[.int .u64 v, .int .i64 (8 : Int)] h fun r vh =>
  ∃ c : Sl, r = .slice c.base c.len c.cap ∧
  R (.slice c.base c.len c.cap) vh
theorem bits_Put64_vc {v : Int} {h : Hp} {R : Value → Hp → Prop} (H : vcbits_Put64 v h R) : HCalls Try.prog fn_bits_Put64 #[.int .u64 v] h R :=
  vc_fn (annOf [] []) Try.func51 [.int .u64 v] (by kernel_rfl) (V := vcbits_Put64 v h R) (by kernel_rfl) H

def vcbits_get (b : Sl) (n : Int) (h : Hp) (R : Value → Hp → Prop) : Prop :=
  IfB (decide ((b.len : Int) < n)) (R (.tuple #[.int .u64 (0 : Int), .bool false]) h)
  (∃ (vI : Int → Int → Nat → Hp → Prop) (n1 : Nat), vI (0 : Int) (0 : Int) n1 h ∧
    ∀ _junk : Nat → Value, ∀ v : Int, ∀ t12 : Int, ∀ (n2 : Nat) (vh : Hp), vI v t12 n2 vh →
    IfB (decide (t12 < n)) (∃ a : Addr, b.base = some a ∧ 0 ≤ t12 ∧ t12 < (b.len : Int) ∧
      ∃ c : Int, hcell vh (a.add ((t12).toNat * 1)) = some (.int .u8 c) ∧
      0 ≤ (iMul .i64 (8 : Int) t12) ∧
      ∃ n3, n3 < n2 ∧ vI (iOr .u64 v (iShl .u64 (iConv .u64 c) (iMul .i64 (8 : Int) t12))) (iAdd .i64 t12 (1 : Int)) n3 vh)
    (R (.tuple #[.int .u64 v, .bool true]) vh))
theorem bits_get_vc {b : Sl} {n : Int} {h : Hp} {R : Value → Hp → Prop} (H : vcbits_get b n h R) : HCalls Try.prog fn_bits_get #[.slice b.base b.len b.cap, .int .i64 n] h R :=
  vc_fn (annOf [(0, [(4, .int .u64), (12, .int .i64)])] []) Try.func52 [.slice b.base b.len b.cap, .int .i64 n] (by kernel_rfl) (V := vcbits_get b n h R) (by kernel_rfl) H

def vcslices_Grow_sbytebyte (s : Sl) (n : Int) (h : Hp) (R : Value → Hp → Prop) : Prop :=
  IfB (decide (n < (0 : Int))) (False)
  (IfB (decide ((iSub .i64 n (iSub .i64 (s.cap : Int) (s.len : Int))) > (0 : Int))) (0 ≤ (0 : Int) ∧ (0 : Int) ≤ (s.cap : Int) ∧ (s.cap : Int) ≤ (s.cap : Int) ∧ (s.cap : Int) ≤ (s.cap : Int) ∧
      AppZ ty_uint8 1 1 #[.int .u8 (0 : Int)] (cutSl s (0 : Int) (s.cap : Int) (s.cap : Int) 1) (iSub .i64 n (iSub .i64 (s.cap : Int) (s.len : Int))) h fun s1 vh =>
      0 ≤ (0 : Int) ∧ (0 : Int) ≤ (s.len : Int) ∧ (s.len : Int) ≤ (s1.cap : Int) ∧ (s1.cap : Int) ≤ (s1.cap : Int) ∧
      R (.slice (cutSl s1 (0 : Int) (s.len : Int) (s1.cap : Int) 1).base (cutSl s1 (0 : Int) (s.len : Int) (s1.cap : Int) 1).len (cutSl s1 (0 : Int) (s.len : Int) (s1.cap : Int) 1).cap) vh)
    (R (.slice s.base s.len s.cap) h))
theorem slices_Grow_sbytebyte_vc {s : Sl} {n : Int} {h : Hp} {R : Value → Hp → Prop} (H : vcslices_Grow_sbytebyte s n h R) : HCalls Try.prog fn_slices_Grow_sbytebyte #[.slice s.base s.len s.cap, .int .i64 n] h R :=
  vc_fn (annOf [] []) Try.func53 [.slice s.base s.len s.cap, .int .i64 n] (by kernel_rfl) (V := vcslices_Grow_sbytebyte s n h R) (by kernel_rfl) H

def vcbits_put (v : Int) (n : Int) (h : Hp) (R : Value → Hp → Prop) : Prop :=
  MkC ty_uint8 1 #[.int .u8 (0 : Int)] n n h fun s vh =>
  ∃ (vI : Int → Nat → Hp → Prop) (n1 : Nat), vI (0 : Int) n1 vh ∧
  ∀ _junk : Nat → Value, ∀ t11 : Int, ∀ (n2 : Nat) (vh1 : Hp), vI t11 n2 vh1 →
  IfB (decide (t11 < (s.len : Int))) (0 ≤ (iMul .i64 (8 : Int) t11) ∧
    ∃ a : Addr, s.base = some a ∧ 0 ≤ t11 ∧ t11 < (s.len : Int) ∧
    StOk vh1 (a.add ((t11).toNat * 1)) ∧
    Lt (hset vh1 (a.add ((t11).toNat * 1)) (.int .u8 (iConv .u8 (iShr .u64 v (iMul .i64 (8 : Int) t11))))) fun vh2 =>
    ∃ n3, n3 < n2 ∧ vI (iAdd .i64 t11 (1 : Int)) n3 vh2)
  (R (.slice s.base s.len s.cap) vh1)
theorem bits_put_vc {v : Int} {n : Int} {h : Hp} {R : Value → Hp → Prop} (H : vcbits_put v n h R) : HCalls Try.prog fn_bits_put #[.int .u64 v, .int .i64 n] h R :=
  vc_fn (annOf [(0, [(11, .int .i64)])] []) Try.func54 [.int .u64 v, .int .i64 n] (by kernel_rfl) (V := vcbits_put v n h R) (by kernel_rfl) H

def vccrc_New (h : Hp) (R : Value → Hp → Prop) : Prop :=
  let vh := alc h [.int .u32 (0 : Int)] ty_crc_Sum;
  R (.pointer (some (nw h))) vh
theorem crc_New_vc {h : Hp} {R : Value → Hp → Prop} (H : vccrc_New h R) : HCalls Try.prog fn_crc_New #[] h R :=
  vc_fn (annOf [] []) Try.func55 [] (by kernel_rfl) (V := vccrc_New h R) (by kernel_rfl) H

def vccrc_Sum_Add (s : Option Addr) (b : Sl) (h : Hp) (R : Value → Hp → Prop) : Prop :=
  IfB (isNone? s) (R (.pointer none) h)
  (∃ a : Addr, s = some a ∧
    ∃ c : Int, hcell h a = some (.int .u32 c) ∧
    ∃ (vI : Int → Int → Nat → Hp → Prop) (n : Nat), vI (iNot .u32 c) (0 : Int) n h ∧
    ∀ _junk : Nat → Value, ∀ r : Int, ∀ t17 : Int, ∀ (n1 : Nat) (vh : Hp), vI r t17 n1 vh →
    IfB (decide (t17 < (b.len : Int))) (∃ a1 : Addr, b.base = some a1 ∧ 0 ≤ t17 ∧ t17 < (b.len : Int) ∧
      ∃ c1 : Int, hcell vh (a1.add ((t17).toNat * 1)) = some (.int .u8 c1) ∧
      ∃ (vI1 : Int → Int → Nat → Hp → Prop) (n3 : Nat), vI1 (iXor .u32 r (iConv .u32 c1)) (0 : Int) n3 vh ∧
      ∀ _junk : Nat → Value, ∀ r1 : Int, ∀ t25 : Int, ∀ (n4 : Nat) (vh1 : Hp), vI1 r1 t25 n4 vh1 →
      IfB (decide (t25 < (8 : Int))) (0 ≤ (1 : Int) ∧
        ∃ n5, n5 < n4 ∧ vI1 (iXor .u32 (iShr .u32 r1 (1 : Int)) (iAnd .u32 (2197175160 : Int) (iNeg .u32 (iAnd .u32 r1 (1 : Int))))) (iAdd .i64 t25 (1 : Int)) n5 vh1)
      (∃ n2, n2 < n1 ∧ vI r1 (iAdd .i64 t17 (1 : Int)) n2 vh1))
    (∃ a2 : Addr, s = some a2 ∧
      StOk vh a2 ∧
      Lt (hset vh a2 (.int .u32 (iNot .u32 r))) fun vh2 =>
      R (.pointer s) vh2))
theorem crc_Sum_Add_vc {s : Option Addr} {b : Sl} {h : Hp} {R : Value → Hp → Prop} (H : vccrc_Sum_Add s b h R) : HCalls Try.prog fn_crc_Sum_Add #[.pointer s, .slice b.base b.len b.cap] h R :=
  vc_fn (annOf [(0, [(5, .int .u32), (17, .int .i64)]), (1, [(5, .int .u32), (25, .int .i64)])] []) Try.func56 [.pointer s, .slice b.base b.len b.cap] (by kernel_rfl) (V := vccrc_Sum_Add s b h R) (by kernel_rfl) H

def vccrc_Sum_Value (s : Option Addr) (h : Hp) (R : Value → Hp → Prop) : Prop :=
  IfB (isNone? s) (R (.int .u32 (0 : Int)) h)
  (∃ a : Addr, s = some a ∧
    ∃ c : Int, hcell h a = some (.int .u32 c) ∧
    R (.int .u32 c) h)
theorem crc_Sum_Value_vc {s : Option Addr} {h : Hp} {R : Value → Hp → Prop} (H : vccrc_Sum_Value s h R) : HCalls Try.prog fn_crc_Sum_Value #[.pointer s] h R :=
  vc_fn (annOf [] []) Try.func57 [.pointer s] (by kernel_rfl) (V := vccrc_Sum_Value s h R) (by kernel_rfl) H

def vczdev_Dev_Crash (d : Option Addr) (picks : Sl) (torn : Sl) (h : Hp) (R : Value → Hp → Prop) : Prop :=
  HCalls Try.prog fn_zdev_Dev_gone #[.pointer d] h fun r vh =>
  ∃ c : Bool, r = .bool c ∧
  IfB c (R (.pointer none) vh)
  (∃ a : Addr, d = some a ∧
    ∃ c1 : Int, ∃ c2 : Int, hcell vh (a) = some (.int .i64 c1) ∧ hcell vh (a.add 1) = some (.int .i64 c2) ∧
    HCalls Try.prog fn_zdev_New #[.agg #[.int .i64 c1, .int .i64 c2]] vh fun r1 vh1 =>
    ∃ c3 : Option Addr, ∃ c4 : Int, r1 = .tuple #[.pointer c3, .int .i64 c4] ∧
    ∃ a1 : Addr, d = some a1 ∧
    ∃ c5 : Sl, hcell vh1 (a1.add 2) = some (.slice c5.base c5.len c5.cap) ∧
    ∃ (vI : Int → Nat → Hp → Prop) (n : Nat), vI (0 : Int) n vh1 ∧
    ∀ _junk : Nat → Value, ∀ t33 : Int, ∀ (n1 : Nat) (vh2 : Hp), vI t33 n1 vh2 →
    IfB (decide (t33 < (c5.len : Int))) (∃ a2 : Addr, c5.base = some a2 ∧ 0 ≤ t33 ∧ t33 < (c5.len : Int) ∧
      ∃ c6 : Option Addr, hcell vh2 (a2.add ((t33).toNat * 1)) = some (.pointer c6) ∧
      ∃ a3 : Addr, c6 = some a3 ∧
      ∃ c7 : Int, hcell vh2 (a3.add 1) = some (.int .i64 c7) ∧
      ∃ a4 : Addr, c6 = some a4 ∧
      ∃ c8 : Sl, hcell vh2 a4 = some (.slice c8.base c8.len c8.cap) ∧
      ∃ vJ : Int → Hp → Prop,
      (HCalls Try.prog fn_zdev_pick #[.slice picks.base picks.len picks.cap, .int .i64 t33] vh2 fun r2 vh3 =>
        ∃ c9 : Int, ∃ c10 : Bool, r2 = .tuple #[.int .i64 c9, .bool c10] ∧
        IfB c10 (HCalls Try.prog fn_zdev_rest #[.int .i64 c9, .int .i64 (iAdd .i64 (iSub .i64 (c8.len : Int) c7) (1 : Int))] vh3 fun r3 vh4 =>
          ∃ c11 : Int, r3 = .int .i64 c11 ∧
          vJ (iAdd .i64 c7 c11) vh4)
        (vJ c7 vh3)) ∧
      ∀ _junk : Nat → Value, ∀ n3 : Int, ∀ vh5 : Hp, vJ n3 vh5 →
      ∃ a5 : Addr, c6 = some a5 ∧
      ∃ c12 : Sl, hcell vh5 a5 = some (.slice c12.base c12.len c12.cap) ∧
      0 ≤ (0 : Int) ∧ (0 : Int) ≤ n3 ∧ n3 ≤ (c12.cap : Int) ∧ (c12.cap : Int) ≤ (c12.cap : Int) ∧
      HCalls Try.prog fn_zdev_own #[.slice (cutSl c12 (0 : Int) n3 (c12.cap : Int) 1).base (cutSl c12 (0 : Int) n3 (c12.cap : Int) 1).len (cutSl c12 (0 : Int) n3 (c12.cap : Int) 1).cap] vh5 fun r4 vh6 =>
      ∃ c13 : Sl, r4 = .slice c13.base c13.len c13.cap ∧
      ∃ vJ1 : Sl → Hp → Prop,
      (HCalls Try.prog fn_zdev_pick #[.slice torn.base torn.len torn.cap, .int .i64 t33] vh6 fun r5 vh7 =>
        ∃ c14 : Int, ∃ c15 : Bool, r5 = .tuple #[.int .i64 c14, .bool c15] ∧
        IfB c15 (IfB (decide (n3 < (c8.len : Int))) ((2 : Int) ≠ 0 ∧
            IfB ((iRem c14 (2 : Int)) != (0 : Int)) (∃ a6 : Addr, c6 = some a6 ∧
              ∃ c16 : Sl, hcell vh7 a6 = some (.slice c16.base c16.len c16.cap) ∧
              ∃ a7 : Addr, c16.base = some a7 ∧ 0 ≤ n3 ∧ n3 < (c16.len : Int) ∧
              ∃ c17 : Sl, hcell vh7 (a7.add ((n3).toNat * 1)) = some (.slice c17.base c17.len c17.cap) ∧
              HCalls Try.prog fn_zdev_tear #[.slice c17.base c17.len c17.cap] vh7 fun r6 vh8 =>
              ∃ c18 : Sl, r6 = .slice c18.base c18.len c18.cap ∧
              let vh9 := alc vh8 [.slice c18.base c18.len c18.cap] ty_suint8;
              AppC ty_suint8 1 24 #[.slice Sl.nil.base Sl.nil.len Sl.nil.cap] c13 (Sl.mk (some (nw vh8)) 1 1) vh9 fun s vh10 =>
              vJ1 s vh10)
            (vJ1 c13 vh7))
          (vJ1 c13 vh7))
        (vJ1 c13 vh7)) ∧
      ∀ _junk : Nat → Value, ∀ l : Sl, ∀ vh11 : Hp, vJ1 l vh11 →
      ∃ a8 : Addr, c3 = some a8 ∧
      ∃ c19 : Sl, hcell vh11 (a8.add 2) = some (.slice c19.base c19.len c19.cap) ∧
      ∃ a9 : Addr, c19.base = some a9 ∧ 0 ≤ t33 ∧ t33 < (c19.len : Int) ∧
      ∃ c20 : Option Addr, hcell vh11 (a9.add ((t33).toNat * 1)) = some (.pointer c20) ∧
      ∃ a10 : Addr, c20 = some a10 ∧
      stCells a10 0 [.slice l.base l.len l.cap, .int .i64 (l.len : Int)] vh11 fun vh12 =>
      ∃ n2, n2 < n1 ∧ vI (iAdd .i64 t33 (1 : Int)) n2 vh12)
    (R (.pointer c3) vh2))
theorem zdev_Dev_Crash_vc {d : Option Addr} {picks : Sl} {torn : Sl} {h : Hp} {R : Value → Hp → Prop} (H : vczdev_Dev_Crash d picks torn h R) : HCalls Try.prog fn_zdev_Dev_Crash #[.pointer d, .slice picks.base picks.len picks.cap, .slice torn.base torn.len torn.cap] h R :=
  vc_fn (annOf [(0, [(33, .int .i64)])] [(11, [(11, .int .i64)]), (15, [(15, .sl)])]) Try.func19 [.pointer d, .slice picks.base picks.len picks.cap, .slice torn.base torn.len torn.cap] (by kernel_rfl) (V := vczdev_Dev_Crash d picks torn h R) (by kernel_rfl) H

def vczdev_Dev_begin (d : Option Addr) (h : Hp) (R : Value → Hp → Prop) : Prop :=
  ∃ a : Addr, d = some a ∧
  ∃ c : Int, hcell h (a.add 3) = some (.int .i64 c) ∧
  ∃ a1 : Addr, d = some a1 ∧
  StOk h (a1.add 3) ∧
  Lt (hset h (a1.add 3) (.int .i64 (iAdd .i64 c (1 : Int)))) fun vh =>
  ∃ vJ : Hp → Prop,
  (∃ a2 : Addr, d = some a2 ∧
    ∃ c1 : Bool, hcell vh (a2.add 7) = some (.bool c1) ∧
    IfB c1 (∃ a3 : Addr, d = some a3 ∧
      StOk vh (a3.add 7) ∧
      Lt (hset vh (a3.add 7) (.bool true)) fun vh1 =>
      vJ vh1)
    (∃ a4 : Addr, d = some a4 ∧
      ∃ c2 : Bool, hcell vh (a4.add 5) = some (.bool c2) ∧
      IfB c2 (∃ a5 : Addr, d = some a5 ∧
        ∃ c3 : Int, hcell vh (a5.add 6) = some (.int .i64 c3) ∧
        ∃ a6 : Addr, d = some a6 ∧
        StOk vh (a6.add 7) ∧
        Lt (hset vh (a6.add 7) (.bool (decide (c3 < (1 : Int))))) fun vh2 =>
        vJ vh2)
      (∃ a7 : Addr, d = some a7 ∧
        StOk vh (a7.add 7) ∧
        Lt (hset vh (a7.add 7) (.bool false)) fun vh3 =>
        vJ vh3))) ∧
  ∀ _junk : Nat → Value, ∀ vh4 : Hp, vJ vh4 →
  ∃ a8 : Addr, d = some a8 ∧
  ∃ c4 : Bool, hcell vh4 (a8.add 7) = some (.bool c4) ∧
  IfB c4 (R (.bool false) vh4)
  (∃ a9 : Addr, d = some a9 ∧
    ∃ c5 : Bool, hcell vh4 (a9.add 5) = some (.bool c5) ∧
    IfB c5 (∃ a10 : Addr, d = some a10 ∧
      ∃ c6 : Int, hcell vh4 (a10.add 6) = some (.int .i64 c6) ∧
      ∃ a11 : Addr, d = some a11 ∧
      StOk vh4 (a11.add 6) ∧
      Lt (hset vh4 (a11.add 6) (.int .i64 (iSub .i64 c6 (1 : Int)))) fun vh5 =>
      R (.bool true) vh5)
    (R (.bool true) vh4))
theorem zdev_Dev_begin_vc {d : Option Addr} {h : Hp} {R : Value → Hp → Prop} (H : vczdev_Dev_begin d h R) : HCalls Try.prog fn_zdev_Dev_begin #[.pointer d] h R :=
  vc_fn (annOf [] [(3, [])]) Try.func41 [.pointer d] (by kernel_rfl) (V := vczdev_Dev_begin d h R) (by kernel_rfl) H

def vczdev_Dev_Append (d : Option Addr) (i : Int) (p : Sl) (h : Hp) (R : Value → Hp → Prop) : Prop :=
  HCalls Try.prog fn_zdev_Dev_at #[.pointer d, .int .i64 i] h fun r vh =>
  ∃ c : Option Addr, r = .pointer c ∧
  IfB (isNone? c) (R (.tuple #[.int .i64 (0 : Int), .int .i64 (1 : Int)]) vh)
  (IfB ((p.len : Int) != (64 : Int)) (R (.tuple #[.int .i64 (0 : Int), .int .i64 (3 : Int)]) vh)
    (HCalls Try.prog fn_zdev_Dev_begin #[.pointer d] vh fun r1 vh1 =>
      ∃ c1 : Bool, r1 = .bool c1 ∧
      IfB (!c1) (R (.tuple #[.int .i64 (0 : Int), .int .i64 (12 : Int)]) vh1)
      (∃ a : Addr, c = some a ∧
        ∃ c2 : Sl, hcell vh1 a = some (.slice c2.base c2.len c2.cap) ∧
        ∃ a1 : Addr, d = some a1 ∧
        ∃ c3 : Int, hcell vh1 (a1.add 1) = some (.int .i64 c3) ∧
        IfB (decide ((c2.len : Int) ≥ c3)) (R (.tuple #[.int .i64 (0 : Int), .int .i64 (9 : Int)]) vh1)
        (∃ hR : Hp, Sub hR vh1 ∧
          ∃ a2 : Addr, c = some a2 ∧
          ∃ c4 : Sl, hcell hR a2 = some (.slice c4.base c4.len c4.cap) ∧
          HCalls Try.prog fn_slices_Clone_sbytebyte #[.slice p.base p.len p.cap] vh1 fun r2 vh2 =>
          ∃ c5 : Sl, r2 = .slice c5.base c5.len c5.cap ∧
          Sub hR vh2 ∧
          let vh3 := alc vh2 [.slice c5.base c5.len c5.cap] ty_suint8;
          Sub hR vh3 ∧
          AppC ty_suint8 1 24 #[.slice Sl.nil.base Sl.nil.len Sl.nil.cap] c4 (Sl.mk (some (nw vh2)) 1 1) vh3 fun s vh4 =>
          Sub hR vh4 ∧
          ∃ a3 : Addr, c = some a3 ∧
          StOk vh4 a3 ∧
          Lt (hset vh4 a3 (.slice s.base s.len s.cap)) fun vh5 =>
          ∃ a4 : Addr, c = some a4 ∧
          ∃ c6 : Sl, hcell vh5 a4 = some (.slice c6.base c6.len c6.cap) ∧
          R (.tuple #[.int .i64 (iSub .i64 (c6.len : Int) (1 : Int)), .int .i64 (0 : Int)]) vh5))))
theorem zdev_Dev_Append_vc {d : Option Addr} {i : Int} {p : Sl} {h : Hp} {R : Value → Hp → Prop} (H : vczdev_Dev_Append d i p h R) : HCalls Try.prog fn_zdev_Dev_Append #[.pointer d, .int .i64 i, .slice p.base p.len p.cap] h R :=
  vc_fn (annOfL [] [] [10]) Try.func44 [.pointer d, .int .i64 i, .slice p.base p.len p.cap] (by kernel_rfl) (V := vczdev_Dev_Append d i p h R) (by kernel_rfl) H

def vcslot_Slots_Save (s : Option Addr) (text : Sl) (h : Hp) (R : Value → Hp → Prop) : Prop :=
  HCalls Try.prog fn_slot_Slots_Room #[.pointer s] h fun r vh =>
  ∃ c : Int, r = .int .i64 c ∧
  IfB (decide ((text.len : Int) > c)) (R (.int .i64 (7 : Int)) vh)
  (HCalls Try.prog fn_slot_Slots_Dead #[.pointer s] vh fun r1 vh1 =>
    ∃ c1 : Bool, r1 = .bool c1 ∧
    IfB c1 (R (.int .i64 (12 : Int)) vh1)
    (∃ hR : Hp, Sub hR vh1 ∧
      ∃ a : Addr, s = some a ∧
      ∃ c2 : Int, hcell hR (a.add 5) = some (.int .i64 c2) ∧
      ∃ a1 : Addr, s = some a1 ∧
      ∃ c3 : Int, hcell hR (a1.add 7) = some (.int .i64 c3) ∧
      HCalls Try.prog fn_slot_Slots_write #[.pointer s, .int .i64 (iSub .i64 (1 : Int) c2), .int .i64 (iAdd .i64 c3 (1 : Int)), .slice text.base text.len text.cap] vh1 fun r2 vh2 =>
      ∃ c4 : Int, r2 = .int .i64 c4 ∧
      Sub hR vh2 ∧
      IfB (c4 != (0 : Int)) (∃ a2 : Addr, s = some a2 ∧
        StOk vh2 (a2.add 8) ∧
        Lt (hset vh2 (a2.add 8) (.bool true)) fun vh3 =>
        R (.int .i64 c4) vh3)
      (∃ a3 : Addr, s = some a3 ∧
        ∃ a4 : Addr, s = some a4 ∧
        (∃ c5 : Int, hcell vh2 (a3.add 5) = some (.int .i64 c5) ∧
          True ∧
          (HCalls Try.prog fn_slices_Clone_sbytebyte #[.slice text.base text.len text.cap] vh2 fun r3 vh4 =>
            ∃ c6 : Sl, r3 = .slice c6.base c6.len c6.cap ∧
            True ∧
            ∃ c7 : Int, hcell vh4 (a4.add 7) = some (.int .i64 c7) ∧
            True ∧
            ∃ a5 : Addr, s = some a5 ∧
            StOk vh4 (a5.add 5) ∧
            Lt (hset vh4 (a5.add 5) (.int .i64 (iSub .i64 (1 : Int) c5))) fun vh5 =>
            True ∧
            ∃ a6 : Addr, s = some a6 ∧
            StOk vh5 (a6.add 6) ∧
            Lt (hset vh5 (a6.add 6) (.slice c6.base c6.len c6.cap)) fun vh6 =>
            True ∧
            ∃ a7 : Addr, s = some a7 ∧
            StOk vh6 (a7.add 7) ∧
            Lt (hset vh6 (a7.add 7) (.int .i64 (iAdd .i64 c7 (1 : Int)))) fun vh7 =>
            R (.int .i64 (0 : Int)) vh7) ∧
          (∃ c8 : Int, hcell vh2 (a4.add 7) = some (.int .i64 c8) ∧
            True ∧
            HCalls Try.prog fn_slices_Clone_sbytebyte #[.slice text.base text.len text.cap] vh2 fun r4 vh8 =>
            ∃ c9 : Sl, r4 = .slice c9.base c9.len c9.cap ∧
            True ∧
            ∃ a8 : Addr, s = some a8 ∧
            StOk vh8 (a8.add 5) ∧
            Lt (hset vh8 (a8.add 5) (.int .i64 (iSub .i64 (1 : Int) c5))) fun vh9 =>
            True ∧
            ∃ a9 : Addr, s = some a9 ∧
            StOk vh9 (a9.add 6) ∧
            Lt (hset vh9 (a9.add 6) (.slice c9.base c9.len c9.cap)) fun vh10 =>
            True ∧
            ∃ a10 : Addr, s = some a10 ∧
            StOk vh10 (a10.add 7) ∧
            Lt (hset vh10 (a10.add 7) (.int .i64 (iAdd .i64 c8 (1 : Int)))) fun vh11 =>
            R (.int .i64 (0 : Int)) vh11)) ∧
        (HCalls Try.prog fn_slices_Clone_sbytebyte #[.slice text.base text.len text.cap] vh2 fun r5 vh12 =>
          ∃ c10 : Sl, r5 = .slice c10.base c10.len c10.cap ∧
          True ∧
          (∃ c11 : Int, hcell vh12 (a3.add 5) = some (.int .i64 c11) ∧
            True ∧
            ∃ c12 : Int, hcell vh12 (a4.add 7) = some (.int .i64 c12) ∧
            True ∧
            ∃ a11 : Addr, s = some a11 ∧
            StOk vh12 (a11.add 5) ∧
            Lt (hset vh12 (a11.add 5) (.int .i64 (iSub .i64 (1 : Int) c11))) fun vh13 =>
            True ∧
            ∃ a12 : Addr, s = some a12 ∧
            StOk vh13 (a12.add 6) ∧
            Lt (hset vh13 (a12.add 6) (.slice c10.base c10.len c10.cap)) fun vh14 =>
            True ∧
            ∃ a13 : Addr, s = some a13 ∧
            StOk vh14 (a13.add 7) ∧
            Lt (hset vh14 (a13.add 7) (.int .i64 (iAdd .i64 c12 (1 : Int)))) fun vh15 =>
            R (.int .i64 (0 : Int)) vh15) ∧
          (∃ c13 : Int, hcell vh12 (a4.add 7) = some (.int .i64 c13) ∧
            True ∧
            ∃ c14 : Int, hcell vh12 (a3.add 5) = some (.int .i64 c14) ∧
            True ∧
            ∃ a14 : Addr, s = some a14 ∧
            StOk vh12 (a14.add 5) ∧
            Lt (hset vh12 (a14.add 5) (.int .i64 (iSub .i64 (1 : Int) c14))) fun vh16 =>
            True ∧
            ∃ a15 : Addr, s = some a15 ∧
            StOk vh16 (a15.add 6) ∧
            Lt (hset vh16 (a15.add 6) (.slice c10.base c10.len c10.cap)) fun vh17 =>
            True ∧
            ∃ a16 : Addr, s = some a16 ∧
            StOk vh17 (a16.add 7) ∧
            Lt (hset vh17 (a16.add 7) (.int .i64 (iAdd .i64 c13 (1 : Int)))) fun vh18 =>
            R (.int .i64 (0 : Int)) vh18)) ∧
        (∃ c15 : Int, hcell vh2 (a4.add 7) = some (.int .i64 c15) ∧
          True ∧
          (∃ c16 : Int, hcell vh2 (a3.add 5) = some (.int .i64 c16) ∧
            True ∧
            HCalls Try.prog fn_slices_Clone_sbytebyte #[.slice text.base text.len text.cap] vh2 fun r6 vh19 =>
            ∃ c17 : Sl, r6 = .slice c17.base c17.len c17.cap ∧
            True ∧
            ∃ a17 : Addr, s = some a17 ∧
            StOk vh19 (a17.add 5) ∧
            Lt (hset vh19 (a17.add 5) (.int .i64 (iSub .i64 (1 : Int) c16))) fun vh20 =>
            True ∧
            ∃ a18 : Addr, s = some a18 ∧
            StOk vh20 (a18.add 6) ∧
            Lt (hset vh20 (a18.add 6) (.slice c17.base c17.len c17.cap)) fun vh21 =>
            True ∧
            ∃ a19 : Addr, s = some a19 ∧
            StOk vh21 (a19.add 7) ∧
            Lt (hset vh21 (a19.add 7) (.int .i64 (iAdd .i64 c15 (1 : Int)))) fun vh22 =>
            R (.int .i64 (0 : Int)) vh22) ∧
          (HCalls Try.prog fn_slices_Clone_sbytebyte #[.slice text.base text.len text.cap] vh2 fun r7 vh23 =>
            ∃ c18 : Sl, r7 = .slice c18.base c18.len c18.cap ∧
            True ∧
            ∃ c19 : Int, hcell vh23 (a3.add 5) = some (.int .i64 c19) ∧
            True ∧
            ∃ a20 : Addr, s = some a20 ∧
            StOk vh23 (a20.add 5) ∧
            Lt (hset vh23 (a20.add 5) (.int .i64 (iSub .i64 (1 : Int) c19))) fun vh24 =>
            True ∧
            ∃ a21 : Addr, s = some a21 ∧
            StOk vh24 (a21.add 6) ∧
            Lt (hset vh24 (a21.add 6) (.slice c18.base c18.len c18.cap)) fun vh25 =>
            True ∧
            ∃ a22 : Addr, s = some a22 ∧
            StOk vh25 (a22.add 7) ∧
            Lt (hset vh25 (a22.add 7) (.int .i64 (iAdd .i64 c15 (1 : Int)))) fun vh26 =>
            R (.int .i64 (0 : Int)) vh26)))))
theorem slot_Slots_Save_vc {s : Option Addr} {text : Sl} {h : Hp} {R : Value → Hp → Prop} (H : vcslot_Slots_Save s text h R) : HCalls Try.prog fn_slot_Slots_Save #[.pointer s, .slice text.base text.len text.cap] h R :=
  vc_fn (annOfB [] [] [5] [9]) Try.func14 [.pointer s, .slice text.base text.len text.cap] (by kernel_rfl) (V := vcslot_Slots_Save s text h R) (by kernel_rfl) H

def vcslot_Slots_write (s : Option Addr) (i : Int) (n : Int) (text : Sl) (h : Hp) (R : Value → Hp → Prop) : Prop :=
  ∃ a : Addr, s = some a ∧
  0 ≤ i ∧ i < ((3 : Nat) : Int) ∧
  ∃ c : Int, hcell h ((a.add 1).add ((i).toNat * 1)) = some (.int .i64 c) ∧
  ∃ (vI : Int → Nat → Hp → Prop) (n1 : Nat), vI c n1 h ∧
  ∀ _junk : Nat → Value, ∀ z : Int, ∀ (n2 : Nat) (vh : Hp), vI z n2 vh →
  ∃ a1 : Addr, s = some a1 ∧
  0 ≤ (iAdd .i64 i (1 : Int)) ∧ (iAdd .i64 i (1 : Int)) < ((3 : Nat) : Int) ∧
  ∃ c1 : Int, hcell vh ((a1.add 1).add (((iAdd .i64 i (1 : Int))).toNat * 1)) = some (.int .i64 c1) ∧
  IfB (decide (z < c1)) (∃ a2 : Addr, s = some a2 ∧
    ∃ c2 : Option Addr, hcell vh a2 = some (.pointer c2) ∧
    HCalls Try.prog fn_zdev_Dev_Pointer #[.pointer c2, .int .i64 z] vh fun r vh1 =>
    ∃ c3 : Int, ∃ c4 : Int, r = .tuple #[.int .i64 c3, .int .i64 c4] ∧
    IfB (decide (c3 > (0 : Int))) (∃ a3 : Addr, s = some a3 ∧
      ∃ c5 : Option Addr, hcell vh1 a3 = some (.pointer c5) ∧
      HCalls Try.prog fn_zdev_Dev_Reset #[.pointer c5, .int .i64 z] vh1 fun r1 vh2 =>
      ∃ c6 : Int, r1 = .int .i64 c6 ∧
      IfB (c6 != (0 : Int)) (R (.int .i64 c6) vh2)
      (∃ n3, n3 < n2 ∧ vI (iAdd .i64 z (1 : Int)) n3 vh2))
    (∃ n3, n3 < n2 ∧ vI (iAdd .i64 z (1 : Int)) n3 vh1))
  (let vh3 := alc vh [.int .i64 (3 : Int), .int .i64 (0 : Int), .int .i64 n, .int .i64 (0 : Int), .slice Sl.nil.base Sl.nil.len Sl.nil.cap] ty_frame_Block;
    ∃ (vI1 : Sl → Int → Nat → Hp → Prop) (n4 : Nat), vI1 (Sl.mk (some (nw vh)) 1 1) (0 : Int) n4 vh3 ∧
    ∀ _junk : Nat → Value, ∀ l : Sl, ∀ vat : Int, ∀ (n5 : Nat) (vh4 : Hp), vI1 l vat n5 vh4 →
    IfB (decide (vat < (text.len : Int))) (0 ≤ vat ∧ vat ≤ (if (text.len : Int) < (iAdd .i64 vat (40 : Int)) then (text.len : Int) else (iAdd .i64 vat (40 : Int))) ∧ (if (text.len : Int) < (iAdd .i64 vat (40 : Int)) then (text.len : Int) else (iAdd .i64 vat (40 : Int))) ≤ (text.cap : Int) ∧ (text.cap : Int) ≤ (text.cap : Int) ∧
      let vh5 := alc vh4 [.int .i64 (1 : Int), .int .i64 (0 : Int), .int .i64 n, .int .i64 (0 : Int), .slice (cutSl text vat (if (text.len : Int) < (iAdd .i64 vat (40 : Int)) then (text.len : Int) else (iAdd .i64 vat (40 : Int))) (text.cap : Int) 1).base (cutSl text vat (if (text.len : Int) < (iAdd .i64 vat (40 : Int)) then (text.len : Int) else (iAdd .i64 vat (40 : Int))) (text.cap : Int) 1).len (cutSl text vat (if (text.len : Int) < (iAdd .i64 vat (40 : Int)) then (text.len : Int) else (iAdd .i64 vat (40 : Int))) (text.cap : Int) 1).cap] ty_frame_Block;
      AppC ty_frame_Block 5 56 #[.int .i64 (0 : Int), .int .i64 (0 : Int), .int .i64 (0 : Int), .int .i64 (0 : Int), .slice Sl.nil.base Sl.nil.len Sl.nil.cap] l (Sl.mk (some (nw vh4)) 1 1) vh5 fun s1 vh6 =>
      ∃ n6, n6 < n5 ∧ vI1 s1 (iAdd .i64 vat (40 : Int)) n6 vh6)
    (HCalls Try.prog fn_slot_tail #[.slice text.base text.len text.cap] vh4 fun r2 vh7 =>
      ∃ c7 : Sl, r2 = .slice c7.base c7.len c7.cap ∧
      let vh8 := alc vh7 [.int .i64 (2 : Int), .int .i64 (0 : Int), .int .i64 n, .int .i64 (iSub .i64 (l.len : Int) (1 : Int)), .slice c7.base c7.len c7.cap] ty_frame_Block;
      AppC ty_frame_Block 5 56 #[.int .i64 (0 : Int), .int .i64 (0 : Int), .int .i64 (0 : Int), .int .i64 (0 : Int), .slice Sl.nil.base Sl.nil.len Sl.nil.cap] l (Sl.mk (some (nw vh7)) 1 1) vh8 fun s2 vh9 =>
      ∃ (vI2 : Int → Nat → Hp → Prop) (n7 : Nat), vI2 (0 : Int) n7 vh9 ∧
      ∀ _junk : Nat → Value, ∀ t90 : Int, ∀ (n8 : Nat) (vh10 : Hp), vI2 t90 n8 vh10 →
      IfB (decide (t90 < (s2.len : Int))) (∃ a4 : Addr, s2.base = some a4 ∧ 0 ≤ t90 ∧ t90 < (s2.len : Int) ∧
        ∃ c8 : Int, ∃ c9 : Int, ∃ c10 : Int, ∃ c11 : Int, ∃ c12 : Sl, hcell vh10 ((a4.add ((t90).toNat * 5))) = some (.int .i64 c8) ∧ hcell vh10 ((a4.add ((t90).toNat * 5)).add 1) = some (.int .i64 c9) ∧ hcell vh10 ((a4.add ((t90).toNat * 5)).add 2) = some (.int .i64 c10) ∧ hcell vh10 ((a4.add ((t90).toNat * 5)).add 3) = some (.int .i64 c11) ∧ hcell vh10 ((a4.add ((t90).toNat * 5)).add 4) = some (.slice c12.base c12.len c12.cap) ∧
        let vh11 := alc vh10 [.int .i64 (0 : Int), .int .i64 (0 : Int), .int .i64 (0 : Int), .int .i64 (0 : Int), .slice Sl.nil.base Sl.nil.len Sl.nil.cap] ty_frame_Block;
        stCells (nw vh10) 0 [.int .i64 c8, .int .i64 c9, .int .i64 c10, .int .i64 c11, .slice c12.base c12.len c12.cap] vh11 fun vh12 =>
        ∃ c13 : Int, ∃ c14 : Int, ∃ c15 : Int, ∃ c16 : Int, ∃ c17 : Sl, hcell vh12 ((nw vh10)) = some (.int .i64 c13) ∧ hcell vh12 ((nw vh10).add 1) = some (.int .i64 c14) ∧ hcell vh12 ((nw vh10).add 2) = some (.int .i64 c15) ∧ hcell vh12 ((nw vh10).add 3) = some (.int .i64 c16) ∧ hcell vh12 ((nw vh10).add 4) = some (.slice c17.base c17.len c17.cap) ∧
        HCalls Try.prog fn_frame_Encode #[.agg #[.int .i64 c13, .int .i64 c14, .int .i64 c15, .int .i64 c16, .slice c17.base c17.len c17.cap]] vh12 fun r3 vh13 =>
        ∃ c18 : Sl, ∃ c19 : Int, r3 = .tuple #[.slice c18.base c18.len c18.cap, .int .i64 c19] ∧
        ∃ vJ : Int → Hp → Prop,
        (IfB (c19 == (0 : Int)) (∃ hR : Hp, Sub hR vh13 ∧
            ∃ a5 : Addr, s = some a5 ∧
            ∃ c20 : Option Addr, hcell hR a5 = some (.pointer c20) ∧
            ∃ a6 : Addr, s = some a6 ∧
            0 ≤ i ∧ i < ((3 : Nat) : Int) ∧
            ∃ c21 : Int, hcell hR ((a6.add 1).add ((i).toNat * 1)) = some (.int .i64 c21) ∧
            ∃ a7 : Addr, s = some a7 ∧
            ∃ c22 : Int, hcell hR (a7.add 4) = some (.int .i64 c22) ∧
            c22 ≠ 0 ∧
            HCalls Try.prog fn_zdev_Dev_Append #[.pointer c20, .int .i64 (iAdd .i64 c21 (iQuo .i64 t90 c22)), .slice c18.base c18.len c18.cap] vh13 fun r4 vh14 =>
            ∃ c23 : Int, ∃ c24 : Int, r4 = .tuple #[.int .i64 c23, .int .i64 c24] ∧
            Sub hR vh14 ∧
            vJ c24 vh14)
          (vJ c19 vh13)) ∧
        ∀ _junk : Nat → Value, ∀ e : Int, ∀ vh15 : Hp, vJ e vh15 →
        IfB (e != (0 : Int)) (R (.int .i64 e) vh15)
        (∃ n9, n9 < n8 ∧ vI2 (iAdd .i64 t90 (1 : Int)) n9 vh15))
      (∃ a8 : Addr, s = some a8 ∧
        ∃ c25 : Option Addr, hcell vh10 a8 = some (.pointer c25) ∧
        HCalls Try.prog fn_zdev_Dev_Flush #[.pointer c25] vh10 fun r5 vh16 =>
        ∃ c26 : Int, r5 = .int .i64 c26 ∧
        R (.int .i64 c26) vh16)))
theorem slot_Slots_write_vc {s : Option Addr} {i : Int} {n : Int} {text : Sl} {h : Hp} {R : Value → Hp → Prop} (H : vcslot_Slots_write s i n text h R) : HCalls Try.prog fn_slot_Slots_write #[.pointer s, .int .i64 i, .int .i64 n, .slice text.base text.len text.cap] h R :=
  vc_fn (annOfL [(0, [(9, .int .i64)]), (1, [(13, .sl), (14, .int .i64)]), (2, [(90, .int .i64)])] [(21, [(18, .int .i64)])] [20]) Try.func28 [.pointer s, .int .i64 i, .int .i64 n, .slice text.base text.len text.cap] (by kernel_rfl) (V := vcslot_Slots_write s i n text h R) (by kernel_rfl) H

def vcscarplaw19_SlotPlays (mid : Int) (high : Int) (sizes : Sl) (h : Hp) (R : Value → Hp → Prop) : Prop :=
  IfB (decide ((sizes.len : Int) > (30 : Int))) (HCalls Try.prog fn_scarplaw19_awake #[] h fun r vh =>
    ∃ c : Bool, r = .bool c ∧
    R (.bool c) vh)
  (IfB (decide (mid < (1 : Int))) (HCalls Try.prog fn_scarplaw19_awake #[] h fun r1 vh1 =>
      ∃ c1 : Bool, r1 = .bool c1 ∧
      R (.bool c1) vh1)
    (IfB (decide (mid ≥ high)) (HCalls Try.prog fn_scarplaw19_awake #[] h fun r2 vh2 =>
        ∃ c2 : Bool, r2 = .bool c2 ∧
        R (.bool c2) vh2)
      (IfB (decide (high > (8 : Int))) (HCalls Try.prog fn_scarplaw19_awake #[] h fun r3 vh3 =>
          ∃ c3 : Bool, r3 = .bool c3 ∧
          R (.bool c3) vh3)
        (HCalls Try.prog fn_scarplaw19_dev #[] h fun r4 vh4 =>
          ∃ c4 : Option Addr, ∃ c5 : Bool, r4 = .tuple #[.pointer c4, .bool c5] ∧
          IfB (!c5) (R (.bool false) vh4)
          (HCalls Try.prog fn_slot_Open #[.pointer c4, .int .i64 (0 : Int), .int .i64 mid, .int .i64 high] vh4 fun r5 vh5 =>
            ∃ c6 : Option Addr, ∃ c7 : Int, r5 = .tuple #[.pointer c6, .int .i64 c7] ∧
            IfB (c7 != (0 : Int)) (R (.bool false) vh5)
            (IfB (isNone? c6) (R (.bool false) vh5)
              (HCalls Try.prog fn_slot_Slots_Room #[.pointer c6] vh5 fun r6 vh6 =>
                ∃ c8 : Int, r6 = .int .i64 c8 ∧
                IfB (c8 != (iMul .i64 (40 : Int) (iSub .i64 (iMul .i64 (if (iSub .i64 high mid) < mid then (iSub .i64 high mid) else mid) (96 : Int)) (2 : Int)))) (R (.bool false) vh6)
                (∃ (vI : Option Addr → Sl → Int → Int → Nat → Hp → Prop) (n : Nat), vI c6 Sl.nil (0 : Int) (0 : Int) n vh6 ∧
                  ∀ _junk : Nat → Value, ∀ s : Option Addr, ∀ want : Sl, ∀ n3 : Int, ∀ i : Int, ∀ (n1 : Nat) (vh7 : Hp), vI s want n3 i n1 vh7 →
                  IfB (decide (i < (sizes.len : Int))) (∃ a : Addr, sizes.base = some a ∧ 0 ≤ i ∧ i < (sizes.len : Int) ∧
                    ∃ c9 : Int, hcell vh7 (a.add ((i).toNat * 1)) = some (.int .i64 c9) ∧
                    HCalls Try.prog fn_scarpalike_Round #[.int .i64 c9, .int .i64 (4000 : Int)] vh7 fun r7 vh8 =>
                    ∃ c10 : Int, r7 = .int .i64 c10 ∧
                    ∃ vJ : Int → Hp → Prop,
                    ((5 : Int) ≠ 0 ∧
                      IfB ((iRem i (5 : Int)) == (4 : Int)) (∃ a1 : Addr, sizes.base = some a1 ∧ 0 ≤ i ∧ i < (sizes.len : Int) ∧
                        ∃ c11 : Int, hcell vh8 (a1.add ((i).toNat * 1)) = some (.int .i64 c11) ∧
                        HCalls Try.prog fn_scarpalike_Round #[.int .i64 c11, .int .i64 (3 : Int)] vh8 fun r8 vh9 =>
                        ∃ c12 : Int, r8 = .int .i64 c12 ∧
                        vJ (iSub .i64 (iAdd .i64 (iMul .i64 (40 : Int) (iSub .i64 (iMul .i64 (if (iSub .i64 high mid) < mid then (iSub .i64 high mid) else mid) (96 : Int)) (2 : Int))) c12) (1 : Int)) vh9)
                      (vJ c10 vh8)) ∧
                    ∀ _junk : Nat → Value, ∀ k : Int, ∀ vh10 : Hp, vJ k vh10 →
                    HCalls Try.prog fn_scarpalike_Block #[.int .i64 k, .int .i64 i] vh10 fun r9 vh11 =>
                    ∃ c13 : Sl, r9 = .slice c13.base c13.len c13.cap ∧
                    HCalls Try.prog fn_slot_Slots_Save #[.pointer s, .slice c13.base c13.len c13.cap] vh11 fun r10 vh12 =>
                    ∃ c14 : Int, r10 = .int .i64 c14 ∧
                    ∃ vJ1 : Sl → Int → Hp → Prop,
                    (IfB (decide (k > (iMul .i64 (40 : Int) (iSub .i64 (iMul .i64 (if (iSub .i64 high mid) < mid then (iSub .i64 high mid) else mid) (96 : Int)) (2 : Int))))) (IfB (c14 != (7 : Int)) (R (.bool false) vh12)
                        (vJ1 want n3 vh12))
                      (IfB (c14 != (0 : Int)) (R (.bool false) vh12)
                        (vJ1 c13 (iAdd .i64 n3 (1 : Int)) vh12))) ∧
                    ∀ _junk : Nat → Value, ∀ want1 : Sl, ∀ n4 : Int, ∀ vh13 : Hp, vJ1 want1 n4 vh13 →
                    HCalls Try.prog fn_slot_Slots_Load #[.pointer s] vh13 fun r11 vh14 =>
                    ∃ c15 : Sl, ∃ c16 : Int, r11 = .tuple #[.slice c15.base c15.len c15.cap, .int .i64 c16] ∧
                    HCalls Try.prog fn_scarpalike_Bytes #[.slice c15.base c15.len c15.cap, .slice want1.base want1.len want1.cap] vh14 fun r12 vh15 =>
                    ∃ c17 : Bool, r12 = .bool c17 ∧
                    IfB (!c17) (R (.bool false) vh15)
                    (IfB (c16 != n4) (R (.bool false) vh15)
                      ((3 : Int) ≠ 0 ∧
                        IfB ((iRem i (3 : Int)) == (2 : Int)) (HCalls Try.prog fn_slot_Open #[.pointer c4, .int .i64 (0 : Int), .int .i64 mid, .int .i64 high] vh15 fun r13 vh16 =>
                          ∃ c18 : Option Addr, ∃ c19 : Int, r13 = .tuple #[.pointer c18, .int .i64 c19] ∧
                          IfB (c19 != (0 : Int)) (R (.bool false) vh16)
                          (IfB (isNone? c18) (R (.bool false) vh16)
                            (∃ n2, n2 < n1 ∧ vI c18 want1 n4 (iAdd .i64 i (1 : Int)) n2 vh16)))
                        (∃ n2, n2 < n1 ∧ vI s want1 n4 (iAdd .i64 i (1 : Int)) n2 vh15))))
                  (HCalls Try.prog fn_slot_Slots_Load #[.pointer s] vh7 fun r14 vh17 =>
                    ∃ c20 : Sl, ∃ c21 : Int, r14 = .tuple #[.slice c20.base c20.len c20.cap, .int .i64 c21] ∧
                    HCalls Try.prog fn_scarpalike_Bytes #[.slice c20.base c20.len c20.cap, .slice want.base want.len want.cap] vh17 fun r15 vh18 =>
                    ∃ c22 : Bool, r15 = .bool c22 ∧
                    IfB c22 (IfB (c21 == n3) (HCalls Try.prog fn_scarplaw19_awake #[] vh18 fun r16 vh19 =>
                        ∃ c23 : Bool, r16 = .bool c23 ∧
                        R (.bool c23) vh19)
                      (R (.bool false) vh18))
                    (R (.bool false) vh18))))))))))
theorem scarplaw19_SlotPlays_vc {mid : Int} {high : Int} {sizes : Sl} {h : Hp} {R : Value → Hp → Prop} (H : vcscarplaw19_SlotPlays mid high sizes h R) : HCalls Try.prog fn_scarplaw19_SlotPlays #[.int .i64 mid, .int .i64 high, .slice sizes.base sizes.len sizes.cap] h R :=
  vc_fn (annOf [(0, [(9, .ptr), (12, .sl), (13, .int .i64), (14, .int .i64)])] [(20, [(15, .int .i64)]), (29, [(12, .sl), (13, .int .i64)])]) Try.func3 [.int .i64 mid, .int .i64 high, .slice sizes.base sizes.len sizes.cap] (by kernel_rfl) (V := vcscarplaw19_SlotPlays mid high sizes h R) (by kernel_rfl) H

end Go.Proofs.Ytfelkonmhfejdaa
