/-
  Conditions of functions, printed by a program of ours; the kernel checks each against vcFunc.
-/
import Derived.Test.YtfelkonmhfejdaaRows
import Derived.Test.YtfelkonmhfejdaaVc5
namespace Go.Proofs.Ytfelkonmhfejdaa
set_option maxRecDepth 100000
set_option linter.unusedVariables false

abbrev fn_bits_Get32 : Nat := 46
abbrev fn_bits_Get64 : Nat := 45
abbrev fn_bits_Put32 : Nat := 48
abbrev fn_bits_Put64 : Nat := 51
abbrev fn_bits_get : Nat := 52
abbrev fn_bits_put : Nat := 54
abbrev fn_crc_New : Nat := 55
abbrev fn_crc_Of : Nat := 49
abbrev fn_crc_Sum_Add : Nat := 56
abbrev fn_crc_Sum_Value : Nat := 57
abbrev fn_frame_Decode : Nat := 38
abbrev fn_frame_Encode : Nat := 43
abbrev fn_frame_within : Nat := 50
abbrev fn_scarpalike_Block : Nat := 13
abbrev fn_scarpalike_Bytes : Nat := 16
abbrev fn_scarpalike_Round : Nat := 12
abbrev fn_scarplaw19_SlotApart : Nat := 5
abbrev fn_scarplaw19_SlotCrash : Nat := 7
abbrev fn_scarplaw19_SlotNothing : Nat := 4
abbrev fn_scarplaw19_SlotPlays : Nat := 3
abbrev fn_scarplaw19_SlotTurns : Nat := 6
abbrev fn_scarplaw19_awake : Nat := 8
abbrev fn_scarplaw19_dev : Nat := 9
abbrev fn_slices_Clone_sbytebyte : Nat := 29
abbrev fn_slices_Concat_sbytebyte : Nat := 47
abbrev fn_slices_ContainsFunc_ssbytesbyte : Nat := 24
abbrev fn_slices_Equal_sbytebyte : Nat := 39
abbrev fn_slices_Grow_sbytebyte : Nat := 53
abbrev fn_slices_IndexFunc_ssbytesbyte : Nat := 37
abbrev fn_slot_Open : Nat := 10
abbrev fn_slot_Open_1 : Nat := 25
abbrev fn_slot_Slots_Dead : Nat := 17
abbrev fn_slot_Slots_Load : Nat := 15
abbrev fn_slot_Slots_Room : Nat := 11
abbrev fn_slot_Slots_Save : Nat := 14
abbrev fn_slot_Slots_blocks : Nat := 23
abbrev fn_slot_Slots_write : Nat := 28
abbrev fn_slot_read : Nat := 26
abbrev fn_slot_tail : Nat := 40
abbrev fn_zdev_Dev_Append : Nat := 44
abbrev fn_zdev_Dev_Crash : Nat := 19
abbrev fn_zdev_Dev_Cut : Nat := 20
abbrev fn_zdev_Dev_Flush : Nat := 27
abbrev fn_zdev_Dev_Geometry : Nat := 22
abbrev fn_zdev_Dev_Pointer : Nat := 18
abbrev fn_zdev_Dev_Read : Nat := 36
abbrev fn_zdev_Dev_Reset : Nat := 42
abbrev fn_zdev_Dev_at : Nat := 30
abbrev fn_zdev_Dev_begin : Nat := 41
abbrev fn_zdev_Dev_gone : Nat := 31
abbrev fn_zdev_New : Nat := 21
abbrev fn_zdev_own : Nat := 34
abbrev fn_zdev_pick : Nat := 32
abbrev fn_zdev_rest : Nat := 33
abbrev fn_zdev_tear : Nat := 35
abbrev ty_uint8 : Nat := 5
abbrev ty_suint8 : Nat := 32
abbrev ty_api_Geometry : Nat := 51
abbrev ty_slot_Slots : Nat := 55
abbrev ty_pzdev_zone : Nat := 64
abbrev ty_zdev_zone : Nat := 67
abbrev ty_zdev_Dev : Nat := 70
abbrev ty_frame_Block : Nat := 78
abbrev ty_crc_Sum : Nat := 103

def vcscarplaw19_SlotApart (l : Sl) (picks : Sl) (h : Hp) (R : Value → Hp → Prop) : Prop :=
  IfB (decide ((l.len : Int) > (20 : Int))) (HCalls Try.prog fn_scarplaw19_awake #[] h fun r vh =>
    ∃ c : Bool, r = .bool c ∧
    R (.bool c) vh)
  (IfB (decide ((picks.len : Int) > (30 : Int))) (HCalls Try.prog fn_scarplaw19_awake #[] h fun r1 vh1 =>
      ∃ c1 : Bool, r1 = .bool c1 ∧
      R (.bool c1) vh1)
    (HCalls Try.prog fn_scarplaw19_dev #[] h fun r2 vh2 =>
      ∃ c2 : Option Addr, ∃ c3 : Bool, r2 = .tuple #[.pointer c2, .bool c3] ∧
      IfB (!c3) (R (.bool false) vh2)
      (HCalls Try.prog fn_slot_Open #[.pointer c2, .int .i64 (0 : Int), .int .i64 (2 : Int), .int .i64 (4 : Int)] vh2 fun r3 vh3 =>
        ∃ c4 : Option Addr, ∃ c5 : Int, r3 = .tuple #[.pointer c4, .int .i64 c5] ∧
        HCalls Try.prog fn_slot_Open #[.pointer c2, .int .i64 (5 : Int), .int .i64 (6 : Int), .int .i64 (7 : Int)] vh3 fun r4 vh4 =>
        ∃ c6 : Option Addr, ∃ c7 : Int, r4 = .tuple #[.pointer c6, .int .i64 c7] ∧
        IfB (c5 != (0 : Int)) (R (.bool false) vh4)
        (IfB (c7 != (0 : Int)) (R (.bool false) vh4)
          (IfB (isNone? c4) (R (.bool false) vh4)
            (IfB (isNone? c6) (R (.bool false) vh4)
              (∃ (vI : Sl → Sl → Int → Int → Int → Nat → Hp → Prop) (n : Nat), vI Sl.nil Sl.nil (0 : Int) (0 : Int) (0 : Int) n vh4 ∧
                ∀ _junk : Nat → Value, ∀ x : Sl, ∀ y : Sl, ∀ n3 : Int, ∀ vm : Int, ∀ i : Int, ∀ (n1 : Nat) (vh5 : Hp), vI x y n3 vm i n1 vh5 →
                IfB (decide (i < (l.len : Int))) (∃ a : Addr, l.base = some a ∧ 0 ≤ i ∧ i < (l.len : Int) ∧
                  ∃ c8 : Int, hcell vh5 (a.add ((i).toNat * 1)) = some (.int .i64 c8) ∧
                  HCalls Try.prog fn_scarpalike_Round #[.int .i64 c8, .int .i64 (2000 : Int)] vh5 fun r5 vh6 =>
                  ∃ c9 : Int, r5 = .int .i64 c9 ∧
                  HCalls Try.prog fn_scarpalike_Block #[.int .i64 c9, .int .i64 i] vh6 fun r6 vh7 =>
                  ∃ c10 : Sl, r6 = .slice c10.base c10.len c10.cap ∧
                  (2 : Int) ≠ 0 ∧
                  IfB ((iRem i (2 : Int)) == (0 : Int)) (HCalls Try.prog fn_slot_Slots_Save #[.pointer c4, .slice c10.base c10.len c10.cap] vh7 fun r7 vh8 =>
                    ∃ c11 : Int, r7 = .int .i64 c11 ∧
                    IfB (c11 != (0 : Int)) (R (.bool false) vh8)
                    (∃ n2, n2 < n1 ∧ vI c10 y (iAdd .i64 n3 (1 : Int)) vm (iAdd .i64 i (1 : Int)) n2 vh8))
                  (HCalls Try.prog fn_slot_Slots_Save #[.pointer c6, .slice c10.base c10.len c10.cap] vh7 fun r8 vh9 =>
                    ∃ c12 : Int, r8 = .int .i64 c12 ∧
                    IfB (c12 != (0 : Int)) (R (.bool false) vh9)
                    (∃ n2, n2 < n1 ∧ vI x c10 n3 (iAdd .i64 vm (1 : Int)) (iAdd .i64 i (1 : Int)) n2 vh9)))
                (HCalls Try.prog fn_zdev_Dev_Pointer #[.pointer c2, .int .i64 (4 : Int)] vh5 fun r9 vh10 =>
                  ∃ c13 : Int, ∃ c14 : Int, r9 = .tuple #[.int .i64 c13, .int .i64 c14] ∧
                  HCalls Try.prog fn_zdev_Dev_Pointer #[.pointer c2, .int .i64 (7 : Int)] vh10 fun r10 vh11 =>
                  ∃ c15 : Int, ∃ c16 : Int, r10 = .tuple #[.int .i64 c15, .int .i64 c16] ∧
                  HCalls Try.prog fn_zdev_Dev_Crash #[.pointer c2, .slice picks.base picks.len picks.cap, .slice picks.base picks.len picks.cap] vh11 fun r11 vh12 =>
                  ∃ c17 : Option Addr, r11 = .pointer c17 ∧
                  IfB (c14 != (0 : Int)) (R (.bool false) vh12)
                  (IfB (c16 != (0 : Int)) (R (.bool false) vh12)
                    (IfB (c13 != (0 : Int)) (R (.bool false) vh12)
                      (IfB (c15 != (0 : Int)) (R (.bool false) vh12)
                        (IfB (isNone? c17) (R (.bool false) vh12)
                          (HCalls Try.prog fn_slot_Open #[.pointer c17, .int .i64 (0 : Int), .int .i64 (2 : Int), .int .i64 (4 : Int)] vh12 fun r12 vh13 =>
                            ∃ c18 : Option Addr, ∃ c19 : Int, r12 = .tuple #[.pointer c18, .int .i64 c19] ∧
                            HCalls Try.prog fn_slot_Open #[.pointer c17, .int .i64 (5 : Int), .int .i64 (6 : Int), .int .i64 (7 : Int)] vh13 fun r13 vh14 =>
                            ∃ c20 : Option Addr, ∃ c21 : Int, r13 = .tuple #[.pointer c20, .int .i64 c21] ∧
                            IfB (c19 != (0 : Int)) (R (.bool false) vh14)
                            (IfB (c21 != (0 : Int)) (R (.bool false) vh14)
                              (IfB (isNone? c18) (R (.bool false) vh14)
                                (IfB (isNone? c20) (R (.bool false) vh14)
                                  (HCalls Try.prog fn_slot_Slots_Load #[.pointer c18] vh14 fun r14 vh15 =>
                                    ∃ c22 : Sl, ∃ c23 : Int, r14 = .tuple #[.slice c22.base c22.len c22.cap, .int .i64 c23] ∧
                                    HCalls Try.prog fn_slot_Slots_Load #[.pointer c20] vh15 fun r15 vh16 =>
                                    ∃ c24 : Sl, ∃ c25 : Int, r15 = .tuple #[.slice c24.base c24.len c24.cap, .int .i64 c25] ∧
                                    HCalls Try.prog fn_scarpalike_Bytes #[.slice c22.base c22.len c22.cap, .slice x.base x.len x.cap] vh16 fun r16 vh17 =>
                                    ∃ c26 : Bool, r16 = .bool c26 ∧
                                    IfB c26 (IfB (c23 == n3) (HCalls Try.prog fn_scarpalike_Bytes #[.slice c24.base c24.len c24.cap, .slice y.base y.len y.cap] vh17 fun r17 vh18 =>
                                        ∃ c27 : Bool, r17 = .bool c27 ∧
                                        IfB c27 (IfB (c25 == vm) (HCalls Try.prog fn_scarplaw19_awake #[] vh18 fun r18 vh19 =>
                                            ∃ c28 : Bool, r18 = .bool c28 ∧
                                            R (.bool c28) vh19)
                                          (R (.bool false) vh18))
                                        (R (.bool false) vh18))
                                      (R (.bool false) vh17))
                                    (R (.bool false) vh17))))))))))))))))))
theorem scarplaw19_SlotApart_vc {l : Sl} {picks : Sl} {h : Hp} {R : Value → Hp → Prop} (H : vcscarplaw19_SlotApart l picks h R) : HCalls Try.prog fn_scarplaw19_SlotApart #[.slice l.base l.len l.cap, .slice picks.base picks.len picks.cap] h R :=
  vc_fn (annOf [(0, [(11, .sl), (12, .sl), (13, .int .i64), (14, .int .i64), (15, .int .i64)])] []) Try.func5 [.slice l.base l.len l.cap, .slice picks.base picks.len picks.cap] (by kernel_rfl) (V := vcscarplaw19_SlotApart l picks h R) (by kernel_rfl) H

def vcscarplaw19_SlotTurns (n : Int) (sizes : Sl) (picks : Sl) (torn : Sl) (h : Hp) (R : Value → Hp → Prop) : Prop :=
  IfB (decide (n < (0 : Int))) (HCalls Try.prog fn_scarplaw19_awake #[] h fun r vh =>
    ∃ c : Bool, r = .bool c ∧
    R (.bool c) vh)
  (IfB (decide (n > (20 : Int))) (HCalls Try.prog fn_scarplaw19_awake #[] h fun r1 vh1 =>
      ∃ c1 : Bool, r1 = .bool c1 ∧
      R (.bool c1) vh1)
    (IfB (decide ((sizes.len : Int) > (20 : Int))) (HCalls Try.prog fn_scarplaw19_awake #[] h fun r2 vh2 =>
        ∃ c2 : Bool, r2 = .bool c2 ∧
        R (.bool c2) vh2)
      (IfB (decide ((picks.len : Int) > (30 : Int))) (HCalls Try.prog fn_scarplaw19_awake #[] h fun r3 vh3 =>
          ∃ c3 : Bool, r3 = .bool c3 ∧
          R (.bool c3) vh3)
        (IfB (decide ((torn.len : Int) > (30 : Int))) (HCalls Try.prog fn_scarplaw19_awake #[] h fun r4 vh4 =>
            ∃ c4 : Bool, r4 = .bool c4 ∧
            R (.bool c4) vh4)
          (HCalls Try.prog fn_scarplaw19_dev #[] h fun r5 vh5 =>
            ∃ c5 : Option Addr, ∃ c6 : Bool, r5 = .tuple #[.pointer c5, .bool c6] ∧
            IfB (!c6) (R (.bool false) vh5)
            (∃ (vI : Option Addr → Sl → Int → Nat → Hp → Prop) (n1 : Nat), vI c5 Sl.nil (0 : Int) n1 vh5 ∧
              ∀ _junk : Nat → Value, ∀ d : Option Addr, ∀ want : Sl, ∀ i : Int, ∀ (n2 : Nat) (vh6 : Hp), vI d want i n2 vh6 →
              IfB (decide (i < n)) (HCalls Try.prog fn_slot_Open #[.pointer d, .int .i64 (1 : Int), .int .i64 (2 : Int), .int .i64 (3 : Int)] vh6 fun r6 vh7 =>
                ∃ c7 : Option Addr, ∃ c8 : Int, r6 = .tuple #[.pointer c7, .int .i64 c8] ∧
                IfB (c8 != (0 : Int)) (R (.bool false) vh7)
                (IfB (isNone? c7) (R (.bool false) vh7)
                  (HCalls Try.prog fn_slot_Slots_Load #[.pointer c7] vh7 fun r7 vh8 =>
                    ∃ c9 : Sl, ∃ c10 : Int, r7 = .tuple #[.slice c9.base c9.len c9.cap, .int .i64 c10] ∧
                    IfB (c10 != i) (R (.bool false) vh8)
                    (HCalls Try.prog fn_scarpalike_Bytes #[.slice c9.base c9.len c9.cap, .slice want.base want.len want.cap] vh8 fun r8 vh9 =>
                      ∃ c11 : Bool, r8 = .bool c11 ∧
                      IfB (!c11) (R (.bool false) vh9)
                      (IfB (decide (i < (sizes.len : Int))) (∃ a : Addr, sizes.base = some a ∧ 0 ≤ i ∧ i < (sizes.len : Int) ∧
                          ∃ c12 : Int, hcell vh9 (a.add ((i).toNat * 1)) = some (.int .i64 c12) ∧
                          HCalls Try.prog fn_scarpalike_Round #[.int .i64 c12, .int .i64 (3000 : Int)] vh9 fun r9 vh10 =>
                          ∃ c13 : Int, r9 = .int .i64 c13 ∧
                          HCalls Try.prog fn_scarpalike_Block #[.int .i64 c13, .int .i64 i] vh10 fun r10 vh11 =>
                          ∃ c14 : Sl, r10 = .slice c14.base c14.len c14.cap ∧
                          HCalls Try.prog fn_slot_Slots_Save #[.pointer c7, .slice c14.base c14.len c14.cap] vh11 fun r11 vh12 =>
                          ∃ c15 : Int, r11 = .int .i64 c15 ∧
                          IfB (c15 != (0 : Int)) (R (.bool false) vh12)
                          (HCalls Try.prog fn_zdev_Dev_Crash #[.pointer d, .slice picks.base picks.len picks.cap, .slice torn.base torn.len torn.cap] vh12 fun r12 vh13 =>
                            ∃ c16 : Option Addr, r12 = .pointer c16 ∧
                            ∃ n3, n3 < n2 ∧ vI c16 c14 (iAdd .i64 i (1 : Int)) n3 vh13))
                        (HCalls Try.prog fn_scarpalike_Block #[.int .i64 i, .int .i64 i] vh9 fun r13 vh14 =>
                          ∃ c17 : Sl, r13 = .slice c17.base c17.len c17.cap ∧
                          HCalls Try.prog fn_slot_Slots_Save #[.pointer c7, .slice c17.base c17.len c17.cap] vh14 fun r14 vh15 =>
                          ∃ c18 : Int, r14 = .int .i64 c18 ∧
                          IfB (c18 != (0 : Int)) (R (.bool false) vh15)
                          (HCalls Try.prog fn_zdev_Dev_Crash #[.pointer d, .slice picks.base picks.len picks.cap, .slice torn.base torn.len torn.cap] vh15 fun r15 vh16 =>
                            ∃ c19 : Option Addr, r15 = .pointer c19 ∧
                            ∃ n3, n3 < n2 ∧ vI c19 c17 (iAdd .i64 i (1 : Int)) n3 vh16)))))))
              (HCalls Try.prog fn_slot_Open #[.pointer d, .int .i64 (1 : Int), .int .i64 (2 : Int), .int .i64 (3 : Int)] vh6 fun r16 vh17 =>
                ∃ c20 : Option Addr, ∃ c21 : Int, r16 = .tuple #[.pointer c20, .int .i64 c21] ∧
                IfB (c21 != (0 : Int)) (R (.bool false) vh17)
                (IfB (isNone? c20) (R (.bool false) vh17)
                  (HCalls Try.prog fn_slot_Slots_Load #[.pointer c20] vh17 fun r17 vh18 =>
                    ∃ c22 : Sl, ∃ c23 : Int, r17 = .tuple #[.slice c22.base c22.len c22.cap, .int .i64 c23] ∧
                    IfB (c23 == n) (HCalls Try.prog fn_scarpalike_Bytes #[.slice c22.base c22.len c22.cap, .slice want.base want.len want.cap] vh18 fun r18 vh19 =>
                      ∃ c24 : Bool, r18 = .bool c24 ∧
                      IfB c24 (HCalls Try.prog fn_scarplaw19_awake #[] vh19 fun r19 vh20 =>
                        ∃ c25 : Bool, r19 = .bool c25 ∧
                        R (.bool c25) vh20)
                      (R (.bool false) vh19))
                    (R (.bool false) vh18))))))))))
theorem scarplaw19_SlotTurns_vc {n : Int} {sizes : Sl} {picks : Sl} {torn : Sl} {h : Hp} {R : Value → Hp → Prop} (H : vcscarplaw19_SlotTurns n sizes picks torn h R) : HCalls Try.prog fn_scarplaw19_SlotTurns #[.int .i64 n, .slice sizes.base sizes.len sizes.cap, .slice picks.base picks.len picks.cap, .slice torn.base torn.len torn.cap] h R :=
  vc_fn (annOf [(0, [(9, .ptr), (11, .sl), (12, .int .i64)])] []) Try.func6 [.int .i64 n, .slice sizes.base sizes.len sizes.cap, .slice picks.base picks.len picks.cap, .slice torn.base torn.len torn.cap] (by kernel_rfl) (V := vcscarplaw19_SlotTurns n sizes picks torn h R) (by kernel_rfl) H

def vcscarplaw19_awake (h : Hp) (R : Value → Hp → Prop) : Prop :=
  HCalls Try.prog fn_scarplaw19_dev #[] h fun r vh =>
  ∃ c : Option Addr, ∃ c1 : Bool, r = .tuple #[.pointer c, .bool c1] ∧
  IfB (!c1) (R (.bool false) vh)
  (HCalls Try.prog fn_slot_Open #[.pointer c, .int .i64 (0 : Int), .int .i64 (1 : Int), .int .i64 (2 : Int)] vh fun r1 vh1 =>
    ∃ c2 : Option Addr, ∃ c3 : Int, r1 = .tuple #[.pointer c2, .int .i64 c3] ∧
    IfB (c3 != (0 : Int)) (R (.bool false) vh1)
    (IfB (isNone? c2) (R (.bool false) vh1)
      (let vh2 := alc vh1 [.int .u8 (97 : Int)] ty_uint8;
        ∃ a : Addr, (Sl.mk (some (nw vh1)) 1 1).base = some a ∧
        let vh3 := hstr vh2 a;
        HCalls Try.prog fn_slot_Slots_Save #[.pointer c2, .slice (Sl.mk (some (nw vh1)) 1 1).base (Sl.mk (some (nw vh1)) 1 1).len (Sl.mk (some (nw vh1)) 1 1).cap] vh3 fun r2 vh4 =>
        ∃ c4 : Int, r2 = .int .i64 c4 ∧
        IfB (c4 != (0 : Int)) (R (.bool false) vh4)
        (let vh5 := alc vh4 [.int .u8 (98 : Int)] ty_uint8;
          ∃ a1 : Addr, (Sl.mk (some (nw vh4)) 1 1).base = some a1 ∧
          let vh6 := hstr vh5 a1;
          HCalls Try.prog fn_slot_Slots_Save #[.pointer c2, .slice (Sl.mk (some (nw vh4)) 1 1).base (Sl.mk (some (nw vh4)) 1 1).len (Sl.mk (some (nw vh4)) 1 1).cap] vh6 fun r3 vh7 =>
          ∃ c5 : Int, r3 = .int .i64 c5 ∧
          IfB (c5 != (0 : Int)) (R (.bool false) vh7)
          (HCalls Try.prog fn_zdev_Dev_Crash #[.pointer c, .slice Sl.nil.base Sl.nil.len Sl.nil.cap, .slice Sl.nil.base Sl.nil.len Sl.nil.cap] vh7 fun r4 vh8 =>
            ∃ c6 : Option Addr, r4 = .pointer c6 ∧
            HCalls Try.prog fn_slot_Open #[.pointer c6, .int .i64 (0 : Int), .int .i64 (1 : Int), .int .i64 (2 : Int)] vh8 fun r5 vh9 =>
            ∃ c7 : Option Addr, ∃ c8 : Int, r5 = .tuple #[.pointer c7, .int .i64 c8] ∧
            IfB (c8 != (0 : Int)) (R (.bool false) vh9)
            (IfB (isNone? c7) (R (.bool false) vh9)
              (HCalls Try.prog fn_slot_Slots_Load #[.pointer c7] vh9 fun r6 vh10 =>
                ∃ c9 : Sl, ∃ c10 : Int, r6 = .tuple #[.slice c9.base c9.len c9.cap, .int .i64 c10] ∧
                ∃ bs : List UInt8, bs.length = c9.len ∧ RdC vh10 c9.base (bs.map fun x => .int .u8 (x.toNat : Int)) ∧
                IfB ((ByteArray.mk bs.toArray).toList == (ByteArray.mk #[98]).toList) (IfB (c10 == (2 : Int)) (HCalls Try.prog fn_slot_Slots_Room #[.pointer c2] vh10 fun r7 vh11 =>
                    ∃ c11 : Int, r7 = .int .i64 c11 ∧
                    R (.bool (c11 == (3760 : Int))) vh11)
                  (R (.bool false) vh10))
                (R (.bool false) vh10))))))))
theorem scarplaw19_awake_vc {h : Hp} {R : Value → Hp → Prop} (H : vcscarplaw19_awake h R) : HCalls Try.prog fn_scarplaw19_awake #[] h R :=
  vc_fn (annOf [] []) Try.func8 [] (by kernel_rfl) (V := vcscarplaw19_awake h R) (by kernel_rfl) H

def vcscarplaw19_dev (h : Hp) (R : Value → Hp → Prop) : Prop :=
  HCalls Try.prog fn_zdev_New #[.agg #[.int .i64 (8 : Int), .int .i64 (96 : Int)]] h fun r vh =>
  ∃ c : Option Addr, ∃ c1 : Int, r = .tuple #[.pointer c, .int .i64 c1] ∧
  IfB (c1 == (0 : Int)) (R (.tuple #[.pointer c, .bool (!isNone? c)]) vh)
  (R (.tuple #[.pointer c, .bool false]) vh)
theorem scarplaw19_dev_vc {h : Hp} {R : Value → Hp → Prop} (H : vcscarplaw19_dev h R) : HCalls Try.prog fn_scarplaw19_dev #[] h R :=
  vc_fn (annOf [] []) Try.func9 [] (by kernel_rfl) (V := vcscarplaw19_dev h R) (by kernel_rfl) H

def vcslot_Open (d : Option Addr) (low : Int) (mid : Int) (high : Int) (h : Hp) (R : Value → Hp → Prop) : Prop :=
  HCalls Try.prog fn_zdev_Dev_Geometry #[.pointer d] h fun r vh =>
  ∃ c : Int, ∃ c1 : Int, r = .agg #[.int .i64 c, .int .i64 c1] ∧
  let vh1 := alc vh [.int .i64 (0 : Int), .int .i64 (0 : Int)] ty_api_Geometry;
  stCells (nw vh) 0 [.int .i64 c, .int .i64 c1] vh1 fun vh2 =>
  ∃ c2 : Int, hcell vh2 (nw vh) = some (.int .i64 c2) ∧
  IfB (c2 == (0 : Int)) (R (.tuple #[.pointer none, .int .i64 (1 : Int)]) vh2)
  (IfB (decide (low < (0 : Int))) (R (.tuple #[.pointer none, .int .i64 (1 : Int)]) vh2)
    (IfB (decide (mid ≤ low)) (R (.tuple #[.pointer none, .int .i64 (1 : Int)]) vh2)
      (IfB (decide (high ≤ mid)) (R (.tuple #[.pointer none, .int .i64 (1 : Int)]) vh2)
        (∃ c3 : Int, hcell vh2 (nw vh) = some (.int .i64 c3) ∧
          IfB (decide (high > c3)) (R (.tuple #[.pointer none, .int .i64 (1 : Int)]) vh2)
          (∃ c4 : Int, hcell vh2 ((nw vh).add 1) = some (.int .i64 c4) ∧
            let vh3 := alc vh2 [.pointer d, .int .i64 low, .int .i64 mid, .int .i64 high, .int .i64 c4, .int .i64 (1 : Int), .slice Sl.nil.base Sl.nil.len Sl.nil.cap, .int .i64 (0 : Int), .bool false] ty_slot_Slots;
            ∃ (vI : Int → Nat → Hp → Prop) (n : Nat), vI (0 : Int) n vh3 ∧
            ∀ _junk : Nat → Value, ∀ t51 : Int, ∀ (n1 : Nat) (vh4 : Hp), vI t51 n1 vh4 →
            IfB (decide (t51 < (2 : Int))) (HCalls Try.prog fn_slot_Slots_blocks #[.pointer (some (nw vh2)), .int .i64 t51] vh4 fun r1 vh5 =>
              ∃ c5 : Sl, r1 = .slice c5.base c5.len c5.cap ∧
              HCalls Try.prog fn_slices_ContainsFunc_ssbytesbyte #[.slice c5.base c5.len c5.cap, .func (.func 25) #[] #[]] vh5 fun r2 vh6 =>
              ∃ c6 : Bool, r2 = .bool c6 ∧
              IfB c6 (R (.tuple #[.pointer none, .int .i64 (13 : Int)]) vh6)
              (HCalls Try.prog fn_slot_read #[.slice c5.base c5.len c5.cap] vh6 fun r3 vh7 =>
                ∃ c7 : Sl, ∃ c8 : Int, r3 = .tuple #[.slice c7.base c7.len c7.cap, .int .i64 c8] ∧
                ∃ a : Addr, (some (nw vh2)) = some a ∧
                ∃ c9 : Int, hcell vh7 (a.add 7) = some (.int .i64 c9) ∧
                IfB (decide (c8 > c9)) (∃ a1 : Addr, (some (nw vh2)) = some a1 ∧
                  StOk vh7 (a1.add 5) ∧
                  Lt (hset vh7 (a1.add 5) (.int .i64 t51)) fun vh8 =>
                  ∃ a2 : Addr, (some (nw vh2)) = some a2 ∧
                  StOk vh8 (a2.add 6) ∧
                  Lt (hset vh8 (a2.add 6) (.slice c7.base c7.len c7.cap)) fun vh9 =>
                  ∃ a3 : Addr, (some (nw vh2)) = some a3 ∧
                  StOk vh9 (a3.add 7) ∧
                  Lt (hset vh9 (a3.add 7) (.int .i64 c8)) fun vh10 =>
                  ∃ n2, n2 < n1 ∧ vI (iAdd .i64 t51 (1 : Int)) n2 vh10)
                (∃ n2, n2 < n1 ∧ vI (iAdd .i64 t51 (1 : Int)) n2 vh7)))
            (HCalls Try.prog fn_zdev_Dev_Flush #[.pointer d] vh4 fun r4 vh11 =>
              ∃ c10 : Int, r4 = .int .i64 c10 ∧
              IfB (c10 != (0 : Int)) (R (.tuple #[.pointer none, .int .i64 c10]) vh11)
              (R (.tuple #[.pointer (some (nw vh2)), .int .i64 (0 : Int)]) vh11)))))))
theorem slot_Open_vc {d : Option Addr} {low : Int} {mid : Int} {high : Int} {h : Hp} {R : Value → Hp → Prop} (H : vcslot_Open d low mid high h R) : HCalls Try.prog fn_slot_Open #[.pointer d, .int .i64 low, .int .i64 mid, .int .i64 high] h R :=
  vc_fn (annOf [(0, [(51, .int .i64)])] []) Try.func10 [.pointer d, .int .i64 low, .int .i64 mid, .int .i64 high] (by kernel_rfl) (V := vcslot_Open d low mid high h R) (by kernel_rfl) H

def vcslot_Slots_Room (s : Option Addr) (h : Hp) (R : Value → Hp → Prop) : Prop :=
  IfB (isNone? s) (R (.int .i64 (0 : Int)) h)
  (∃ a : Addr, s = some a ∧
    ∃ c : Option Addr, hcell h a = some (.pointer c) ∧
    IfB (isNone? c) (R (.int .i64 (0 : Int)) h)
    (∃ a1 : Addr, s = some a1 ∧
      0 ≤ (1 : Int) ∧ (1 : Int) < ((3 : Nat) : Int) ∧
      ∃ c1 : Int, hcell h ((a1.add 1).add (((1 : Int)).toNat * 1)) = some (.int .i64 c1) ∧
      ∃ a2 : Addr, s = some a2 ∧
      0 ≤ (0 : Int) ∧ (0 : Int) < ((3 : Nat) : Int) ∧
      ∃ c2 : Int, hcell h ((a2.add 1).add (((0 : Int)).toNat * 1)) = some (.int .i64 c2) ∧
      ∃ a3 : Addr, s = some a3 ∧
      0 ≤ (2 : Int) ∧ (2 : Int) < ((3 : Nat) : Int) ∧
      ∃ c3 : Int, hcell h ((a3.add 1).add (((2 : Int)).toNat * 1)) = some (.int .i64 c3) ∧
      ∃ a4 : Addr, s = some a4 ∧
      0 ≤ (1 : Int) ∧ (1 : Int) < ((3 : Nat) : Int) ∧
      ∃ c4 : Int, hcell h ((a4.add 1).add (((1 : Int)).toNat * 1)) = some (.int .i64 c4) ∧
      ∃ a5 : Addr, s = some a5 ∧
      ∃ c5 : Int, hcell h (a5.add 4) = some (.int .i64 c5) ∧
      R (.int .i64 (iMul .i64 (40 : Int) (iSub .i64 (iMul .i64 (if (iSub .i64 c3 c4) < (iSub .i64 c1 c2) then (iSub .i64 c3 c4) else (iSub .i64 c1 c2)) c5) (2 : Int)))) h))
theorem slot_Slots_Room_vc {s : Option Addr} {h : Hp} {R : Value → Hp → Prop} (H : vcslot_Slots_Room s h R) : HCalls Try.prog fn_slot_Slots_Room #[.pointer s] h R :=
  vc_fn (annOf [] []) Try.func11 [.pointer s] (by kernel_rfl) (V := vcslot_Slots_Room s h R) (by kernel_rfl) H

def vcscarpalike_Round (k : Int) (n : Int) (h : Hp) (R : Value → Hp → Prop) : Prop :=
  n ≠ 0 ∧
  IfB (decide ((iRem k n) < (0 : Int))) (R (.int .i64 (iAdd .i64 (iRem k n) n)) h)
  (R (.int .i64 (iRem k n)) h)
theorem scarpalike_Round_vc {k : Int} {n : Int} {h : Hp} {R : Value → Hp → Prop} (H : vcscarpalike_Round k n h R) : HCalls Try.prog fn_scarpalike_Round #[.int .i64 k, .int .i64 n] h R :=
  vc_fn (annOf [] []) Try.func12 [.int .i64 k, .int .i64 n] (by kernel_rfl) (V := vcscarpalike_Round k n h R) (by kernel_rfl) H

def vcscarpalike_Block (n : Int) (k : Int) (h : Hp) (R : Value → Hp → Prop) : Prop :=
  MkC ty_uint8 1 #[.int .u8 (0 : Int)] (if n < (0 : Int) then (0 : Int) else n) (if n < (0 : Int) then (0 : Int) else n) h fun s vh =>
  ∃ (vI : Int → Nat → Hp → Prop) (n1 : Nat), vI (0 : Int) n1 vh ∧
  ∀ _junk : Nat → Value, ∀ i : Int, ∀ (n2 : Nat) (vh1 : Hp), vI i n2 vh1 →
  IfB (decide (i < (s.len : Int))) (HCalls Try.prog fn_scarpalike_Round #[.int .i64 (iAdd .i64 (iAdd .i64 (iMul .i64 i i) (iMul .i64 k (7 : Int))) (1 : Int)), .int .i64 (251 : Int)] vh1 fun r vh2 =>
    ∃ c : Int, r = .int .i64 c ∧
    ∃ a : Addr, s.base = some a ∧ 0 ≤ i ∧ i < (s.len : Int) ∧
    StOk vh2 (a.add ((i).toNat * 1)) ∧
    Lt (hset vh2 (a.add ((i).toNat * 1)) (.int .u8 (iConv .u8 c))) fun vh3 =>
    ∃ n3, n3 < n2 ∧ vI (iAdd .i64 i (1 : Int)) n3 vh3)
  (R (.slice s.base s.len s.cap) vh1)
theorem scarpalike_Block_vc {n : Int} {k : Int} {h : Hp} {R : Value → Hp → Prop} (H : vcscarpalike_Block n k h R) : HCalls Try.prog fn_scarpalike_Block #[.int .i64 n, .int .i64 k] h R :=
  vc_fn (annOf [(0, [(6, .int .i64)])] []) Try.func13 [.int .i64 n, .int .i64 k] (by kernel_rfl) (V := vcscarpalike_Block n k h R) (by kernel_rfl) H

def vcslot_Slots_Load (s : Option Addr) (h : Hp) (R : Value → Hp → Prop) : Prop :=
  IfB (isNone? s) (R (.tuple #[.slice Sl.nil.base Sl.nil.len Sl.nil.cap, .int .i64 (0 : Int)]) h)
  (∃ a : Addr, s = some a ∧
    ∃ c : Sl, hcell h (a.add 6) = some (.slice c.base c.len c.cap) ∧
    ∃ a1 : Addr, s = some a1 ∧
    ∃ c1 : Int, hcell h (a1.add 7) = some (.int .i64 c1) ∧
    HCalls Try.prog fn_slices_Clone_sbytebyte #[.slice c.base c.len c.cap] h fun r vh =>
    ∃ c2 : Sl, r = .slice c2.base c2.len c2.cap ∧
    Ext h vh ∧
    R (.tuple #[.slice c2.base c2.len c2.cap, .int .i64 c1]) vh)
theorem slot_Slots_Load_vc {s : Option Addr} {h : Hp} {R : Value → Hp → Prop} (H : vcslot_Slots_Load s h R) : HCalls Try.prog fn_slot_Slots_Load #[.pointer s] h R :=
  vc_fn (annOf [] []) Try.func15 [.pointer s] (by kernel_rfl) (V := vcslot_Slots_Load s h R) (by kernel_rfl) H

def vcscarpalike_Bytes (a : Sl) (b : Sl) (h : Hp) (R : Value → Hp → Prop) : Prop :=
  IfB ((a.len : Int) != (b.len : Int)) (R (.bool false) h)
  (∃ (vI : Int → Nat → Hp → Prop) (n : Nat), vI (0 : Int) n h ∧
    ∀ _junk : Nat → Value, ∀ i : Int, ∀ (n1 : Nat) (vh : Hp), vI i n1 vh →
    IfB (decide (i < (a.len : Int))) (∃ a1 : Addr, a.base = some a1 ∧ 0 ≤ i ∧ i < (a.len : Int) ∧
      ∃ c : Int, hcell vh (a1.add ((i).toNat * 1)) = some (.int .u8 c) ∧
      ∃ a2 : Addr, b.base = some a2 ∧ 0 ≤ i ∧ i < (b.len : Int) ∧
      ∃ c1 : Int, hcell vh (a2.add ((i).toNat * 1)) = some (.int .u8 c1) ∧
      IfB (c != c1) (R (.bool false) vh)
      (∃ n2, n2 < n1 ∧ vI (iAdd .i64 i (1 : Int)) n2 vh))
    (R (.bool true) vh))
theorem scarpalike_Bytes_vc {a : Sl} {b : Sl} {h : Hp} {R : Value → Hp → Prop} (H : vcscarpalike_Bytes a b h R) : HCalls Try.prog fn_scarpalike_Bytes #[.slice a.base a.len a.cap, .slice b.base b.len b.cap] h R :=
  vc_fn (annOf [(0, [(5, .int .i64)])] []) Try.func16 [.slice a.base a.len a.cap, .slice b.base b.len b.cap] (by kernel_rfl) (V := vcscarpalike_Bytes a b h R) (by kernel_rfl) H

def vcslot_Slots_Dead (s : Option Addr) (h : Hp) (R : Value → Hp → Prop) : Prop :=
  IfB (isNone? s) (R (.bool true) h)
  (∃ a : Addr, s = some a ∧
    ∃ c : Option Addr, hcell h a = some (.pointer c) ∧
    IfB (isNone? c) (R (.bool true) h)
    (∃ a1 : Addr, s = some a1 ∧
      ∃ c1 : Bool, hcell h (a1.add 8) = some (.bool c1) ∧
      R (.bool c1) h))
theorem slot_Slots_Dead_vc {s : Option Addr} {h : Hp} {R : Value → Hp → Prop} (H : vcslot_Slots_Dead s h R) : HCalls Try.prog fn_slot_Slots_Dead #[.pointer s] h R :=
  vc_fn (annOf [] []) Try.func17 [.pointer s] (by kernel_rfl) (V := vcslot_Slots_Dead s h R) (by kernel_rfl) H

def vczdev_Dev_Pointer (d : Option Addr) (i : Int) (h : Hp) (R : Value → Hp → Prop) : Prop :=
  HCalls Try.prog fn_zdev_Dev_at #[.pointer d, .int .i64 i] h fun r vh =>
  ∃ c : Option Addr, r = .pointer c ∧
  IfB (isNone? c) (R (.tuple #[.int .i64 (0 : Int), .int .i64 (1 : Int)]) vh)
  (∃ a : Addr, c = some a ∧
    ∃ c1 : Sl, hcell vh a = some (.slice c1.base c1.len c1.cap) ∧
    R (.tuple #[.int .i64 (c1.len : Int), .int .i64 (0 : Int)]) vh)
theorem zdev_Dev_Pointer_vc {d : Option Addr} {i : Int} {h : Hp} {R : Value → Hp → Prop} (H : vczdev_Dev_Pointer d i h R) : HCalls Try.prog fn_zdev_Dev_Pointer #[.pointer d, .int .i64 i] h R :=
  vc_fn (annOf [] []) Try.func18 [.pointer d, .int .i64 i] (by kernel_rfl) (V := vczdev_Dev_Pointer d i h R) (by kernel_rfl) H

def vczdev_Dev_Cut (d : Option Addr) (n : Int) (h : Hp) (R : Value → Hp → Prop) : Prop :=
  HCalls Try.prog fn_zdev_Dev_gone #[.pointer d] h fun r vh =>
  ∃ c : Bool, r = .bool c ∧
  IfB (!c) (∃ a : Addr, d = some a ∧
    StOk vh (a.add 5) ∧
    Lt (hset vh (a.add 5) (.bool true)) fun vh1 =>
    ∃ a1 : Addr, d = some a1 ∧
    StOk vh1 (a1.add 6) ∧
    Lt (hset vh1 (a1.add 6) (.int .i64 (if n < (0 : Int) then (0 : Int) else n))) fun vh2 =>
    R (.tuple #[]) vh2)
  (R (.tuple #[]) vh)
theorem zdev_Dev_Cut_vc {d : Option Addr} {n : Int} {h : Hp} {R : Value → Hp → Prop} (H : vczdev_Dev_Cut d n h R) : HCalls Try.prog fn_zdev_Dev_Cut #[.pointer d, .int .i64 n] h R :=
  vc_fn (annOf [] []) Try.func20 [.pointer d, .int .i64 n] (by kernel_rfl) (V := vczdev_Dev_Cut d n h R) (by kernel_rfl) H

def vczdev_New (g : Int) (g1 : Int) (h : Hp) (R : Value → Hp → Prop) : Prop :=
  let vh := alc h [.int .i64 g, .int .i64 g1] ty_api_Geometry;
  ∃ c : Int, hcell vh (nw h) = some (.int .i64 c) ∧
  IfB (decide (c < (8 : Int))) (R (.tuple #[.pointer none, .int .i64 (1 : Int)]) vh)
  (∃ c1 : Int, hcell vh (nw h) = some (.int .i64 c1) ∧
    IfB (decide (c1 > (64 : Int))) (R (.tuple #[.pointer none, .int .i64 (1 : Int)]) vh)
    (∃ c2 : Int, hcell vh ((nw h).add 1) = some (.int .i64 c2) ∧
      IfB (decide (c2 < (96 : Int))) (R (.tuple #[.pointer none, .int .i64 (1 : Int)]) vh)
      (∃ c3 : Int, hcell vh ((nw h).add 1) = some (.int .i64 c3) ∧
        IfB (decide (c3 > (192 : Int))) (R (.tuple #[.pointer none, .int .i64 (1 : Int)]) vh)
        (∃ c4 : Int, ∃ c5 : Int, hcell vh ((nw h)) = some (.int .i64 c4) ∧ hcell vh ((nw h).add 1) = some (.int .i64 c5) ∧
          let vh1 := alc vh [.int .i64 c4, .int .i64 c5, .slice Sl.nil.base Sl.nil.len Sl.nil.cap, .int .i64 (0 : Int), .int .i64 (0 : Int), .bool false, .int .i64 (0 : Int), .bool false] ty_zdev_Dev;
          ∃ c6 : Int, hcell vh1 (nw h) = some (.int .i64 c6) ∧
          ∃ (vI : Int → Nat → Hp → Prop) (n : Nat), vI (0 : Int) n vh1 ∧
          ∀ _junk : Nat → Value, ∀ t28 : Int, ∀ (n1 : Nat) (vh2 : Hp), vI t28 n1 vh2 →
          IfB (decide (t28 < c6)) (∃ a : Addr, (some (nw vh)) = some a ∧
            ∃ c7 : Sl, hcell vh2 (a.add 2) = some (.slice c7.base c7.len c7.cap) ∧
            let vh3 := alc vh2 [.slice Sl.nil.base Sl.nil.len Sl.nil.cap, .int .i64 (0 : Int)] ty_zdev_zone;
            let vh4 := alc vh3 [.pointer (some (nw vh2))] ty_pzdev_zone;
            AppC ty_pzdev_zone 1 8 #[.pointer none] c7 (Sl.mk (some (nw vh3)) 1 1) vh4 fun s vh5 =>
            ∃ a1 : Addr, (some (nw vh)) = some a1 ∧
            StOk vh5 (a1.add 2) ∧
            Lt (hset vh5 (a1.add 2) (.slice s.base s.len s.cap)) fun vh6 =>
            ∃ n2, n2 < n1 ∧ vI (iAdd .i64 t28 (1 : Int)) n2 vh6)
          (R (.tuple #[.pointer (some (nw vh)), .int .i64 (0 : Int)]) vh2)))))
theorem zdev_New_vc {g : Int} {g1 : Int} {h : Hp} {R : Value → Hp → Prop} (H : vczdev_New g g1 h R) : HCalls Try.prog fn_zdev_New #[.agg #[.int .i64 g, .int .i64 g1]] h R :=
  vc_fn (annOf [(0, [(28, .int .i64)])] []) Try.func21 [.agg #[.int .i64 g, .int .i64 g1]] (by kernel_rfl) (V := vczdev_New g g1 h R) (by kernel_rfl) H

def vczdev_Dev_Geometry (d : Option Addr) (h : Hp) (R : Value → Hp → Prop) : Prop :=
  let vh := alc h [.int .i64 (0 : Int), .int .i64 (0 : Int)] ty_api_Geometry;
  HCalls Try.prog fn_zdev_Dev_gone #[.pointer d] vh fun r vh1 =>
  ∃ c : Bool, r = .bool c ∧
  IfB c (stCells (nw h) 0 [.int .i64 (0 : Int), .int .i64 (0 : Int)] vh1 fun vh2 =>
    ∃ x : Int, ∃ x1 : Int, hcell vh2 ((nw h)) = some (.int .i64 x) ∧ hcell vh2 ((nw h).add 1) = some (.int .i64 x1) ∧
    R (.agg #[.int .i64 x, .int .i64 x1]) vh2)
  (∃ a : Addr, d = some a ∧
    ∃ c1 : Int, ∃ c2 : Int, hcell vh1 (a) = some (.int .i64 c1) ∧ hcell vh1 (a.add 1) = some (.int .i64 c2) ∧
    stCells (nw h) 0 [.int .i64 c1, .int .i64 c2] vh1 fun vh3 =>
    ∃ x2 : Int, ∃ x3 : Int, hcell vh3 ((nw h)) = some (.int .i64 x2) ∧ hcell vh3 ((nw h).add 1) = some (.int .i64 x3) ∧
    R (.agg #[.int .i64 x2, .int .i64 x3]) vh3)
theorem zdev_Dev_Geometry_vc {d : Option Addr} {h : Hp} {R : Value → Hp → Prop} (H : vczdev_Dev_Geometry d h R) : HCalls Try.prog fn_zdev_Dev_Geometry #[.pointer d] h R :=
  vc_fn (annOf [] []) Try.func22 [.pointer d] (by kernel_rfl) (V := vczdev_Dev_Geometry d h R) (by kernel_rfl) H

def vcslot_Slots_blocks (s : Option Addr) (i : Int) (h : Hp) (R : Value → Hp → Prop) : Prop :=
  ∃ a : Addr, s = some a ∧
  0 ≤ i ∧ i < ((3 : Nat) : Int) ∧
  ∃ c : Int, hcell h ((a.add 1).add ((i).toNat * 1)) = some (.int .i64 c) ∧
  ∃ (vI : Sl → Int → Nat → Hp → Prop) (n : Nat), vI Sl.nil c n h ∧
  ∀ _junk : Nat → Value, ∀ out : Sl, ∀ z : Int, ∀ (n1 : Nat) (vh : Hp), vI out z n1 vh →
  ∃ a1 : Addr, s = some a1 ∧
  0 ≤ (iAdd .i64 i (1 : Int)) ∧ (iAdd .i64 i (1 : Int)) < ((3 : Nat) : Int) ∧
  ∃ c1 : Int, hcell vh ((a1.add 1).add (((iAdd .i64 i (1 : Int))).toNat * 1)) = some (.int .i64 c1) ∧
  IfB (decide (z < c1)) (∃ a2 : Addr, s = some a2 ∧
    ∃ c2 : Option Addr, hcell vh a2 = some (.pointer c2) ∧
    HCalls Try.prog fn_zdev_Dev_Pointer #[.pointer c2, .int .i64 z] vh fun r vh1 =>
    ∃ c3 : Int, ∃ c4 : Int, r = .tuple #[.int .i64 c3, .int .i64 c4] ∧
    ∃ (vI1 : Sl → Int → Nat → Hp → Prop) (n3 : Nat), vI1 out (0 : Int) n3 vh1 ∧
    ∀ _junk : Nat → Value, ∀ out1 : Sl, ∀ t38 : Int, ∀ (n4 : Nat) (vh2 : Hp), vI1 out1 t38 n4 vh2 →
    IfB (decide (t38 < c3)) (∃ a3 : Addr, s = some a3 ∧
      ∃ c5 : Option Addr, hcell vh2 a3 = some (.pointer c5) ∧
      HCalls Try.prog fn_zdev_Dev_Read #[.pointer c5, .int .i64 z, .int .i64 t38] vh2 fun r1 vh3 =>
      ∃ c6 : Sl, ∃ c7 : Int, r1 = .tuple #[.slice c6.base c6.len c6.cap, .int .i64 c7] ∧
      let vh4 := alc vh3 [.slice c6.base c6.len c6.cap] ty_suint8;
      AppC ty_suint8 1 24 #[.slice Sl.nil.base Sl.nil.len Sl.nil.cap] out1 (Sl.mk (some (nw vh3)) 1 1) vh4 fun s1 vh5 =>
      ∃ n5, n5 < n4 ∧ vI1 s1 (iAdd .i64 t38 (1 : Int)) n5 vh5)
    (∃ a4 : Addr, s = some a4 ∧
      ∃ c8 : Int, hcell vh2 (a4.add 4) = some (.int .i64 c8) ∧
      IfB (decide (c3 < c8)) (R (.slice out1.base out1.len out1.cap) vh2)
      (∃ n2, n2 < n1 ∧ vI out1 (iAdd .i64 z (1 : Int)) n2 vh2)))
  (R (.slice out.base out.len out.cap) vh)
theorem slot_Slots_blocks_vc {s : Option Addr} {i : Int} {h : Hp} {R : Value → Hp → Prop} (H : vcslot_Slots_blocks s i h R) : HCalls Try.prog fn_slot_Slots_blocks #[.pointer s, .int .i64 i] h R :=
  vc_fn (annOf [(0, [(4, .sl), (5, .int .i64)]), (1, [(4, .sl), (38, .int .i64)])] []) Try.func23 [.pointer s, .int .i64 i] (by kernel_rfl) (V := vcslot_Slots_blocks s i h R) (by kernel_rfl) H

def vcslices_ContainsFunc_ssbytesbyte (s : Sl) (f : Nat) (h : Hp) (R : Value → Hp → Prop) : Prop :=
  HCalls Try.prog fn_slices_IndexFunc_ssbytesbyte #[.slice s.base s.len s.cap, .func (.func f) #[] #[]] h fun r vh =>
  ∃ c : Int, r = .int .i64 c ∧
  R (.bool (decide (c ≥ (0 : Int)))) vh
theorem slices_ContainsFunc_ssbytesbyte_vc {s : Sl} {f : Nat} {h : Hp} {R : Value → Hp → Prop} (H : vcslices_ContainsFunc_ssbytesbyte s f h R) : HCalls Try.prog fn_slices_ContainsFunc_ssbytesbyte #[.slice s.base s.len s.cap, .func (.func f) #[] #[]] h R :=
  vc_fn (annOf [] []) Try.func24 [.slice s.base s.len s.cap, .func (.func f) #[] #[]] (by kernel_rfl) (V := vcslices_ContainsFunc_ssbytesbyte s f h R) (by kernel_rfl) H

def vcslot_Open_1 (p : Sl) (h : Hp) (R : Value → Hp → Prop) : Prop :=
  ∃ a : Addr, p.base = some a ∧ 0 ≤ (0 : Int) ∧ (0 : Int) < (p.len : Int) ∧
  ∃ c : Int, hcell h (a.add (((0 : Int)).toNat * 1)) = some (.int .u8 c) ∧
  IfB (decide (c < (1 : Int))) (R (.bool true) h)
  (∃ a1 : Addr, p.base = some a1 ∧ 0 ≤ (0 : Int) ∧ (0 : Int) < (p.len : Int) ∧
    ∃ c1 : Int, hcell h (a1.add (((0 : Int)).toNat * 1)) = some (.int .u8 c1) ∧
    R (.bool (decide (c1 > (3 : Int)))) h)
theorem slot_Open_1_vc {p : Sl} {h : Hp} {R : Value → Hp → Prop} (H : vcslot_Open_1 p h R) : HCalls Try.prog fn_slot_Open_1 #[.slice p.base p.len p.cap] h R :=
  vc_fn (annOf [] []) Try.func25 [.slice p.base p.len p.cap] (by kernel_rfl) (V := vcslot_Open_1 p h R) (by kernel_rfl) H

def vcslot_read (blocks : Sl) (h : Hp) (R : Value → Hp → Prop) : Prop :=
  ∃ (vI : Sl → Int → Int → Nat → Hp → Prop) (n : Nat), vI Sl.nil (0 : Int) (0 : Int) n h ∧
  ∀ _junk : Nat → Value, ∀ text : Sl, ∀ n3 : Int, ∀ t10 : Int, ∀ (n1 : Nat) (vh : Hp), vI text n3 t10 n1 vh →
  IfB (decide (t10 < (blocks.len : Int))) (∃ a : Addr, blocks.base = some a ∧ 0 ≤ t10 ∧ t10 < (blocks.len : Int) ∧
    ∃ c : Sl, hcell vh (a.add ((t10).toNat * 1)) = some (.slice c.base c.len c.cap) ∧
    HCalls Try.prog fn_frame_Decode #[.slice c.base c.len c.cap] vh fun r vh1 =>
    ∃ c1 : Int, ∃ c2 : Int, ∃ c3 : Int, ∃ c4 : Int, ∃ c5 : Sl, ∃ c6 : Int, r = .tuple #[.agg #[.int .i64 c1, .int .i64 c2, .int .i64 c3, .int .i64 c4, .slice c5.base c5.len c5.cap], .int .i64 c6] ∧
    let vh2 := alc vh1 [.int .i64 (0 : Int), .int .i64 (0 : Int), .int .i64 (0 : Int), .int .i64 (0 : Int), .slice Sl.nil.base Sl.nil.len Sl.nil.cap] ty_frame_Block;
    stCells (nw vh1) 0 [.int .i64 c1, .int .i64 c2, .int .i64 c3, .int .i64 c4, .slice c5.base c5.len c5.cap] vh2 fun vh3 =>
    IfB (c6 != (0 : Int)) (R (.tuple #[.slice Sl.nil.base Sl.nil.len Sl.nil.cap, .int .i64 (0 : Int)]) vh3)
    (IfB (t10 == (0 : Int)) (∃ c7 : Int, hcell vh3 (nw vh1) = some (.int .i64 c7) ∧
        IfB (c7 == (3 : Int)) (∃ c8 : Int, hcell vh3 ((nw vh1).add 2) = some (.int .i64 c8) ∧
          ∃ n2, n2 < n1 ∧ vI text c8 (iAdd .i64 t10 (1 : Int)) n2 vh3)
        (IfB (t10 == (0 : Int)) (R (.tuple #[.slice Sl.nil.base Sl.nil.len Sl.nil.cap, .int .i64 (0 : Int)]) vh3)
          (∃ c9 : Int, hcell vh3 ((nw vh1).add 2) = some (.int .i64 c9) ∧
            IfB (c9 != n3) (R (.tuple #[.slice Sl.nil.base Sl.nil.len Sl.nil.cap, .int .i64 (0 : Int)]) vh3)
            (∃ c10 : Int, hcell vh3 (nw vh1) = some (.int .i64 c10) ∧
              IfB (c10 == (1 : Int)) (∃ c11 : Sl, hcell vh3 ((nw vh1).add 4) = some (.slice c11.base c11.len c11.cap) ∧
                AppC ty_uint8 1 1 #[.int .u8 (0 : Int)] text c11 vh3 fun s vh4 =>
                ∃ n2, n2 < n1 ∧ vI s n3 (iAdd .i64 t10 (1 : Int)) n2 vh4)
              (∃ c12 : Int, hcell vh3 (nw vh1) = some (.int .i64 c12) ∧
                IfB (c12 == (2 : Int)) (∃ c13 : Int, hcell vh3 ((nw vh1).add 3) = some (.int .i64 c13) ∧
                  IfB (c13 == (iSub .i64 t10 (1 : Int))) (∃ c14 : Sl, hcell vh3 ((nw vh1).add 4) = some (.slice c14.base c14.len c14.cap) ∧
                    HCalls Try.prog fn_slot_tail #[.slice text.base text.len text.cap] vh3 fun r1 vh5 =>
                    ∃ c15 : Sl, r1 = .slice c15.base c15.len c15.cap ∧
                    Ext vh3 vh5 ∧
                    HCalls Try.prog fn_slices_Equal_sbytebyte #[.slice c14.base c14.len c14.cap, .slice c15.base c15.len c15.cap] vh5 fun r2 vh6 =>
                    ∃ c16 : Bool, r2 = .bool c16 ∧
                    Ext vh3 vh6 ∧
                    IfB c16 (R (.tuple #[.slice text.base text.len text.cap, .int .i64 n3]) vh6)
                    (R (.tuple #[.slice Sl.nil.base Sl.nil.len Sl.nil.cap, .int .i64 (0 : Int)]) vh6))
                  (R (.tuple #[.slice Sl.nil.base Sl.nil.len Sl.nil.cap, .int .i64 (0 : Int)]) vh3))
                (R (.tuple #[.slice Sl.nil.base Sl.nil.len Sl.nil.cap, .int .i64 (0 : Int)]) vh3))))))
      (IfB (t10 == (0 : Int)) (R (.tuple #[.slice Sl.nil.base Sl.nil.len Sl.nil.cap, .int .i64 (0 : Int)]) vh3)
        (∃ c17 : Int, hcell vh3 ((nw vh1).add 2) = some (.int .i64 c17) ∧
          IfB (c17 != n3) (R (.tuple #[.slice Sl.nil.base Sl.nil.len Sl.nil.cap, .int .i64 (0 : Int)]) vh3)
          (∃ c18 : Int, hcell vh3 (nw vh1) = some (.int .i64 c18) ∧
            IfB (c18 == (1 : Int)) (∃ c19 : Sl, hcell vh3 ((nw vh1).add 4) = some (.slice c19.base c19.len c19.cap) ∧
              AppC ty_uint8 1 1 #[.int .u8 (0 : Int)] text c19 vh3 fun s1 vh7 =>
              ∃ n2, n2 < n1 ∧ vI s1 n3 (iAdd .i64 t10 (1 : Int)) n2 vh7)
            (∃ c20 : Int, hcell vh3 (nw vh1) = some (.int .i64 c20) ∧
              IfB (c20 == (2 : Int)) (∃ c21 : Int, hcell vh3 ((nw vh1).add 3) = some (.int .i64 c21) ∧
                IfB (c21 == (iSub .i64 t10 (1 : Int))) (∃ c22 : Sl, hcell vh3 ((nw vh1).add 4) = some (.slice c22.base c22.len c22.cap) ∧
                  HCalls Try.prog fn_slot_tail #[.slice text.base text.len text.cap] vh3 fun r3 vh8 =>
                  ∃ c23 : Sl, r3 = .slice c23.base c23.len c23.cap ∧
                  Ext vh3 vh8 ∧
                  HCalls Try.prog fn_slices_Equal_sbytebyte #[.slice c22.base c22.len c22.cap, .slice c23.base c23.len c23.cap] vh8 fun r4 vh9 =>
                  ∃ c24 : Bool, r4 = .bool c24 ∧
                  Ext vh3 vh9 ∧
                  IfB c24 (R (.tuple #[.slice text.base text.len text.cap, .int .i64 n3]) vh9)
                  (R (.tuple #[.slice Sl.nil.base Sl.nil.len Sl.nil.cap, .int .i64 (0 : Int)]) vh9))
                (R (.tuple #[.slice Sl.nil.base Sl.nil.len Sl.nil.cap, .int .i64 (0 : Int)]) vh3))
              (R (.tuple #[.slice Sl.nil.base Sl.nil.len Sl.nil.cap, .int .i64 (0 : Int)]) vh3)))))))
  (R (.tuple #[.slice Sl.nil.base Sl.nil.len Sl.nil.cap, .int .i64 (0 : Int)]) vh)
theorem slot_read_vc {blocks : Sl} {h : Hp} {R : Value → Hp → Prop} (H : vcslot_read blocks h R) : HCalls Try.prog fn_slot_read #[.slice blocks.base blocks.len blocks.cap] h R :=
  vc_fn (annOf [(0, [(2, .sl), (3, .int .i64), (10, .int .i64)])] []) Try.func26 [.slice blocks.base blocks.len blocks.cap] (by kernel_rfl) (V := vcslot_read blocks h R) (by kernel_rfl) H

def vczdev_Dev_Flush (d : Option Addr) (h : Hp) (R : Value → Hp → Prop) : Prop :=
  HCalls Try.prog fn_zdev_Dev_gone #[.pointer d] h fun r vh =>
  ∃ c : Bool, r = .bool c ∧
  IfB c (R (.int .i64 (1 : Int)) vh)
  (HCalls Try.prog fn_zdev_Dev_begin #[.pointer d] vh fun r1 vh1 =>
    ∃ c1 : Bool, r1 = .bool c1 ∧
    IfB (!c1) (R (.int .i64 (12 : Int)) vh1)
    (∃ a : Addr, d = some a ∧
      ∃ c2 : Sl, hcell vh1 (a.add 2) = some (.slice c2.base c2.len c2.cap) ∧
      ∃ (vI : Int → Nat → Hp → Prop) (n : Nat), vI (0 : Int) n vh1 ∧
      ∀ _junk : Nat → Value, ∀ t17 : Int, ∀ (n1 : Nat) (vh2 : Hp), vI t17 n1 vh2 →
      IfB (decide (t17 < (c2.len : Int))) (∃ a1 : Addr, c2.base = some a1 ∧ 0 ≤ t17 ∧ t17 < (c2.len : Int) ∧
        ∃ c3 : Option Addr, hcell vh2 (a1.add ((t17).toNat * 1)) = some (.pointer c3) ∧
        ∃ a2 : Addr, c3 = some a2 ∧
        ∃ c4 : Sl, hcell vh2 a2 = some (.slice c4.base c4.len c4.cap) ∧
        ∃ a3 : Addr, c3 = some a3 ∧
        StOk vh2 (a3.add 1) ∧
        Lt (hset vh2 (a3.add 1) (.int .i64 (c4.len : Int))) fun vh3 =>
        ∃ n2, n2 < n1 ∧ vI (iAdd .i64 t17 (1 : Int)) n2 vh3)
      (R (.int .i64 (0 : Int)) vh2)))
theorem zdev_Dev_Flush_vc {d : Option Addr} {h : Hp} {R : Value → Hp → Prop} (H : vczdev_Dev_Flush d h R) : HCalls Try.prog fn_zdev_Dev_Flush #[.pointer d] h R :=
  vc_fn (annOf [(0, [(17, .int .i64)])] []) Try.func27 [.pointer d] (by kernel_rfl) (V := vczdev_Dev_Flush d h R) (by kernel_rfl) H

def vcslices_Clone_sbytebyte (s : Sl) (h : Hp) (R : Value → Hp → Prop) : Prop :=
  IfB (isNone? s.base) (R (.slice Sl.nil.base Sl.nil.len Sl.nil.cap) h)
  (let vh := alc h [] ty_uint8;
    AppC ty_uint8 1 1 #[.int .u8 (0 : Int)] (Sl.mk (some (nw h)) 0 0) s vh fun s1 vh1 =>
    R (.slice s1.base s1.len s1.cap) vh1)
theorem slices_Clone_sbytebyte_vc {s : Sl} {h : Hp} {R : Value → Hp → Prop} (H : vcslices_Clone_sbytebyte s h R) : HCalls Try.prog fn_slices_Clone_sbytebyte #[.slice s.base s.len s.cap] h R :=
  vc_fn (annOf [] []) Try.func29 [.slice s.base s.len s.cap] (by kernel_rfl) (V := vcslices_Clone_sbytebyte s h R) (by kernel_rfl) H

def vczdev_Dev_at (d : Option Addr) (i : Int) (h : Hp) (R : Value → Hp → Prop) : Prop :=
  HCalls Try.prog fn_zdev_Dev_gone #[.pointer d] h fun r vh =>
  ∃ c : Bool, r = .bool c ∧
  IfB c (R (.pointer none) vh)
  (IfB (decide (i < (0 : Int))) (R (.pointer none) vh)
    (∃ a : Addr, d = some a ∧
      ∃ c1 : Sl, hcell vh (a.add 2) = some (.slice c1.base c1.len c1.cap) ∧
      IfB (decide (i ≥ (c1.len : Int))) (R (.pointer none) vh)
      (∃ a1 : Addr, d = some a1 ∧
        ∃ c2 : Sl, hcell vh (a1.add 2) = some (.slice c2.base c2.len c2.cap) ∧
        ∃ a2 : Addr, c2.base = some a2 ∧ 0 ≤ i ∧ i < (c2.len : Int) ∧
        ∃ c3 : Option Addr, hcell vh (a2.add ((i).toNat * 1)) = some (.pointer c3) ∧
        R (.pointer c3) vh)))
theorem zdev_Dev_at_vc {d : Option Addr} {i : Int} {h : Hp} {R : Value → Hp → Prop} (H : vczdev_Dev_at d i h R) : HCalls Try.prog fn_zdev_Dev_at #[.pointer d, .int .i64 i] h R :=
  vc_fn (annOf [] []) Try.func30 [.pointer d, .int .i64 i] (by kernel_rfl) (V := vczdev_Dev_at d i h R) (by kernel_rfl) H

def vczdev_Dev_gone (d : Option Addr) (h : Hp) (R : Value → Hp → Prop) : Prop :=
  IfB (isNone? d) (R (.bool true) h)
  (∃ a : Addr, d = some a ∧
    ∃ c : Sl, hcell h (a.add 2) = some (.slice c.base c.len c.cap) ∧
    R (.bool ((c.len : Int) == (0 : Int))) h)
theorem zdev_Dev_gone_vc {d : Option Addr} {h : Hp} {R : Value → Hp → Prop} (H : vczdev_Dev_gone d h R) : HCalls Try.prog fn_zdev_Dev_gone #[.pointer d] h R :=
  vc_fn (annOf [] []) Try.func31 [.pointer d] (by kernel_rfl) (V := vczdev_Dev_gone d h R) (by kernel_rfl) H

def vczdev_pick (l : Sl) (k : Int) (h : Hp) (R : Value → Hp → Prop) : Prop :=
  IfB ((l.len : Int) == (0 : Int)) (R (.tuple #[.int .i64 (0 : Int), .bool false]) h)
  ((l.len : Int) ≠ 0 ∧
    ∃ a : Addr, l.base = some a ∧ 0 ≤ (iRem k (l.len : Int)) ∧ (iRem k (l.len : Int)) < (l.len : Int) ∧
    ∃ c : Int, hcell h (a.add (((iRem k (l.len : Int))).toNat * 1)) = some (.int .i64 c) ∧
    R (.tuple #[.int .i64 c, .bool true]) h)
theorem zdev_pick_vc {l : Sl} {k : Int} {h : Hp} {R : Value → Hp → Prop} (H : vczdev_pick l k h R) : HCalls Try.prog fn_zdev_pick #[.slice l.base l.len l.cap, .int .i64 k] h R :=
  vc_fn (annOf [] []) Try.func32 [.slice l.base l.len l.cap, .int .i64 k] (by kernel_rfl) (V := vczdev_pick l k h R) (by kernel_rfl) H

def vczdev_rest (n : Int) (vby : Int) (h : Hp) (R : Value → Hp → Prop) : Prop :=
  vby ≠ 0 ∧
  IfB (decide ((iRem n vby) < (0 : Int))) (R (.int .i64 (iAdd .i64 (iRem n vby) vby)) h)
  (R (.int .i64 (iRem n vby)) h)
theorem zdev_rest_vc {n : Int} {vby : Int} {h : Hp} {R : Value → Hp → Prop} (H : vczdev_rest n vby h R) : HCalls Try.prog fn_zdev_rest #[.int .i64 n, .int .i64 vby] h R :=
  vc_fn (annOf [] []) Try.func33 [.int .i64 n, .int .i64 vby] (by kernel_rfl) (V := vczdev_rest n vby h R) (by kernel_rfl) H

def vczdev_own (l : Sl) (h : Hp) (R : Value → Hp → Prop) : Prop :=
  ∃ (vI : Sl → Int → Nat → Hp → Prop) (n : Nat), vI Sl.nil (0 : Int) n h ∧
  ∀ _junk : Nat → Value, ∀ out : Sl, ∀ t7 : Int, ∀ (n1 : Nat) (vh : Hp), vI out t7 n1 vh →
  IfB (decide (t7 < (l.len : Int))) (∃ a : Addr, l.base = some a ∧ 0 ≤ t7 ∧ t7 < (l.len : Int) ∧
    ∃ c : Sl, hcell vh (a.add ((t7).toNat * 1)) = some (.slice c.base c.len c.cap) ∧
    HCalls Try.prog fn_slices_Clone_sbytebyte #[.slice c.base c.len c.cap] vh fun r vh1 =>
    ∃ c1 : Sl, r = .slice c1.base c1.len c1.cap ∧
    let vh2 := alc vh1 [.slice c1.base c1.len c1.cap] ty_suint8;
    AppC ty_suint8 1 24 #[.slice Sl.nil.base Sl.nil.len Sl.nil.cap] out (Sl.mk (some (nw vh1)) 1 1) vh2 fun s vh3 =>
    ∃ n2, n2 < n1 ∧ vI s (iAdd .i64 t7 (1 : Int)) n2 vh3)
  (R (.slice out.base out.len out.cap) vh)
theorem zdev_own_vc {l : Sl} {h : Hp} {R : Value → Hp → Prop} (H : vczdev_own l h R) : HCalls Try.prog fn_zdev_own #[.slice l.base l.len l.cap] h R :=
  vc_fn (annOf [(0, [(2, .sl), (7, .int .i64)])] []) Try.func34 [.slice l.base l.len l.cap] (by kernel_rfl) (V := vczdev_own l h R) (by kernel_rfl) H

def vczdev_tear (p : Sl) (h : Hp) (R : Value → Hp → Prop) : Prop :=
  HCalls Try.prog fn_slices_Clone_sbytebyte #[.slice p.base p.len p.cap] h fun r vh =>
  ∃ c : Sl, r = .slice c.base c.len c.cap ∧
  ∃ (vI : Int → Nat → Hp → Prop) (n : Nat), vI (32 : Int) n vh ∧
  ∀ _junk : Nat → Value, ∀ i : Int, ∀ (n1 : Nat) (vh1 : Hp), vI i n1 vh1 →
  IfB (decide (i < (c.len : Int))) (∃ a : Addr, c.base = some a ∧ 0 ≤ i ∧ i < (c.len : Int) ∧
    ∃ c1 : Int, hcell vh1 (a.add ((i).toNat * 1)) = some (.int .u8 c1) ∧
    ∃ a1 : Addr, c.base = some a1 ∧ 0 ≤ i ∧ i < (c.len : Int) ∧
    StOk vh1 (a1.add ((i).toNat * 1)) ∧
    Lt (hset vh1 (a1.add ((i).toNat * 1)) (.int .u8 (iXor .u8 c1 (85 : Int)))) fun vh2 =>
    ∃ n2, n2 < n1 ∧ vI (iAdd .i64 i (1 : Int)) n2 vh2)
  (R (.slice c.base c.len c.cap) vh1)
theorem zdev_tear_vc {p : Sl} {h : Hp} {R : Value → Hp → Prop} (H : vczdev_tear p h R) : HCalls Try.prog fn_zdev_tear #[.slice p.base p.len p.cap] h R :=
  vc_fn (annOf [(0, [(4, .int .i64)])] []) Try.func35 [.slice p.base p.len p.cap] (by kernel_rfl) (V := vczdev_tear p h R) (by kernel_rfl) H

def vczdev_Dev_Read (d : Option Addr) (i : Int) (vat : Int) (h : Hp) (R : Value → Hp → Prop) : Prop :=
  HCalls Try.prog fn_zdev_Dev_at #[.pointer d, .int .i64 i] h fun r vh =>
  ∃ c : Option Addr, r = .pointer c ∧
  IfB (isNone? c) (R (.tuple #[.slice Sl.nil.base Sl.nil.len Sl.nil.cap, .int .i64 (1 : Int)]) vh)
  (IfB (decide (vat < (0 : Int))) (R (.tuple #[.slice Sl.nil.base Sl.nil.len Sl.nil.cap, .int .i64 (14 : Int)]) vh)
    (∃ a : Addr, c = some a ∧
      ∃ c1 : Sl, hcell vh a = some (.slice c1.base c1.len c1.cap) ∧
      IfB (decide (vat ≥ (c1.len : Int))) (R (.tuple #[.slice Sl.nil.base Sl.nil.len Sl.nil.cap, .int .i64 (14 : Int)]) vh)
      (∃ a1 : Addr, d = some a1 ∧
        ∃ c2 : Int, hcell vh (a1.add 4) = some (.int .i64 c2) ∧
        ∃ a2 : Addr, d = some a2 ∧
        StOk vh (a2.add 4) ∧
        Lt (hset vh (a2.add 4) (.int .i64 (iAdd .i64 c2 (1 : Int)))) fun vh1 =>
        ∃ a3 : Addr, c = some a3 ∧
        ∃ c3 : Sl, hcell vh1 a3 = some (.slice c3.base c3.len c3.cap) ∧
        ∃ a4 : Addr, c3.base = some a4 ∧ 0 ≤ vat ∧ vat < (c3.len : Int) ∧
        ∃ c4 : Sl, hcell vh1 (a4.add ((vat).toNat * 1)) = some (.slice c4.base c4.len c4.cap) ∧
        HCalls Try.prog fn_slices_Clone_sbytebyte #[.slice c4.base c4.len c4.cap] vh1 fun r1 vh2 =>
        ∃ c5 : Sl, r1 = .slice c5.base c5.len c5.cap ∧
        R (.tuple #[.slice c5.base c5.len c5.cap, .int .i64 (0 : Int)]) vh2)))
theorem zdev_Dev_Read_vc {d : Option Addr} {i : Int} {vat : Int} {h : Hp} {R : Value → Hp → Prop} (H : vczdev_Dev_Read d i vat h R) : HCalls Try.prog fn_zdev_Dev_Read #[.pointer d, .int .i64 i, .int .i64 vat] h R :=
  vc_fn (annOf [] []) Try.func36 [.pointer d, .int .i64 i, .int .i64 vat] (by kernel_rfl) (V := vczdev_Dev_Read d i vat h R) (by kernel_rfl) H

def vcslices_IndexFunc_ssbytesbyte (s : Sl) (f : Nat) (h : Hp) (R : Value → Hp → Prop) : Prop :=
  ∃ (vI : Int → Nat → Hp → Prop) (n : Nat), vI (0 : Int) n h ∧
  ∀ _junk : Nat → Value, ∀ t8 : Int, ∀ (n1 : Nat) (vh : Hp), vI t8 n1 vh →
  IfB (decide (t8 < (s.len : Int))) (∃ a : Addr, s.base = some a ∧ 0 ≤ t8 ∧ t8 < (s.len : Int) ∧
    ∃ c : Sl, hcell vh (a.add ((t8).toNat * 1)) = some (.slice c.base c.len c.cap) ∧
    HCalls Try.prog f #[.slice c.base c.len c.cap] vh fun r vh1 =>
    ∃ c1 : Bool, r = .bool c1 ∧
    IfB c1 (R (.int .i64 t8) vh1)
    (∃ n2, n2 < n1 ∧ vI (iAdd .i64 t8 (1 : Int)) n2 vh1))
  (R (.int .i64 (-1 : Int)) vh)
theorem slices_IndexFunc_ssbytesbyte_vc {s : Sl} {f : Nat} {h : Hp} {R : Value → Hp → Prop} (H : vcslices_IndexFunc_ssbytesbyte s f h R) : HCalls Try.prog fn_slices_IndexFunc_ssbytesbyte #[.slice s.base s.len s.cap, .func (.func f) #[] #[]] h R :=
  vc_fn (annOf [(0, [(8, .int .i64)])] []) Try.func37 [.slice s.base s.len s.cap, .func (.func f) #[] #[]] (by kernel_rfl) (V := vcslices_IndexFunc_ssbytesbyte s f h R) (by kernel_rfl) H

def vcframe_Decode (p : Sl) (h : Hp) (R : Value → Hp → Prop) : Prop :=
  let vh := alc h [.int .i64 (0 : Int), .int .i64 (0 : Int), .int .i64 (0 : Int), .int .i64 (0 : Int), .slice Sl.nil.base Sl.nil.len Sl.nil.cap] ty_frame_Block;
  IfB ((p.len : Int) != (64 : Int)) (stCells (nw h) 0 [.int .i64 (0 : Int), .int .i64 (0 : Int), .int .i64 (0 : Int), .int .i64 (0 : Int), .slice Sl.nil.base Sl.nil.len Sl.nil.cap] vh fun vh1 =>
    ∃ x : Int, ∃ x1 : Int, ∃ x2 : Int, ∃ x3 : Int, ∃ x4 : Sl, hcell vh1 ((nw h)) = some (.int .i64 x) ∧ hcell vh1 ((nw h).add 1) = some (.int .i64 x1) ∧ hcell vh1 ((nw h).add 2) = some (.int .i64 x2) ∧ hcell vh1 ((nw h).add 3) = some (.int .i64 x3) ∧ hcell vh1 ((nw h).add 4) = some (.slice x4.base x4.len x4.cap) ∧
    R (.tuple #[.agg #[.int .i64 x, .int .i64 x1, .int .i64 x2, .int .i64 x3, .slice x4.base x4.len x4.cap], .int .i64 (3 : Int)]) vh1)
  (let vh2 := alc vh [.int .i64 (0 : Int), .int .i64 (0 : Int), .int .i64 (0 : Int), .int .i64 (0 : Int), .slice Sl.nil.base Sl.nil.len Sl.nil.cap] ty_frame_Block;
    ∃ (vI : Bool → Nat → Hp → Prop) (n : Nat), vI false n vh2 ∧
    ∀ _junk : Nat → Value, ∀ ok : Bool, ∀ (n1 : Nat) (vh3 : Hp), vI ok n1 vh3 →
    ∃ a : Addr, p.base = some a ∧ 0 ≤ (1 : Int) ∧ (1 : Int) < (p.len : Int) ∧
    ∃ c : Int, hcell vh3 (a.add (((1 : Int)).toNat * 1)) = some (.int .u8 c) ∧
    0 ≤ (6 : Int) ∧ (6 : Int) ≤ (p.len : Int) ∧ (p.len : Int) ≤ (p.cap : Int) ∧ (p.cap : Int) ≤ (p.cap : Int) ∧
    HCalls Try.prog fn_bits_Get64 #[.slice (cutSl p (6 : Int) (p.len : Int) (p.cap : Int) 1).base (cutSl p (6 : Int) (p.len : Int) (p.cap : Int) 1).len (cutSl p (6 : Int) (p.len : Int) (p.cap : Int) 1).cap] vh3 fun r vh4 =>
    ∃ c1 : Int, ∃ c2 : Bool, r = .tuple #[.int .u64 c1, .bool c2] ∧
    IfB (decide ((iConv .i64 c) > (40 : Int))) (IfB (!ok) (stCells (nw h) 0 [.int .i64 (0 : Int), .int .i64 (0 : Int), .int .i64 (0 : Int), .int .i64 (0 : Int), .slice Sl.nil.base Sl.nil.len Sl.nil.cap] vh4 fun vh5 =>
        ∃ x5 : Int, ∃ x6 : Int, ∃ x7 : Int, ∃ x8 : Int, ∃ x9 : Sl, hcell vh5 ((nw h)) = some (.int .i64 x5) ∧ hcell vh5 ((nw h).add 1) = some (.int .i64 x6) ∧ hcell vh5 ((nw h).add 2) = some (.int .i64 x7) ∧ hcell vh5 ((nw h).add 3) = some (.int .i64 x8) ∧ hcell vh5 ((nw h).add 4) = some (.slice x9.base x9.len x9.cap) ∧
        R (.tuple #[.agg #[.int .i64 x5, .int .i64 x6, .int .i64 x7, .int .i64 x8, .slice x9.base x9.len x9.cap], .int .i64 (13 : Int)]) vh5)
      (∃ c3 : Int, ∃ c4 : Int, ∃ c5 : Int, ∃ c6 : Int, ∃ c7 : Sl, hcell vh4 ((nw vh)) = some (.int .i64 c3) ∧ hcell vh4 ((nw vh).add 1) = some (.int .i64 c4) ∧ hcell vh4 ((nw vh).add 2) = some (.int .i64 c5) ∧ hcell vh4 ((nw vh).add 3) = some (.int .i64 c6) ∧ hcell vh4 ((nw vh).add 4) = some (.slice c7.base c7.len c7.cap) ∧
        stCells (nw h) 0 [.int .i64 c3, .int .i64 c4, .int .i64 c5, .int .i64 c6, .slice c7.base c7.len c7.cap] vh4 fun vh6 =>
        ∃ x10 : Int, ∃ x11 : Int, ∃ x12 : Int, ∃ x13 : Int, ∃ x14 : Sl, hcell vh6 ((nw h)) = some (.int .i64 x10) ∧ hcell vh6 ((nw h).add 1) = some (.int .i64 x11) ∧ hcell vh6 ((nw h).add 2) = some (.int .i64 x12) ∧ hcell vh6 ((nw h).add 3) = some (.int .i64 x13) ∧ hcell vh6 ((nw h).add 4) = some (.slice x14.base x14.len x14.cap) ∧
        R (.tuple #[.agg #[.int .i64 x10, .int .i64 x11, .int .i64 x12, .int .i64 x13, .slice x14.base x14.len x14.cap], .int .i64 (0 : Int)]) vh6))
    (IfB (decide (c1 > (1099511627776 : Int))) (IfB (!ok) (stCells (nw h) 0 [.int .i64 (0 : Int), .int .i64 (0 : Int), .int .i64 (0 : Int), .int .i64 (0 : Int), .slice Sl.nil.base Sl.nil.len Sl.nil.cap] vh4 fun vh7 =>
          ∃ x15 : Int, ∃ x16 : Int, ∃ x17 : Int, ∃ x18 : Int, ∃ x19 : Sl, hcell vh7 ((nw h)) = some (.int .i64 x15) ∧ hcell vh7 ((nw h).add 1) = some (.int .i64 x16) ∧ hcell vh7 ((nw h).add 2) = some (.int .i64 x17) ∧ hcell vh7 ((nw h).add 3) = some (.int .i64 x18) ∧ hcell vh7 ((nw h).add 4) = some (.slice x19.base x19.len x19.cap) ∧
          R (.tuple #[.agg #[.int .i64 x15, .int .i64 x16, .int .i64 x17, .int .i64 x18, .slice x19.base x19.len x19.cap], .int .i64 (13 : Int)]) vh7)
        (∃ c8 : Int, ∃ c9 : Int, ∃ c10 : Int, ∃ c11 : Int, ∃ c12 : Sl, hcell vh4 ((nw vh)) = some (.int .i64 c8) ∧ hcell vh4 ((nw vh).add 1) = some (.int .i64 c9) ∧ hcell vh4 ((nw vh).add 2) = some (.int .i64 c10) ∧ hcell vh4 ((nw vh).add 3) = some (.int .i64 c11) ∧ hcell vh4 ((nw vh).add 4) = some (.slice c12.base c12.len c12.cap) ∧
          stCells (nw h) 0 [.int .i64 c8, .int .i64 c9, .int .i64 c10, .int .i64 c11, .slice c12.base c12.len c12.cap] vh4 fun vh8 =>
          ∃ x20 : Int, ∃ x21 : Int, ∃ x22 : Int, ∃ x23 : Int, ∃ x24 : Sl, hcell vh8 ((nw h)) = some (.int .i64 x20) ∧ hcell vh8 ((nw h).add 1) = some (.int .i64 x21) ∧ hcell vh8 ((nw h).add 2) = some (.int .i64 x22) ∧ hcell vh8 ((nw h).add 3) = some (.int .i64 x23) ∧ hcell vh8 ((nw h).add 4) = some (.slice x24.base x24.len x24.cap) ∧
          R (.tuple #[.agg #[.int .i64 x20, .int .i64 x21, .int .i64 x22, .int .i64 x23, .slice x24.base x24.len x24.cap], .int .i64 (0 : Int)]) vh8))
      (0 ≤ (2 : Int) ∧ (2 : Int) ≤ (p.len : Int) ∧ (p.len : Int) ≤ (p.cap : Int) ∧ (p.cap : Int) ≤ (p.cap : Int) ∧
        HCalls Try.prog fn_bits_Get32 #[.slice (cutSl p (2 : Int) (p.len : Int) (p.cap : Int) 1).base (cutSl p (2 : Int) (p.len : Int) (p.cap : Int) 1).len (cutSl p (2 : Int) (p.len : Int) (p.cap : Int) 1).cap] vh4 fun r1 vh9 =>
        ∃ c13 : Int, ∃ c14 : Bool, r1 = .tuple #[.int .u32 c13, .bool c14] ∧
        0 ≤ (14 : Int) ∧ (14 : Int) ≤ (p.len : Int) ∧ (p.len : Int) ≤ (p.cap : Int) ∧ (p.cap : Int) ≤ (p.cap : Int) ∧
        HCalls Try.prog fn_bits_Get32 #[.slice (cutSl p (14 : Int) (p.len : Int) (p.cap : Int) 1).base (cutSl p (14 : Int) (p.len : Int) (p.cap : Int) 1).len (cutSl p (14 : Int) (p.len : Int) (p.cap : Int) 1).cap] vh9 fun r2 vh10 =>
        ∃ c15 : Int, ∃ c16 : Bool, r2 = .tuple #[.int .u32 c15, .bool c16] ∧
        ∃ a1 : Addr, p.base = some a1 ∧ 0 ≤ (0 : Int) ∧ (0 : Int) < (p.len : Int) ∧
        ∃ c17 : Int, hcell vh10 (a1.add (((0 : Int)).toNat * 1)) = some (.int .u8 c17) ∧
        0 ≤ (18 : Int) ∧ (18 : Int) ≤ (iAdd .i64 (18 : Int) (iConv .i64 c)) ∧ (iAdd .i64 (18 : Int) (iConv .i64 c)) ≤ (p.cap : Int) ∧ (p.cap : Int) ≤ (p.cap : Int) ∧
        HCalls Try.prog fn_slices_Clone_sbytebyte #[.slice (cutSl p (18 : Int) (iAdd .i64 (18 : Int) (iConv .i64 c)) (p.cap : Int) 1).base (cutSl p (18 : Int) (iAdd .i64 (18 : Int) (iConv .i64 c)) (p.cap : Int) 1).len (cutSl p (18 : Int) (iAdd .i64 (18 : Int) (iConv .i64 c)) (p.cap : Int) 1).cap] vh10 fun r3 vh11 =>
        ∃ c18 : Sl, r3 = .slice c18.base c18.len c18.cap ∧
        Ext vh10 vh11 ∧
        stCells (nw vh) 0 [.int .i64 (iConv .i64 c17), .int .i64 (iConv .i64 c13), .int .i64 (iConv .i64 c1), .int .i64 (iConv .i64 c15), .slice c18.base c18.len c18.cap] vh11 fun vh12 =>
        ∃ c19 : Int, ∃ c20 : Int, ∃ c21 : Int, ∃ c22 : Int, ∃ c23 : Sl, hcell vh12 ((nw vh)) = some (.int .i64 c19) ∧ hcell vh12 ((nw vh).add 1) = some (.int .i64 c20) ∧ hcell vh12 ((nw vh).add 2) = some (.int .i64 c21) ∧ hcell vh12 ((nw vh).add 3) = some (.int .i64 c22) ∧ hcell vh12 ((nw vh).add 4) = some (.slice c23.base c23.len c23.cap) ∧
        HCalls Try.prog fn_frame_Encode #[.agg #[.int .i64 c19, .int .i64 c20, .int .i64 c21, .int .i64 c22, .slice c23.base c23.len c23.cap]] vh12 fun r4 vh13 =>
        ∃ c24 : Sl, ∃ c25 : Int, r4 = .tuple #[.slice c24.base c24.len c24.cap, .int .i64 c25] ∧
        IfB (c25 == (0 : Int)) (HCalls Try.prog fn_slices_Equal_sbytebyte #[.slice p.base p.len p.cap, .slice c24.base c24.len c24.cap] vh13 fun r5 vh14 =>
          ∃ c26 : Bool, r5 = .bool c26 ∧
          IfB (!c26) (stCells (nw h) 0 [.int .i64 (0 : Int), .int .i64 (0 : Int), .int .i64 (0 : Int), .int .i64 (0 : Int), .slice Sl.nil.base Sl.nil.len Sl.nil.cap] vh14 fun vh15 =>
            ∃ x25 : Int, ∃ x26 : Int, ∃ x27 : Int, ∃ x28 : Int, ∃ x29 : Sl, hcell vh15 ((nw h)) = some (.int .i64 x25) ∧ hcell vh15 ((nw h).add 1) = some (.int .i64 x26) ∧ hcell vh15 ((nw h).add 2) = some (.int .i64 x27) ∧ hcell vh15 ((nw h).add 3) = some (.int .i64 x28) ∧ hcell vh15 ((nw h).add 4) = some (.slice x29.base x29.len x29.cap) ∧
            R (.tuple #[.agg #[.int .i64 x25, .int .i64 x26, .int .i64 x27, .int .i64 x28, .slice x29.base x29.len x29.cap], .int .i64 (13 : Int)]) vh15)
          (∃ c27 : Int, ∃ c28 : Int, ∃ c29 : Int, ∃ c30 : Int, ∃ c31 : Sl, hcell vh14 ((nw vh)) = some (.int .i64 c27) ∧ hcell vh14 ((nw vh).add 1) = some (.int .i64 c28) ∧ hcell vh14 ((nw vh).add 2) = some (.int .i64 c29) ∧ hcell vh14 ((nw vh).add 3) = some (.int .i64 c30) ∧ hcell vh14 ((nw vh).add 4) = some (.slice c31.base c31.len c31.cap) ∧
            stCells (nw h) 0 [.int .i64 c27, .int .i64 c28, .int .i64 c29, .int .i64 c30, .slice c31.base c31.len c31.cap] vh14 fun vh16 =>
            ∃ x30 : Int, ∃ x31 : Int, ∃ x32 : Int, ∃ x33 : Int, ∃ x34 : Sl, hcell vh16 ((nw h)) = some (.int .i64 x30) ∧ hcell vh16 ((nw h).add 1) = some (.int .i64 x31) ∧ hcell vh16 ((nw h).add 2) = some (.int .i64 x32) ∧ hcell vh16 ((nw h).add 3) = some (.int .i64 x33) ∧ hcell vh16 ((nw h).add 4) = some (.slice x34.base x34.len x34.cap) ∧
            R (.tuple #[.agg #[.int .i64 x30, .int .i64 x31, .int .i64 x32, .int .i64 x33, .slice x34.base x34.len x34.cap], .int .i64 (0 : Int)]) vh16))
        (IfB (!false) (stCells (nw h) 0 [.int .i64 (0 : Int), .int .i64 (0 : Int), .int .i64 (0 : Int), .int .i64 (0 : Int), .slice Sl.nil.base Sl.nil.len Sl.nil.cap] vh13 fun vh17 =>
            ∃ x35 : Int, ∃ x36 : Int, ∃ x37 : Int, ∃ x38 : Int, ∃ x39 : Sl, hcell vh17 ((nw h)) = some (.int .i64 x35) ∧ hcell vh17 ((nw h).add 1) = some (.int .i64 x36) ∧ hcell vh17 ((nw h).add 2) = some (.int .i64 x37) ∧ hcell vh17 ((nw h).add 3) = some (.int .i64 x38) ∧ hcell vh17 ((nw h).add 4) = some (.slice x39.base x39.len x39.cap) ∧
            R (.tuple #[.agg #[.int .i64 x35, .int .i64 x36, .int .i64 x37, .int .i64 x38, .slice x39.base x39.len x39.cap], .int .i64 (13 : Int)]) vh17)
          (∃ c32 : Int, ∃ c33 : Int, ∃ c34 : Int, ∃ c35 : Int, ∃ c36 : Sl, hcell vh13 ((nw vh)) = some (.int .i64 c32) ∧ hcell vh13 ((nw vh).add 1) = some (.int .i64 c33) ∧ hcell vh13 ((nw vh).add 2) = some (.int .i64 c34) ∧ hcell vh13 ((nw vh).add 3) = some (.int .i64 c35) ∧ hcell vh13 ((nw vh).add 4) = some (.slice c36.base c36.len c36.cap) ∧
            stCells (nw h) 0 [.int .i64 c32, .int .i64 c33, .int .i64 c34, .int .i64 c35, .slice c36.base c36.len c36.cap] vh13 fun vh18 =>
            ∃ x40 : Int, ∃ x41 : Int, ∃ x42 : Int, ∃ x43 : Int, ∃ x44 : Sl, hcell vh18 ((nw h)) = some (.int .i64 x40) ∧ hcell vh18 ((nw h).add 1) = some (.int .i64 x41) ∧ hcell vh18 ((nw h).add 2) = some (.int .i64 x42) ∧ hcell vh18 ((nw h).add 3) = some (.int .i64 x43) ∧ hcell vh18 ((nw h).add 4) = some (.slice x44.base x44.len x44.cap) ∧
            R (.tuple #[.agg #[.int .i64 x40, .int .i64 x41, .int .i64 x42, .int .i64 x43, .slice x44.base x44.len x44.cap], .int .i64 (0 : Int)]) vh18)))))
theorem frame_Decode_vc {p : Sl} {h : Hp} {R : Value → Hp → Prop} (H : vcframe_Decode p h R) : HCalls Try.prog fn_frame_Decode #[.slice p.base p.len p.cap] h R :=
  vc_fn (annOf [(0, [(5, .bool)])] []) Try.func38 [.slice p.base p.len p.cap] (by kernel_rfl) (V := vcframe_Decode p h R) (by kernel_rfl) H

def vcslices_Equal_sbytebyte (s1 : Sl) (s2 : Sl) (h : Hp) (R : Value → Hp → Prop) : Prop :=
  IfB ((s1.len : Int) != (s2.len : Int)) (R (.bool false) h)
  (∃ (vI : Int → Nat → Hp → Prop) (n : Nat), vI (0 : Int) n h ∧
    ∀ _junk : Nat → Value, ∀ t13 : Int, ∀ (n1 : Nat) (vh : Hp), vI t13 n1 vh →
    IfB (decide (t13 < (s1.len : Int))) (∃ a : Addr, s1.base = some a ∧ 0 ≤ t13 ∧ t13 < (s1.len : Int) ∧
      ∃ c : Int, hcell vh (a.add ((t13).toNat * 1)) = some (.int .u8 c) ∧
      ∃ a1 : Addr, s2.base = some a1 ∧ 0 ≤ t13 ∧ t13 < (s2.len : Int) ∧
      ∃ c1 : Int, hcell vh (a1.add ((t13).toNat * 1)) = some (.int .u8 c1) ∧
      IfB (c != c1) (R (.bool false) vh)
      (∃ n2, n2 < n1 ∧ vI (iAdd .i64 t13 (1 : Int)) n2 vh))
    (R (.bool true) vh))
theorem slices_Equal_sbytebyte_vc {s1 : Sl} {s2 : Sl} {h : Hp} {R : Value → Hp → Prop} (H : vcslices_Equal_sbytebyte s1 s2 h R) : HCalls Try.prog fn_slices_Equal_sbytebyte #[.slice s1.base s1.len s1.cap, .slice s2.base s2.len s2.cap] h R :=
  vc_fn (annOf [(0, [(13, .int .i64)])] []) Try.func39 [.slice s1.base s1.len s1.cap, .slice s2.base s2.len s2.cap] (by kernel_rfl) (V := vcslices_Equal_sbytebyte s1 s2 h R) (by kernel_rfl) H

def vcslot_tail (text : Sl) (h : Hp) (R : Value → Hp → Prop) : Prop :=
  HCalls Try.prog fn_bits_Put32 #[.int .u32 (iConv .u32 (text.len : Int))] h fun r vh =>
  ∃ c : Sl, r = .slice c.base c.len c.cap ∧
  HCalls Try.prog fn_crc_Of #[.slice text.base text.len text.cap] vh fun r1 vh1 =>
  ∃ c1 : Int, r1 = .int .u32 c1 ∧
  HCalls Try.prog fn_bits_Put32 #[.int .u32 c1] vh1 fun r2 vh2 =>
  ∃ c2 : Sl, r2 = .slice c2.base c2.len c2.cap ∧
  let vh3 := alc vh2 [.slice c.base c.len c.cap, .slice c2.base c2.len c2.cap] ty_suint8;
  HCalls Try.prog fn_slices_Concat_sbytebyte #[.slice (Sl.mk (some (nw vh2)) 2 2).base (Sl.mk (some (nw vh2)) 2 2).len (Sl.mk (some (nw vh2)) 2 2).cap] vh3 fun r3 vh4 =>
  ∃ c3 : Sl, r3 = .slice c3.base c3.len c3.cap ∧
  R (.slice c3.base c3.len c3.cap) vh4
theorem slot_tail_vc {text : Sl} {h : Hp} {R : Value → Hp → Prop} (H : vcslot_tail text h R) : HCalls Try.prog fn_slot_tail #[.slice text.base text.len text.cap] h R :=
  vc_fn (annOf [] []) Try.func40 [.slice text.base text.len text.cap] (by kernel_rfl) (V := vcslot_tail text h R) (by kernel_rfl) H

def vczdev_Dev_Reset (d : Option Addr) (i : Int) (h : Hp) (R : Value → Hp → Prop) : Prop :=
  HCalls Try.prog fn_zdev_Dev_at #[.pointer d, .int .i64 i] h fun r vh =>
  ∃ c : Option Addr, r = .pointer c ∧
  IfB (isNone? c) (R (.int .i64 (1 : Int)) vh)
  (HCalls Try.prog fn_zdev_Dev_begin #[.pointer d] vh fun r1 vh1 =>
    ∃ c1 : Bool, r1 = .bool c1 ∧
    IfB (!c1) (R (.int .i64 (12 : Int)) vh1)
    (∃ a : Addr, c = some a ∧
      stCells a 0 [.slice Sl.nil.base Sl.nil.len Sl.nil.cap, .int .i64 (0 : Int)] vh1 fun vh2 =>
      R (.int .i64 (0 : Int)) vh2))
theorem zdev_Dev_Reset_vc {d : Option Addr} {i : Int} {h : Hp} {R : Value → Hp → Prop} (H : vczdev_Dev_Reset d i h R) : HCalls Try.prog fn_zdev_Dev_Reset #[.pointer d, .int .i64 i] h R :=
  vc_fn (annOf [] []) Try.func42 [.pointer d, .int .i64 i] (by kernel_rfl) (V := vczdev_Dev_Reset d i h R) (by kernel_rfl) H

def vcframe_Encode (b : Int) (b1 : Int) (b2 : Int) (b3 : Int) (b4 : Sl) (h : Hp) (R : Value → Hp → Prop) : Prop :=
  let vh := alc h [.int .i64 b, .int .i64 b1, .int .i64 b2, .int .i64 b3, .slice b4.base b4.len b4.cap] ty_frame_Block;
  ∃ c : Int, hcell vh (nw h) = some (.int .i64 c) ∧
  HCalls Try.prog fn_frame_within #[.int .i64 c, .int .i64 (1 : Int), .int .i64 (4 : Int)] vh fun r vh1 =>
  ∃ c1 : Bool, r = .bool c1 ∧
  IfB (!c1) (R (.tuple #[.slice Sl.nil.base Sl.nil.len Sl.nil.cap, .int .i64 (1 : Int)]) vh1)
  (∃ c2 : Int, hcell vh1 ((nw h).add 1) = some (.int .i64 c2) ∧
    HCalls Try.prog fn_frame_within #[.int .i64 c2, .int .i64 (0 : Int), .int .i64 (4294967295 : Int)] vh1 fun r1 vh2 =>
    ∃ c3 : Bool, r1 = .bool c3 ∧
    IfB (!c3) (R (.tuple #[.slice Sl.nil.base Sl.nil.len Sl.nil.cap, .int .i64 (1 : Int)]) vh2)
    (∃ c4 : Int, hcell vh2 ((nw h).add 2) = some (.int .i64 c4) ∧
      HCalls Try.prog fn_frame_within #[.int .i64 c4, .int .i64 (0 : Int), .int .i64 (1099511627776 : Int)] vh2 fun r2 vh3 =>
      ∃ c5 : Bool, r2 = .bool c5 ∧
      IfB (!c5) (R (.tuple #[.slice Sl.nil.base Sl.nil.len Sl.nil.cap, .int .i64 (1 : Int)]) vh3)
      (∃ c6 : Int, hcell vh3 ((nw h).add 3) = some (.int .i64 c6) ∧
        HCalls Try.prog fn_frame_within #[.int .i64 c6, .int .i64 (0 : Int), .int .i64 (1048576 : Int)] vh3 fun r3 vh4 =>
        ∃ c7 : Bool, r3 = .bool c7 ∧
        IfB (!c7) (R (.tuple #[.slice Sl.nil.base Sl.nil.len Sl.nil.cap, .int .i64 (1 : Int)]) vh4)
        (∃ c8 : Sl, hcell vh4 ((nw h).add 4) = some (.slice c8.base c8.len c8.cap) ∧
          IfB (decide ((c8.len : Int) > (40 : Int))) (R (.tuple #[.slice Sl.nil.base Sl.nil.len Sl.nil.cap, .int .i64 (3 : Int)]) vh4)
          (∃ c9 : Int, hcell vh4 (nw h) = some (.int .i64 c9) ∧
            ∃ c10 : Sl, hcell vh4 ((nw h).add 4) = some (.slice c10.base c10.len c10.cap) ∧
            ∃ c11 : Int, hcell vh4 ((nw h).add 1) = some (.int .i64 c11) ∧
            ∃ c12 : Int, hcell vh4 ((nw h).add 2) = some (.int .i64 c12) ∧
            ∃ c13 : Int, hcell vh4 ((nw h).add 3) = some (.int .i64 c13) ∧
            ∃ c14 : Sl, hcell vh4 ((nw h).add 4) = some (.slice c14.base c14.len c14.cap) ∧
            (let vh5 := alc vh4 [.int .u8 (iConv .u8 c9), .int .u8 (iConv .u8 (c10.len : Int))] ty_uint8;
              Ext vh4 vh5 ∧
              HCalls Try.prog fn_bits_Put32 #[.int .u32 (iConv .u32 c11)] vh5 fun r4 vh6 =>
              ∃ c15 : Sl, r4 = .slice c15.base c15.len c15.cap ∧
              Ext vh4 vh6 ∧
              HCalls Try.prog fn_bits_Put64 #[.int .u64 (iConv .u64 c12)] vh6 fun r5 vh7 =>
              ∃ c16 : Sl, r5 = .slice c16.base c16.len c16.cap ∧
              Ext vh4 vh7 ∧
              HCalls Try.prog fn_bits_Put32 #[.int .u32 (iConv .u32 c13)] vh7 fun r6 vh8 =>
              ∃ c17 : Sl, r6 = .slice c17.base c17.len c17.cap ∧
              Ext vh4 vh8 ∧
              let vh9 := alc vh8 [.slice (Sl.mk (some (nw vh4)) 2 2).base (Sl.mk (some (nw vh4)) 2 2).len (Sl.mk (some (nw vh4)) 2 2).cap, .slice c15.base c15.len c15.cap, .slice c16.base c16.len c16.cap, .slice c17.base c17.len c17.cap, .slice c14.base c14.len c14.cap] ty_suint8;
              Ext vh4 vh9 ∧
              HCalls Try.prog fn_slices_Concat_sbytebyte #[.slice (Sl.mk (some (nw vh8)) 5 5).base (Sl.mk (some (nw vh8)) 5 5).len (Sl.mk (some (nw vh8)) 5 5).cap] vh9 fun r7 vh10 =>
              ∃ c18 : Sl, r7 = .slice c18.base c18.len c18.cap ∧
              Ext vh4 vh10 ∧
              AppZ ty_uint8 1 1 #[.int .u8 (0 : Int)] c18 (iSub .i64 (60 : Int) (c18.len : Int)) vh10 fun s vh11 =>
              HCalls Try.prog fn_crc_Of #[.slice s.base s.len s.cap] vh11 fun r8 vh12 =>
              ∃ c19 : Int, r8 = .int .u32 c19 ∧
              HCalls Try.prog fn_bits_Put32 #[.int .u32 c19] vh12 fun r9 vh13 =>
              ∃ c20 : Sl, r9 = .slice c20.base c20.len c20.cap ∧
              AppC ty_uint8 1 1 #[.int .u8 (0 : Int)] s c20 vh13 fun s1 vh14 =>
              R (.tuple #[.slice s1.base s1.len s1.cap, .int .i64 (0 : Int)]) vh14) ∧
            (HCalls Try.prog fn_bits_Put32 #[.int .u32 (iConv .u32 c11)] vh4 fun r10 vh15 =>
              ∃ c21 : Sl, r10 = .slice c21.base c21.len c21.cap ∧
              Ext vh4 vh15 ∧
              (let vh16 := alc vh15 [.int .u8 (iConv .u8 c9), .int .u8 (iConv .u8 (c10.len : Int))] ty_uint8;
                Ext vh4 vh16 ∧
                HCalls Try.prog fn_bits_Put64 #[.int .u64 (iConv .u64 c12)] vh16 fun r11 vh17 =>
                ∃ c22 : Sl, r11 = .slice c22.base c22.len c22.cap ∧
                Ext vh4 vh17 ∧
                HCalls Try.prog fn_bits_Put32 #[.int .u32 (iConv .u32 c13)] vh17 fun r12 vh18 =>
                ∃ c23 : Sl, r12 = .slice c23.base c23.len c23.cap ∧
                Ext vh4 vh18 ∧
                let vh19 := alc vh18 [.slice (Sl.mk (some (nw vh15)) 2 2).base (Sl.mk (some (nw vh15)) 2 2).len (Sl.mk (some (nw vh15)) 2 2).cap, .slice c21.base c21.len c21.cap, .slice c22.base c22.len c22.cap, .slice c23.base c23.len c23.cap, .slice c14.base c14.len c14.cap] ty_suint8;
                Ext vh4 vh19 ∧
                HCalls Try.prog fn_slices_Concat_sbytebyte #[.slice (Sl.mk (some (nw vh18)) 5 5).base (Sl.mk (some (nw vh18)) 5 5).len (Sl.mk (some (nw vh18)) 5 5).cap] vh19 fun r13 vh20 =>
                ∃ c24 : Sl, r13 = .slice c24.base c24.len c24.cap ∧
                Ext vh4 vh20 ∧
                AppZ ty_uint8 1 1 #[.int .u8 (0 : Int)] c24 (iSub .i64 (60 : Int) (c24.len : Int)) vh20 fun s2 vh21 =>
                HCalls Try.prog fn_crc_Of #[.slice s2.base s2.len s2.cap] vh21 fun r14 vh22 =>
                ∃ c25 : Int, r14 = .int .u32 c25 ∧
                HCalls Try.prog fn_bits_Put32 #[.int .u32 c25] vh22 fun r15 vh23 =>
                ∃ c26 : Sl, r15 = .slice c26.base c26.len c26.cap ∧
                AppC ty_uint8 1 1 #[.int .u8 (0 : Int)] s2 c26 vh23 fun s3 vh24 =>
                R (.tuple #[.slice s3.base s3.len s3.cap, .int .i64 (0 : Int)]) vh24) ∧
              (HCalls Try.prog fn_bits_Put64 #[.int .u64 (iConv .u64 c12)] vh15 fun r16 vh25 =>
                ∃ c27 : Sl, r16 = .slice c27.base c27.len c27.cap ∧
                Ext vh4 vh25 ∧
                (let vh26 := alc vh25 [.int .u8 (iConv .u8 c9), .int .u8 (iConv .u8 (c10.len : Int))] ty_uint8;
                  Ext vh4 vh26 ∧
                  HCalls Try.prog fn_bits_Put32 #[.int .u32 (iConv .u32 c13)] vh26 fun r17 vh27 =>
                  ∃ c28 : Sl, r17 = .slice c28.base c28.len c28.cap ∧
                  Ext vh4 vh27 ∧
                  let vh28 := alc vh27 [.slice (Sl.mk (some (nw vh25)) 2 2).base (Sl.mk (some (nw vh25)) 2 2).len (Sl.mk (some (nw vh25)) 2 2).cap, .slice c21.base c21.len c21.cap, .slice c27.base c27.len c27.cap, .slice c28.base c28.len c28.cap, .slice c14.base c14.len c14.cap] ty_suint8;
                  Ext vh4 vh28 ∧
                  HCalls Try.prog fn_slices_Concat_sbytebyte #[.slice (Sl.mk (some (nw vh27)) 5 5).base (Sl.mk (some (nw vh27)) 5 5).len (Sl.mk (some (nw vh27)) 5 5).cap] vh28 fun r18 vh29 =>
                  ∃ c29 : Sl, r18 = .slice c29.base c29.len c29.cap ∧
                  Ext vh4 vh29 ∧
                  AppZ ty_uint8 1 1 #[.int .u8 (0 : Int)] c29 (iSub .i64 (60 : Int) (c29.len : Int)) vh29 fun s4 vh30 =>
                  HCalls Try.prog fn_crc_Of #[.slice s4.base s4.len s4.cap] vh30 fun r19 vh31 =>
                  ∃ c30 : Int, r19 = .int .u32 c30 ∧
                  HCalls Try.prog fn_bits_Put32 #[.int .u32 c30] vh31 fun r20 vh32 =>
                  ∃ c31 : Sl, r20 = .slice c31.base c31.len c31.cap ∧
                  AppC ty_uint8 1 1 #[.int .u8 (0 : Int)] s4 c31 vh32 fun s5 vh33 =>
                  R (.tuple #[.slice s5.base s5.len s5.cap, .int .i64 (0 : Int)]) vh33) ∧
                (HCalls Try.prog fn_bits_Put32 #[.int .u32 (iConv .u32 c13)] vh25 fun r21 vh34 =>
                  ∃ c32 : Sl, r21 = .slice c32.base c32.len c32.cap ∧
                  Ext vh4 vh34 ∧
                  let vh35 := alc vh34 [.int .u8 (iConv .u8 c9), .int .u8 (iConv .u8 (c10.len : Int))] ty_uint8;
                  Ext vh4 vh35 ∧
                  let vh36 := alc vh35 [.slice (Sl.mk (some (nw vh34)) 2 2).base (Sl.mk (some (nw vh34)) 2 2).len (Sl.mk (some (nw vh34)) 2 2).cap, .slice c21.base c21.len c21.cap, .slice c27.base c27.len c27.cap, .slice c32.base c32.len c32.cap, .slice c14.base c14.len c14.cap] ty_suint8;
                  Ext vh4 vh36 ∧
                  HCalls Try.prog fn_slices_Concat_sbytebyte #[.slice (Sl.mk (some (nw vh35)) 5 5).base (Sl.mk (some (nw vh35)) 5 5).len (Sl.mk (some (nw vh35)) 5 5).cap] vh36 fun r22 vh37 =>
                  ∃ c33 : Sl, r22 = .slice c33.base c33.len c33.cap ∧
                  Ext vh4 vh37 ∧
                  AppZ ty_uint8 1 1 #[.int .u8 (0 : Int)] c33 (iSub .i64 (60 : Int) (c33.len : Int)) vh37 fun s6 vh38 =>
                  HCalls Try.prog fn_crc_Of #[.slice s6.base s6.len s6.cap] vh38 fun r23 vh39 =>
                  ∃ c34 : Int, r23 = .int .u32 c34 ∧
                  HCalls Try.prog fn_bits_Put32 #[.int .u32 c34] vh39 fun r24 vh40 =>
                  ∃ c35 : Sl, r24 = .slice c35.base c35.len c35.cap ∧
                  AppC ty_uint8 1 1 #[.int .u8 (0 : Int)] s6 c35 vh40 fun s7 vh41 =>
                  R (.tuple #[.slice s7.base s7.len s7.cap, .int .i64 (0 : Int)]) vh41))))))))
theorem frame_Encode_vc {b : Int} {b1 : Int} {b2 : Int} {b3 : Int} {b4 : Sl} {h : Hp} {R : Value → Hp → Prop} (H : vcframe_Encode b b1 b2 b3 b4 h R) : HCalls Try.prog fn_frame_Encode #[.agg #[.int .i64 b, .int .i64 b1, .int .i64 b2, .int .i64 b3, .slice b4.base b4.len b4.cap]] h R :=
  vc_fn (annOf [] []) Try.func43 [.agg #[.int .i64 b, .int .i64 b1, .int .i64 b2, .int .i64 b3, .slice b4.base b4.len b4.cap]] (by kernel_rfl) (V := vcframe_Encode b b1 b2 b3 b4 h R) (by kernel_rfl) H

def vcbits_Get64 (b : Sl) (h : Hp) (R : Value → Hp → Prop) : Prop :=
  HCalls Try.prog fn_bits_get #[.slice b.base b.len b.cap, .int .i64 (8 : Int)] h fun r vh =>
  ∃ c : Int, ∃ c1 : Bool, r = .tuple #[.int .u64 c, .bool c1] ∧
  R (.tuple #[.int .u64 c, .bool c1]) vh
theorem bits_Get64_vc {b : Sl} {h : Hp} {R : Value → Hp → Prop} (H : vcbits_Get64 b h R) : HCalls Try.prog fn_bits_Get64 #[.slice b.base b.len b.cap] h R :=
  vc_fn (annOf [] []) Try.func45 [.slice b.base b.len b.cap] (by kernel_rfl) (V := vcbits_Get64 b h R) (by kernel_rfl) H

def vcbits_Get32 (b : Sl) (h : Hp) (R : Value → Hp → Prop) : Prop :=
  HCalls Try.prog fn_bits_get #[.slice b.base b.len b.cap, .int .i64 (4 : Int)] h fun r vh =>
  ∃ c : Int, ∃ c1 : Bool, r = .tuple #[.int .u64 c, .bool c1] ∧
  R (.tuple #[.int .u32 (iConv .u32 c), .bool c1]) vh
theorem bits_Get32_vc {b : Sl} {h : Hp} {R : Value → Hp → Prop} (H : vcbits_Get32 b h R) : HCalls Try.prog fn_bits_Get32 #[.slice b.base b.len b.cap] h R :=
  vc_fn (annOf [] []) Try.func46 [.slice b.base b.len b.cap] (by kernel_rfl) (V := vcbits_Get32 b h R) (by kernel_rfl) H

def vcslices_Concat_sbytebyte (slices : Sl) (h : Hp) (R : Value → Hp → Prop) : Prop :=
  ∃ (vI : Int → Int → Nat → Hp → Prop) (n : Nat), vI (0 : Int) (0 : Int) n h ∧
  ∀ _junk : Nat → Value, ∀ size : Int, ∀ t11 : Int, ∀ (n1 : Nat) (vh : Hp), vI size t11 n1 vh →
  IfB (decide (t11 < (slices.len : Int))) (∃ a : Addr, slices.base = some a ∧ 0 ≤ t11 ∧ t11 < (slices.len : Int) ∧
    ∃ c : Sl, hcell vh (a.add ((t11).toNat * 1)) = some (.slice c.base c.len c.cap) ∧
    IfB (decide ((iAdd .i64 size (c.len : Int)) < (0 : Int))) (False)
    (∃ n2, n2 < n1 ∧ vI (iAdd .i64 size (c.len : Int)) (iAdd .i64 t11 (1 : Int)) n2 vh))
  (HCalls Try.prog fn_slices_Grow_sbytebyte #[.slice Sl.nil.base Sl.nil.len Sl.nil.cap, .int .i64 size] vh fun r vh1 =>
    ∃ c1 : Sl, r = .slice c1.base c1.len c1.cap ∧
    ∃ (vI1 : Sl → Int → Nat → Hp → Prop) (n3 : Nat), vI1 c1 (0 : Int) n3 vh1 ∧
    ∀ _junk : Nat → Value, ∀ newslice : Sl, ∀ t27 : Int, ∀ (n4 : Nat) (vh2 : Hp), vI1 newslice t27 n4 vh2 →
    IfB (decide (t27 < (slices.len : Int))) (∃ a1 : Addr, slices.base = some a1 ∧ 0 ≤ t27 ∧ t27 < (slices.len : Int) ∧
      ∃ c2 : Sl, hcell vh2 (a1.add ((t27).toNat * 1)) = some (.slice c2.base c2.len c2.cap) ∧
      AppC ty_uint8 1 1 #[.int .u8 (0 : Int)] newslice c2 vh2 fun s vh3 =>
      ∃ n5, n5 < n4 ∧ vI1 s (iAdd .i64 t27 (1 : Int)) n5 vh3)
    (R (.slice newslice.base newslice.len newslice.cap) vh2))
theorem slices_Concat_sbytebyte_vc {slices : Sl} {h : Hp} {R : Value → Hp → Prop} (H : vcslices_Concat_sbytebyte slices h R) : HCalls Try.prog fn_slices_Concat_sbytebyte #[.slice slices.base slices.len slices.cap] h R :=
  vc_fn (annOf [(0, [(3, .int .i64), (11, .int .i64)]), (1, [(6, .sl), (27, .int .i64)])] []) Try.func47 [.slice slices.base slices.len slices.cap] (by kernel_rfl) (V := vcslices_Concat_sbytebyte slices h R) (by kernel_rfl) H

def vcbits_Put32 (v : Int) (h : Hp) (R : Value → Hp → Prop) : Prop :=
  HCalls Try.prog fn_bits_put #[.int .u64 (iConv .u64 v), .int .i64 (4 : Int)] h fun r vh =>
  ∃ c : Sl, r = .slice c.base c.len c.cap ∧
  R (.slice c.base c.len c.cap) vh
theorem bits_Put32_vc {v : Int} {h : Hp} {R : Value → Hp → Prop} (H : vcbits_Put32 v h R) : HCalls Try.prog fn_bits_Put32 #[.int .u32 v] h R :=
  vc_fn (annOf [] []) Try.func48 [.int .u32 v] (by kernel_rfl) (V := vcbits_Put32 v h R) (by kernel_rfl) H

def vccrc_Of (b : Sl) (h : Hp) (R : Value → Hp → Prop) : Prop :=
  HCalls Try.prog fn_crc_New #[] h fun r vh =>
  ∃ c : Option Addr, r = .pointer c ∧
  HCalls Try.prog fn_crc_Sum_Add #[.pointer c, .slice b.base b.len b.cap] vh fun r1 vh1 =>
  ∃ c1 : Option Addr, r1 = .pointer c1 ∧
  HCalls Try.prog fn_crc_Sum_Value #[.pointer c1] vh1 fun r2 vh2 =>
  ∃ c2 : Int, r2 = .int .u32 c2 ∧
  R (.int .u32 c2) vh2
theorem crc_Of_vc {b : Sl} {h : Hp} {R : Value → Hp → Prop} (H : vccrc_Of b h R) : HCalls Try.prog fn_crc_Of #[.slice b.base b.len b.cap] h R :=
  vc_fn (annOf [] []) Try.func49 [.slice b.base b.len b.cap] (by kernel_rfl) (V := vccrc_Of b h R) (by kernel_rfl) H

def vcframe_within (n : Int) (low : Int) (high : Int) (h : Hp) (R : Value → Hp → Prop) : Prop :=
  IfB (decide (low ≤ n)) (R (.bool (decide (n ≤ high))) h)
  (R (.bool false) h)
theorem frame_within_vc {n : Int} {low : Int} {high : Int} {h : Hp} {R : Value → Hp → Prop} (H : vcframe_within n low high h R) : HCalls Try.prog fn_frame_within #[.int .i64 n, .int .i64 low, .int .i64 high] h R :=
  vc_fn (annOf [] []) Try.func50 [.int .i64 n, .int .i64 low, .int .i64 high] (by kernel_rfl) (V := vcframe_within n low high h R) (by kernel_rfl) H

def vcbits_Put64 (v : Int) (h : Hp) (R : Value → Hp → Prop) : Prop :=
  HCalls Try.prog fn_bits_put #[.int .u64 v, .int .i64 (8 : Int)] h fun r vh =>
  ∃ c : Sl, r = .slice c.base c.len c.cap ∧
  R (.slice c.base c.len c.cap) vh
theorem bits_Put64_vc {v : Int} {h : Hp} {R : Value → Hp → Prop} (H : vcbits_Put64 v h R) : HCalls Try.prog fn_bits_Put64 #[.int .u64 v] h R :=
  vc_fn (annOf [] []) Try.func51 [.int .u64 v] (by kernel_rfl) (V := vcbits_Put64 v h R) (by kernel_rfl) H

def vcbits_get (b : Sl) (n : Int) (h : Hp) (R : Value → Hp → Prop) : Prop :=
  IfB (decide ((b.len : Int) < n)) (R (.tuple #[.int .u64 (0 : Int), .bool false]) h)
  (∃ (vI : Int → Int → Nat → Hp → Prop) (n1 : Nat), vI (0 : Int) (0 : Int) n1 h ∧
    ∀ _junk : Nat → Value, ∀ v : Int, ∀ t12 : Int, ∀ (n2 : Nat) (vh : Hp), vI v t12 n2 vh →
    IfB (decide (t12 < n)) (∃ a : Addr, b.base = some a ∧ 0 ≤ t12 ∧ t12 < (b.len : Int) ∧
      ∃ c : Int, hcell vh (a.add ((t12).toNat * 1)) = some (.int .u8 c) ∧
      0 ≤ (iMul .i64 (8 : Int) t12) ∧
      ∃ n3, n3 < n2 ∧ vI (iOr .u64 v (iShl .u64 (iConv .u64 c) (iMul .i64 (8 : Int) t12))) (iAdd .i64 t12 (1 : Int)) n3 vh)
    (R (.tuple #[.int .u64 v, .bool true]) vh))
theorem bits_get_vc {b : Sl} {n : Int} {h : Hp} {R : Value → Hp → Prop} (H : vcbits_get b n h R) : HCalls Try.prog fn_bits_get #[.slice b.base b.len b.cap, .int .i64 n] h R :=
  vc_fn (annOf [(0, [(4, .int .u64), (12, .int .i64)])] []) Try.func52 [.slice b.base b.len b.cap, .int .i64 n] (by kernel_rfl) (V := vcbits_get b n h R) (by kernel_rfl) H

def vcslices_Grow_sbytebyte (s : Sl) (n : Int) (h : Hp) (R : Value → Hp → Prop) : Prop :=
  IfB (decide (n < (0 : Int))) (False)
  (IfB (decide ((iSub .i64 n (iSub .i64 (s.cap : Int) (s.len : Int))) > (0 : Int))) (0 ≤ (0 : Int) ∧ (0 : Int) ≤ (s.cap : Int) ∧ (s.cap : Int) ≤ (s.cap : Int) ∧ (s.cap : Int) ≤ (s.cap : Int) ∧
      AppZ ty_uint8 1 1 #[.int .u8 (0 : Int)] (cutSl s (0 : Int) (s.cap : Int) (s.cap : Int) 1) (iSub .i64 n (iSub .i64 (s.cap : Int) (s.len : Int))) h fun s1 vh =>
      0 ≤ (0 : Int) ∧ (0 : Int) ≤ (s.len : Int) ∧ (s.len : Int) ≤ (s1.cap : Int) ∧ (s1.cap : Int) ≤ (s1.cap : Int) ∧
      R (.slice (cutSl s1 (0 : Int) (s.len : Int) (s1.cap : Int) 1).base (cutSl s1 (0 : Int) (s.len : Int) (s1.cap : Int) 1).len (cutSl s1 (0 : Int) (s.len : Int) (s1.cap : Int) 1).cap) vh)
    (R (.slice s.base s.len s.cap) h))
theorem slices_Grow_sbytebyte_vc {s : Sl} {n : Int} {h : Hp} {R : Value → Hp → Prop} (H : vcslices_Grow_sbytebyte s n h R) : HCalls Try.prog fn_slices_Grow_sbytebyte #[.slice s.base s.len s.cap, .int .i64 n] h R :=
  vc_fn (annOf [] []) Try.func53 [.slice s.base s.len s.cap, .int .i64 n] (by kernel_rfl) (V := vcslices_Grow_sbytebyte s n h R) (by kernel_rfl) H

def vcbits_put (v : Int) (n : Int) (h : Hp) (R : Value → Hp → Prop) : Prop :=
  MkC ty_uint8 1 #[.int .u8 (0 : Int)] n n h fun s vh =>
  ∃ (vI : Int → Nat → Hp → Prop) (n1 : Nat), vI (0 : Int) n1 vh ∧
  ∀ _junk : Nat → Value, ∀ t11 : Int, ∀ (n2 : Nat) (vh1 : Hp), vI t11 n2 vh1 →
  IfB (decide (t11 < (s.len : Int))) (0 ≤ (iMul .i64 (8 : Int) t11) ∧
    ∃ a : Addr, s.base = some a ∧ 0 ≤ t11 ∧ t11 < (s.len : Int) ∧
    StOk vh1 (a.add ((t11).toNat * 1)) ∧
    Lt (hset vh1 (a.add ((t11).toNat * 1)) (.int .u8 (iConv .u8 (iShr .u64 v (iMul .i64 (8 : Int) t11))))) fun vh2 =>
    ∃ n3, n3 < n2 ∧ vI (iAdd .i64 t11 (1 : Int)) n3 vh2)
  (R (.slice s.base s.len s.cap) vh1)
theorem bits_put_vc {v : Int} {n : Int} {h : Hp} {R : Value → Hp → Prop} (H : vcbits_put v n h R) : HCalls Try.prog fn_bits_put #[.int .u64 v, .int .i64 n] h R :=
  vc_fn (annOf [(0, [(11, .int .i64)])] []) Try.func54 [.int .u64 v, .int .i64 n] (by kernel_rfl) (V := vcbits_put v n h R) (by kernel_rfl) H

def vccrc_New (h : Hp) (R : Value → Hp → Prop) : Prop :=
  let vh := alc h [.int .u32 (0 : Int)] ty_crc_Sum;
  R (.pointer (some (nw h))) vh
theorem crc_New_vc {h : Hp} {R : Value → Hp → Prop} (H : vccrc_New h R) : HCalls Try.prog fn_crc_New #[] h R :=
  vc_fn (annOf [] []) Try.func55 [] (by kernel_rfl) (V := vccrc_New h R) (by kernel_rfl) H

def vccrc_Sum_Add (s : Option Addr) (b : Sl) (h : Hp) (R : Value → Hp → Prop) : Prop :=
  IfB (isNone? s) (R (.pointer none) h)
  (∃ a : Addr, s = some a ∧
    ∃ c : Int, hcell h a = some (.int .u32 c) ∧
    ∃ (vI : Int → Int → Nat → Hp → Prop) (n : Nat), vI (iNot .u32 c) (0 : Int) n h ∧
    ∀ _junk : Nat → Value, ∀ r : Int, ∀ t17 : Int, ∀ (n1 : Nat) (vh : Hp), vI r t17 n1 vh →
    IfB (decide (t17 < (b.len : Int))) (∃ a1 : Addr, b.base = some a1 ∧ 0 ≤ t17 ∧ t17 < (b.len : Int) ∧
      ∃ c1 : Int, hcell vh (a1.add ((t17).toNat * 1)) = some (.int .u8 c1) ∧
      ∃ (vI1 : Int → Int → Nat → Hp → Prop) (n3 : Nat), vI1 (iXor .u32 r (iConv .u32 c1)) (0 : Int) n3 vh ∧
      ∀ _junk : Nat → Value, ∀ r1 : Int, ∀ t25 : Int, ∀ (n4 : Nat) (vh1 : Hp), vI1 r1 t25 n4 vh1 →
      IfB (decide (t25 < (8 : Int))) (0 ≤ (1 : Int) ∧
        ∃ n5, n5 < n4 ∧ vI1 (iXor .u32 (iShr .u32 r1 (1 : Int)) (iAnd .u32 (2197175160 : Int) (iNeg .u32 (iAnd .u32 r1 (1 : Int))))) (iAdd .i64 t25 (1 : Int)) n5 vh1)
      (∃ n2, n2 < n1 ∧ vI r1 (iAdd .i64 t17 (1 : Int)) n2 vh1))
    (∃ a2 : Addr, s = some a2 ∧
      StOk vh a2 ∧
      Lt (hset vh a2 (.int .u32 (iNot .u32 r))) fun vh2 =>
      R (.pointer s) vh2))
theorem crc_Sum_Add_vc {s : Option Addr} {b : Sl} {h : Hp} {R : Value → Hp → Prop} (H : vccrc_Sum_Add s b h R) : HCalls Try.prog fn_crc_Sum_Add #[.pointer s, .slice b.base b.len b.cap] h R :=
  vc_fn (annOf [(0, [(5, .int .u32), (17, .int .i64)]), (1, [(5, .int .u32), (25, .int .i64)])] []) Try.func56 [.pointer s, .slice b.base b.len b.cap] (by kernel_rfl) (V := vccrc_Sum_Add s b h R) (by kernel_rfl) H

def vccrc_Sum_Value (s : Option Addr) (h : Hp) (R : Value → Hp → Prop) : Prop :=
  IfB (isNone? s) (R (.int .u32 (0 : Int)) h)
  (∃ a : Addr, s = some a ∧
    ∃ c : Int, hcell h a = some (.int .u32 c) ∧
    R (.int .u32 c) h)
theorem crc_Sum_Value_vc {s : Option Addr} {h : Hp} {R : Value → Hp → Prop} (H : vccrc_Sum_Value s h R) : HCalls Try.prog fn_crc_Sum_Value #[.pointer s] h R :=
  vc_fn (annOf [] []) Try.func57 [.pointer s] (by kernel_rfl) (V := vccrc_Sum_Value s h R) (by kernel_rfl) H

def vczdev_Dev_Crash (d : Option Addr) (picks : Sl) (torn : Sl) (h : Hp) (R : Value → Hp → Prop) : Prop :=
  HCalls Try.prog fn_zdev_Dev_gone #[.pointer d] h fun r vh =>
  ∃ c : Bool, r = .bool c ∧
  IfB c (R (.pointer none) vh)
  (∃ a : Addr, d = some a ∧
    ∃ c1 : Int, ∃ c2 : Int, hcell vh (a) = some (.int .i64 c1) ∧ hcell vh (a.add 1) = some (.int .i64 c2) ∧
    HCalls Try.prog fn_zdev_New #[.agg #[.int .i64 c1, .int .i64 c2]] vh fun r1 vh1 =>
    ∃ c3 : Option Addr, ∃ c4 : Int, r1 = .tuple #[.pointer c3, .int .i64 c4] ∧
    ∃ a1 : Addr, d = some a1 ∧
    ∃ c5 : Sl, hcell vh1 (a1.add 2) = some (.slice c5.base c5.len c5.cap) ∧
    ∃ (vI : Int → Nat → Hp → Prop) (n : Nat), vI (0 : Int) n vh1 ∧
    ∀ _junk : Nat → Value, ∀ t33 : Int, ∀ (n1 : Nat) (vh2 : Hp), vI t33 n1 vh2 →
    IfB (decide (t33 < (c5.len : Int))) (∃ a2 : Addr, c5.base = some a2 ∧ 0 ≤ t33 ∧ t33 < (c5.len : Int) ∧
      ∃ c6 : Option Addr, hcell vh2 (a2.add ((t33).toNat * 1)) = some (.pointer c6) ∧
      ∃ a3 : Addr, c6 = some a3 ∧
      ∃ c7 : Int, hcell vh2 (a3.add 1) = some (.int .i64 c7) ∧
      ∃ a4 : Addr, c6 = some a4 ∧
      ∃ c8 : Sl, hcell vh2 a4 = some (.slice c8.base c8.len c8.cap) ∧
      ∃ vJ : Int → Hp → Prop,
      (HCalls Try.prog fn_zdev_pick #[.slice picks.base picks.len picks.cap, .int .i64 t33] vh2 fun r2 vh3 =>
        ∃ c9 : Int, ∃ c10 : Bool, r2 = .tuple #[.int .i64 c9, .bool c10] ∧
        IfB c10 (HCalls Try.prog fn_zdev_rest #[.int .i64 c9, .int .i64 (iAdd .i64 (iSub .i64 (c8.len : Int) c7) (1 : Int))] vh3 fun r3 vh4 =>
          ∃ c11 : Int, r3 = .int .i64 c11 ∧
          vJ (iAdd .i64 c7 c11) vh4)
        (vJ c7 vh3)) ∧
      ∀ _junk : Nat → Value, ∀ n3 : Int, ∀ vh5 : Hp, vJ n3 vh5 →
      ∃ a5 : Addr, c6 = some a5 ∧
      ∃ c12 : Sl, hcell vh5 a5 = some (.slice c12.base c12.len c12.cap) ∧
      0 ≤ (0 : Int) ∧ (0 : Int) ≤ n3 ∧ n3 ≤ (c12.cap : Int) ∧ (c12.cap : Int) ≤ (c12.cap : Int) ∧
      HCalls Try.prog fn_zdev_own #[.slice (cutSl c12 (0 : Int) n3 (c12.cap : Int) 1).base (cutSl c12 (0 : Int) n3 (c12.cap : Int) 1).len (cutSl c12 (0 : Int) n3 (c12.cap : Int) 1).cap] vh5 fun r4 vh6 =>
      ∃ c13 : Sl, r4 = .slice c13.base c13.len c13.cap ∧
      ∃ vJ1 : Sl → Hp → Prop,
      (HCalls Try.prog fn_zdev_pick #[.slice torn.base torn.len torn.cap, .int .i64 t33] vh6 fun r5 vh7 =>
        ∃ c14 : Int, ∃ c15 : Bool, r5 = .tuple #[.int .i64 c14, .bool c15] ∧
        IfB c15 (IfB (decide (n3 < (c8.len : Int))) ((2 : Int) ≠ 0 ∧
            IfB ((iRem c14 (2 : Int)) != (0 : Int)) (∃ a6 : Addr, c6 = some a6 ∧
              ∃ c16 : Sl, hcell vh7 a6 = some (.slice c16.base c16.len c16.cap) ∧
              ∃ a7 : Addr, c16.base = some a7 ∧ 0 ≤ n3 ∧ n3 < (c16.len : Int) ∧
              ∃ c17 : Sl, hcell vh7 (a7.add ((n3).toNat * 1)) = some (.slice c17.base c17.len c17.cap) ∧
              HCalls Try.prog fn_zdev_tear #[.slice c17.base c17.len c17.cap] vh7 fun r6 vh8 =>
              ∃ c18 : Sl, r6 = .slice c18.base c18.len c18.cap ∧
              let vh9 := alc vh8 [.slice c18.base c18.len c18.cap] ty_suint8;
              AppC ty_suint8 1 24 #[.slice Sl.nil.base Sl.nil.len Sl.nil.cap] c13 (Sl.mk (some (nw vh8)) 1 1) vh9 fun s vh10 =>
              vJ1 s vh10)
            (vJ1 c13 vh7))
          (vJ1 c13 vh7))
        (vJ1 c13 vh7)) ∧
      ∀ _junk : Nat → Value, ∀ l : Sl, ∀ vh11 : Hp, vJ1 l vh11 →
      ∃ a8 : Addr, c3 = some a8 ∧
      ∃ c19 : Sl, hcell vh11 (a8.add 2) = some (.slice c19.base c19.len c19.cap) ∧
      ∃ a9 : Addr, c19.base = some a9 ∧ 0 ≤ t33 ∧ t33 < (c19.len : Int) ∧
      ∃ c20 : Option Addr, hcell vh11 (a9.add ((t33).toNat * 1)) = some (.pointer c20) ∧
      ∃ a10 : Addr, c20 = some a10 ∧
      stCells a10 0 [.slice l.base l.len l.cap, .int .i64 (l.len : Int)] vh11 fun vh12 =>
      ∃ n2, n2 < n1 ∧ vI (iAdd .i64 t33 (1 : Int)) n2 vh12)
    (R (.pointer c3) vh2))
theorem zdev_Dev_Crash_vc {d : Option Addr} {picks : Sl} {torn : Sl} {h : Hp} {R : Value → Hp → Prop} (H : vczdev_Dev_Crash d picks torn h R) : HCalls Try.prog fn_zdev_Dev_Crash #[.pointer d, .slice picks.base picks.len picks.cap, .slice torn.base torn.len torn.cap] h R :=
  vc_fn (annOf [(0, [(33, .int .i64)])] [(11, [(11, .int .i64)]), (15, [(15, .sl)])]) Try.func19 [.pointer d, .slice picks.base picks.len picks.cap, .slice torn.base torn.len torn.cap] (by kernel_rfl) (V := vczdev_Dev_Crash d picks torn h R) (by kernel_rfl) H

def vczdev_Dev_begin (d : Option Addr) (h : Hp) (R : Value → Hp → Prop) : Prop :=
  ∃ a : Addr, d = some a ∧
  ∃ c : Int, hcell h (a.add 3) = some (.int .i64 c) ∧
  ∃ a1 : Addr, d = some a1 ∧
  StOk h (a1.add 3) ∧
  Lt (hset h (a1.add 3) (.int .i64 (iAdd .i64 c (1 : Int)))) fun vh =>
  ∃ vJ : Hp → Prop,
  (∃ a2 : Addr, d = some a2 ∧
    ∃ c1 : Bool, hcell vh (a2.add 7) = some (.bool c1) ∧
    IfB c1 (∃ a3 : Addr, d = some a3 ∧
      StOk vh (a3.add 7) ∧
      Lt (hset vh (a3.add 7) (.bool true)) fun vh1 =>
      vJ vh1)
    (∃ a4 : Addr, d = some a4 ∧
      ∃ c2 : Bool, hcell vh (a4.add 5) = some (.bool c2) ∧
      IfB c2 (∃ a5 : Addr, d = some a5 ∧
        ∃ c3 : Int, hcell vh (a5.add 6) = some (.int .i64 c3) ∧
        ∃ a6 : Addr, d = some a6 ∧
        StOk vh (a6.add 7) ∧
        Lt (hset vh (a6.add 7) (.bool (decide (c3 < (1 : Int))))) fun vh2 =>
        vJ vh2)
      (∃ a7 : Addr, d = some a7 ∧
        StOk vh (a7.add 7) ∧
        Lt (hset vh (a7.add 7) (.bool false)) fun vh3 =>
        vJ vh3))) ∧
  ∀ _junk : Nat → Value, ∀ vh4 : Hp, vJ vh4 →
  ∃ a8 : Addr, d = some a8 ∧
  ∃ c4 : Bool, hcell vh4 (a8.add 7) = some (.bool c4) ∧
  IfB c4 (R (.bool false) vh4)
  (∃ a9 : Addr, d = some a9 ∧
    ∃ c5 : Bool, hcell vh4 (a9.add 5) = some (.bool c5) ∧
    IfB c5 (∃ a10 : Addr, d = some a10 ∧
      ∃ c6 : Int, hcell vh4 (a10.add 6) = some (.int .i64 c6) ∧
      ∃ a11 : Addr, d = some a11 ∧
      StOk vh4 (a11.add 6) ∧
      Lt (hset vh4 (a11.add 6) (.int .i64 (iSub .i64 c6 (1 : Int)))) fun vh5 =>
      R (.bool true) vh5)
    (R (.bool true) vh4))
theorem zdev_Dev_begin_vc {d : Option Addr} {h : Hp} {R : Value → Hp → Prop} (H : vczdev_Dev_begin d h R) : HCalls Try.prog fn_zdev_Dev_begin #[.pointer d] h R :=
  vc_fn (annOf [] [(3, [])]) Try.func41 [.pointer d] (by kernel_rfl) (V := vczdev_Dev_begin d h R) (by kernel_rfl) H

def vczdev_Dev_Append (d : Option Addr) (i : Int) (p : Sl) (h : Hp) (R : Value → Hp → Prop) : Prop :=
  HCalls Try.prog fn_zdev_Dev_at #[.pointer d, .int .i64 i] h fun r vh =>
  ∃ c : Option Addr, r = .pointer c ∧
  IfB (isNone? c) (R (.tuple #[.int .i64 (0 : Int), .int .i64 (1 : Int)]) vh)
  (IfB ((p.len : Int) != (64 : Int)) (R (.tuple #[.int .i64 (0 : Int), .int .i64 (3 : Int)]) vh)
    (HCalls Try.prog fn_zdev_Dev_begin #[.pointer d] vh fun r1 vh1 =>
      ∃ c1 : Bool, r1 = .bool c1 ∧
      IfB (!c1) (R (.tuple #[.int .i64 (0 : Int), .int .i64 (12 : Int)]) vh1)
      (∃ a : Addr, c = some a ∧
        ∃ c2 : Sl, hcell vh1 a = some (.slice c2.base c2.len c2.cap) ∧
        ∃ a1 : Addr, d = some a1 ∧
        ∃ c3 : Int, hcell vh1 (a1.add 1) = some (.int .i64 c3) ∧
        IfB (decide ((c2.len : Int) ≥ c3)) (R (.tuple #[.int .i64 (0 : Int), .int .i64 (9 : Int)]) vh1)
        (∃ hR : Hp, Sub hR vh1 ∧
          ∃ a2 : Addr, c = some a2 ∧
          ∃ c4 : Sl, hcell hR a2 = some (.slice c4.base c4.len c4.cap) ∧
          HCalls Try.prog fn_slices_Clone_sbytebyte #[.slice p.base p.len p.cap] vh1 fun r2 vh2 =>
          ∃ c5 : Sl, r2 = .slice c5.base c5.len c5.cap ∧
          Sub hR vh2 ∧
          let vh3 := alc vh2 [.slice c5.base c5.len c5.cap] ty_suint8;
          Sub hR vh3 ∧
          AppC ty_suint8 1 24 #[.slice Sl.nil.base Sl.nil.len Sl.nil.cap] c4 (Sl.mk (some (nw vh2)) 1 1) vh3 fun s vh4 =>
          Sub hR vh4 ∧
          ∃ a3 : Addr, c = some a3 ∧
          StOk vh4 a3 ∧
          Lt (hset vh4 a3 (.slice s.base s.len s.cap)) fun vh5 =>
          ∃ a4 : Addr, c = some a4 ∧
          ∃ c6 : Sl, hcell vh5 a4 = some (.slice c6.base c6.len c6.cap) ∧
          R (.tuple #[.int .i64 (iSub .i64 (c6.len : Int) (1 : Int)), .int .i64 (0 : Int)]) vh5))))
theorem zdev_Dev_Append_vc {d : Option Addr} {i : Int} {p : Sl} {h : Hp} {R : Value → Hp → Prop} (H : vczdev_Dev_Append d i p h R) : HCalls Try.prog fn_zdev_Dev_Append #[.pointer d, .int .i64 i, .slice p.base p.len p.cap] h R :=
  vc_fn (annOfL [] [] [10]) Try.func44 [.pointer d, .int .i64 i, .slice p.base p.len p.cap] (by kernel_rfl) (V := vczdev_Dev_Append d i p h R) (by kernel_rfl) H

def vcslot_Slots_Save (s : Option Addr) (text : Sl) (h : Hp) (R : Value → Hp → Prop) : Prop :=
  HCalls Try.prog fn_slot_Slots_Room #[.pointer s] h fun r vh =>
  ∃ c : Int, r = .int .i64 c ∧
  IfB (decide ((text.len : Int) > c)) (R (.int .i64 (7 : Int)) vh)
  (HCalls Try.prog fn_slot_Slots_Dead #[.pointer s] vh fun r1 vh1 =>
    ∃ c1 : Bool, r1 = .bool c1 ∧
    IfB c1 (R (.int .i64 (12 : Int)) vh1)
    (∃ hR : Hp, Sub hR vh1 ∧
      ∃ a : Addr, s = some a ∧
      ∃ c2 : Int, hcell hR (a.add 5) = some (.int .i64 c2) ∧
      ∃ a1 : Addr, s = some a1 ∧
      ∃ c3 : Int, hcell hR (a1.add 7) = some (.int .i64 c3) ∧
      HCalls Try.prog fn_slot_Slots_write #[.pointer s, .int .i64 (iSub .i64 (1 : Int) c2), .int .i64 (iAdd .i64 c3 (1 : Int)), .slice text.base text.len text.cap] vh1 fun r2 vh2 =>
      ∃ c4 : Int, r2 = .int .i64 c4 ∧
      Sub hR vh2 ∧
      IfB (c4 != (0 : Int)) (∃ a2 : Addr, s = some a2 ∧
        StOk vh2 (a2.add 8) ∧
        Lt (hset vh2 (a2.add 8) (.bool true)) fun vh3 =>
        R (.int .i64 c4) vh3)
      (∃ a3 : Addr, s = some a3 ∧
        ∃ a4 : Addr, s = some a4 ∧
        (∃ c5 : Int, hcell vh2 (a3.add 5) = some (.int .i64 c5) ∧
          True ∧
          (HCalls Try.prog fn_slices_Clone_sbytebyte #[.slice text.base text.len text.cap] vh2 fun r3 vh4 =>
            ∃ c6 : Sl, r3 = .slice c6.base c6.len c6.cap ∧
            True ∧
            ∃ c7 : Int, hcell vh4 (a4.add 7) = some (.int .i64 c7) ∧
            True ∧
            ∃ a5 : Addr, s = some a5 ∧
            StOk vh4 (a5.add 5) ∧
            Lt (hset vh4 (a5.add 5) (.int .i64 (iSub .i64 (1 : Int) c5))) fun vh5 =>
            True ∧
            ∃ a6 : Addr, s = some a6 ∧
            StOk vh5 (a6.add 6) ∧
            Lt (hset vh5 (a6.add 6) (.slice c6.base c6.len c6.cap)) fun vh6 =>
            True ∧
            ∃ a7 : Addr, s = some a7 ∧
            StOk vh6 (a7.add 7) ∧
            Lt (hset vh6 (a7.add 7) (.int .i64 (iAdd .i64 c7 (1 : Int)))) fun vh7 =>
            R (.int .i64 (0 : Int)) vh7) ∧
          (∃ c8 : Int, hcell vh2 (a4.add 7) = some (.int .i64 c8) ∧
            True ∧
            HCalls Try.prog fn_slices_Clone_sbytebyte #[.slice text.base text.len text.cap] vh2 fun r4 vh8 =>
            ∃ c9 : Sl, r4 = .slice c9.base c9.len c9.cap ∧
            True ∧
            ∃ a8 : Addr, s = some a8 ∧
            StOk vh8 (a8.add 5) ∧
            Lt (hset vh8 (a8.add 5) (.int .i64 (iSub .i64 (1 : Int) c5))) fun vh9 =>
            True ∧
            ∃ a9 : Addr, s = some a9 ∧
            StOk vh9 (a9.add 6) ∧
            Lt (hset vh9 (a9.add 6) (.slice c9.base c9.len c9.cap)) fun vh10 =>
            True ∧
            ∃ a10 : Addr, s = some a10 ∧
            StOk vh10 (a10.add 7) ∧
            Lt (hset vh10 (a10.add 7) (.int .i64 (iAdd .i64 c8 (1 : Int)))) fun vh11 =>
            R (.int .i64 (0 : Int)) vh11)) ∧
        (HCalls Try.prog fn_slices_Clone_sbytebyte #[.slice text.base text.len text.cap] vh2 fun r5 vh12 =>
          ∃ c10 : Sl, r5 = .slice c10.base c10.len c10.cap ∧
          True ∧
          (∃ c11 : Int, hcell vh12 (a3.add 5) = some (.int .i64 c11) ∧
            True ∧
            ∃ c12 : Int, hcell vh12 (a4.add 7) = some (.int .i64 c12) ∧
            True ∧
            ∃ a11 : Addr, s = some a11 ∧
            StOk vh12 (a11.add 5) ∧
            Lt (hset vh12 (a11.add 5) (.int .i64 (iSub .i64 (1 : Int) c11))) fun vh13 =>
            True ∧
            ∃ a12 : Addr, s = some a12 ∧
            StOk vh13 (a12.add 6) ∧
            Lt (hset vh13 (a12.add 6) (.slice c10.base c10.len c10.cap)) fun vh14 =>
            True ∧
            ∃ a13 : Addr, s = some a13 ∧
            StOk vh14 (a13.add 7) ∧
            Lt (hset vh14 (a13.add 7) (.int .i64 (iAdd .i64 c12 (1 : Int)))) fun vh15 =>
            R (.int .i64 (0 : Int)) vh15) ∧
          (∃ c13 : Int, hcell vh12 (a4.add 7) = some (.int .i64 c13) ∧
            True ∧
            ∃ c14 : Int, hcell vh12 (a3.add 5) = some (.int .i64 c14) ∧
            True ∧
            ∃ a14 : Addr, s = some a14 ∧
            StOk vh12 (a14.add 5) ∧
            Lt (hset vh12 (a14.add 5) (.int .i64 (iSub .i64 (1 : Int) c14))) fun vh16 =>
            True ∧
            ∃ a15 : Addr, s = some a15 ∧
            StOk vh16 (a15.add 6) ∧
            Lt (hset vh16 (a15.add 6) (.slice c10.base c10.len c10.cap)) fun vh17 =>
            True ∧
            ∃ a16 : Addr, s = some a16 ∧
            StOk vh17 (a16.add 7) ∧
            Lt (hset vh17 (a16.add 7) (.int .i64 (iAdd .i64 c13 (1 : Int)))) fun vh18 =>
            R (.int .i64 (0 : Int)) vh18)) ∧
        (∃ c15 : Int, hcell vh2 (a4.add 7) = some (.int .i64 c15) ∧
          True ∧
          (∃ c16 : Int, hcell vh2 (a3.add 5) = some (.int .i64 c16) ∧
            True ∧
            HCalls Try.prog fn_slices_Clone_sbytebyte #[.slice text.base text.len text.cap] vh2 fun r6 vh19 =>
            ∃ c17 : Sl, r6 = .slice c17.base c17.len c17.cap ∧
            True ∧
            ∃ a17 : Addr, s = some a17 ∧
            StOk vh19 (a17.add 5) ∧
            Lt (hset vh19 (a17.add 5) (.int .i64 (iSub .i64 (1 : Int) c16))) fun vh20 =>
            True ∧
            ∃ a18 : Addr, s = some a18 ∧
            StOk vh20 (a18.add 6) ∧
            Lt (hset vh20 (a18.add 6) (.slice c17.base c17.len c17.cap)) fun vh21 =>
            True ∧
            ∃ a19 : Addr, s = some a19 ∧
            StOk vh21 (a19.add 7) ∧
            Lt (hset vh21 (a19.add 7) (.int .i64 (iAdd .i64 c15 (1 : Int)))) fun vh22 =>
            R (.int .i64 (0 : Int)) vh22) ∧
          (HCalls Try.prog fn_slices_Clone_sbytebyte #[.slice text.base text.len text.cap] vh2 fun r7 vh23 =>
            ∃ c18 : Sl, r7 = .slice c18.base c18.len c18.cap ∧
            True ∧
            ∃ c19 : Int, hcell vh23 (a3.add 5) = some (.int .i64 c19) ∧
            True ∧
            ∃ a20 : Addr, s = some a20 ∧
            StOk vh23 (a20.add 5) ∧
            Lt (hset vh23 (a20.add 5) (.int .i64 (iSub .i64 (1 : Int) c19))) fun vh24 =>
            True ∧
            ∃ a21 : Addr, s = some a21 ∧
            StOk vh24 (a21.add 6) ∧
            Lt (hset vh24 (a21.add 6) (.slice c18.base c18.len c18.cap)) fun vh25 =>
            True ∧
            ∃ a22 : Addr, s = some a22 ∧
            StOk vh25 (a22.add 7) ∧
            Lt (hset vh25 (a22.add 7) (.int .i64 (iAdd .i64 c15 (1 : Int)))) fun vh26 =>
            R (.int .i64 (0 : Int)) vh26)))))
theorem slot_Slots_Save_vc {s : Option Addr} {text : Sl} {h : Hp} {R : Value → Hp → Prop} (H : vcslot_Slots_Save s text h R) : HCalls Try.prog fn_slot_Slots_Save #[.pointer s, .slice text.base text.len text.cap] h R :=
  vc_fn (annOfB [] [] [5] [9]) Try.func14 [.pointer s, .slice text.base text.len text.cap] (by kernel_rfl) (V := vcslot_Slots_Save s text h R) (by kernel_rfl) H

def vcslot_Slots_write (s : Option Addr) (i : Int) (n : Int) (text : Sl) (h : Hp) (R : Value → Hp → Prop) : Prop :=
  ∃ a : Addr, s = some a ∧
  0 ≤ i ∧ i < ((3 : Nat) : Int) ∧
  ∃ c : Int, hcell h ((a.add 1).add ((i).toNat * 1)) = some (.int .i64 c) ∧
  ∃ (vI : Int → Nat → Hp → Prop) (n1 : Nat), vI c n1 h ∧
  ∀ _junk : Nat → Value, ∀ z : Int, ∀ (n2 : Nat) (vh : Hp), vI z n2 vh →
  ∃ a1 : Addr, s = some a1 ∧
  0 ≤ (iAdd .i64 i (1 : Int)) ∧ (iAdd .i64 i (1 : Int)) < ((3 : Nat) : Int) ∧
  ∃ c1 : Int, hcell vh ((a1.add 1).add (((iAdd .i64 i (1 : Int))).toNat * 1)) = some (.int .i64 c1) ∧
  IfB (decide (z < c1)) (∃ a2 : Addr, s = some a2 ∧
    ∃ c2 : Option Addr, hcell vh a2 = some (.pointer c2) ∧
    HCalls Try.prog fn_zdev_Dev_Pointer #[.pointer c2, .int .i64 z] vh fun r vh1 =>
    ∃ c3 : Int, ∃ c4 : Int, r = .tuple #[.int .i64 c3, .int .i64 c4] ∧
    IfB (decide (c3 > (0 : Int))) (∃ a3 : Addr, s = some a3 ∧
      ∃ c5 : Option Addr, hcell vh1 a3 = some (.pointer c5) ∧
      HCalls Try.prog fn_zdev_Dev_Reset #[.pointer c5, .int .i64 z] vh1 fun r1 vh2 =>
      ∃ c6 : Int, r1 = .int .i64 c6 ∧
      IfB (c6 != (0 : Int)) (R (.int .i64 c6) vh2)
      (∃ n3, n3 < n2 ∧ vI (iAdd .i64 z (1 : Int)) n3 vh2))
    (∃ n3, n3 < n2 ∧ vI (iAdd .i64 z (1 : Int)) n3 vh1))
  (let vh3 := alc vh [.int .i64 (3 : Int), .int .i64 (0 : Int), .int .i64 n, .int .i64 (0 : Int), .slice Sl.nil.base Sl.nil.len Sl.nil.cap] ty_frame_Block;
    ∃ (vI1 : Sl → Int → Nat → Hp → Prop) (n4 : Nat), vI1 (Sl.mk (some (nw vh)) 1 1) (0 : Int) n4 vh3 ∧
    ∀ _junk : Nat → Value, ∀ l : Sl, ∀ vat : Int, ∀ (n5 : Nat) (vh4 : Hp), vI1 l vat n5 vh4 →
    IfB (decide (vat < (text.len : Int))) (0 ≤ vat ∧ vat ≤ (if (text.len : Int) < (iAdd .i64 vat (40 : Int)) then (text.len : Int) else (iAdd .i64 vat (40 : Int))) ∧ (if (text.len : Int) < (iAdd .i64 vat (40 : Int)) then (text.len : Int) else (iAdd .i64 vat (40 : Int))) ≤ (text.cap : Int) ∧ (text.cap : Int) ≤ (text.cap : Int) ∧
      let vh5 := alc vh4 [.int .i64 (1 : Int), .int .i64 (0 : Int), .int .i64 n, .int .i64 (0 : Int), .slice (cutSl text vat (if (text.len : Int) < (iAdd .i64 vat (40 : Int)) then (text.len : Int) else (iAdd .i64 vat (40 : Int))) (text.cap : Int) 1).base (cutSl text vat (if (text.len : Int) < (iAdd .i64 vat (40 : Int)) then (text.len : Int) else (iAdd .i64 vat (40 : Int))) (text.cap : Int) 1).len (cutSl text vat (if (text.len : Int) < (iAdd .i64 vat (40 : Int)) then (text.len : Int) else (iAdd .i64 vat (40 : Int))) (text.cap : Int) 1).cap] ty_frame_Block;
      AppC ty_frame_Block 5 56 #[.int .i64 (0 : Int), .int .i64 (0 : Int), .int .i64 (0 : Int), .int .i64 (0 : Int), .slice Sl.nil.base Sl.nil.len Sl.nil.cap] l (Sl.mk (some (nw vh4)) 1 1) vh5 fun s1 vh6 =>
      ∃ n6, n6 < n5 ∧ vI1 s1 (iAdd .i64 vat (40 : Int)) n6 vh6)
    (HCalls Try.prog fn_slot_tail #[.slice text.base text.len text.cap] vh4 fun r2 vh7 =>
      ∃ c7 : Sl, r2 = .slice c7.base c7.len c7.cap ∧
      let vh8 := alc vh7 [.int .i64 (2 : Int), .int .i64 (0 : Int), .int .i64 n, .int .i64 (iSub .i64 (l.len : Int) (1 : Int)), .slice c7.base c7.len c7.cap] ty_frame_Block;
      AppC ty_frame_Block 5 56 #[.int .i64 (0 : Int), .int .i64 (0 : Int), .int .i64 (0 : Int), .int .i64 (0 : Int), .slice Sl.nil.base Sl.nil.len Sl.nil.cap] l (Sl.mk (some (nw vh7)) 1 1) vh8 fun s2 vh9 =>
      ∃ (vI2 : Int → Nat → Hp → Prop) (n7 : Nat), vI2 (0 : Int) n7 vh9 ∧
      ∀ _junk : Nat → Value, ∀ t90 : Int, ∀ (n8 : Nat) (vh10 : Hp), vI2 t90 n8 vh10 →
      IfB (decide (t90 < (s2.len : Int))) (∃ a4 : Addr, s2.base = some a4 ∧ 0 ≤ t90 ∧ t90 < (s2.len : Int) ∧
        ∃ c8 : Int, ∃ c9 : Int, ∃ c10 : Int, ∃ c11 : Int, ∃ c12 : Sl, hcell vh10 ((a4.add ((t90).toNat * 5))) = some (.int .i64 c8) ∧ hcell vh10 ((a4.add ((t90).toNat * 5)).add 1) = some (.int .i64 c9) ∧ hcell vh10 ((a4.add ((t90).toNat * 5)).add 2) = some (.int .i64 c10) ∧ hcell vh10 ((a4.add ((t90).toNat * 5)).add 3) = some (.int .i64 c11) ∧ hcell vh10 ((a4.add ((t90).toNat * 5)).add 4) = some (.slice c12.base c12.len c12.cap) ∧
        let vh11 := alc vh10 [.int .i64 (0 : Int), .int .i64 (0 : Int), .int .i64 (0 : Int), .int .i64 (0 : Int), .slice Sl.nil.base Sl.nil.len Sl.nil.cap] ty_frame_Block;
        stCells (nw vh10) 0 [.int .i64 c8, .int .i64 c9, .int .i64 c10, .int .i64 c11, .slice c12.base c12.len c12.cap] vh11 fun vh12 =>
        ∃ c13 : Int, ∃ c14 : Int, ∃ c15 : Int, ∃ c16 : Int, ∃ c17 : Sl, hcell vh12 ((nw vh10)) = some (.int .i64 c13) ∧ hcell vh12 ((nw vh10).add 1) = some (.int .i64 c14) ∧ hcell vh12 ((nw vh10).add 2) = some (.int .i64 c15) ∧ hcell vh12 ((nw vh10).add 3) = some (.int .i64 c16) ∧ hcell vh12 ((nw vh10).add 4) = some (.slice c17.base c17.len c17.cap) ∧
        HCalls Try.prog fn_frame_Encode #[.agg #[.int .i64 c13, .int .i64 c14, .int .i64 c15, .int .i64 c16, .slice c17.base c17.len c17.cap]] vh12 fun r3 vh13 =>
        ∃ c18 : Sl, ∃ c19 : Int, r3 = .tuple #[.slice c18.base c18.len c18.cap, .int .i64 c19] ∧
        ∃ vJ : Int → Hp → Prop,
        (IfB (c19 == (0 : Int)) (∃ hR : Hp, Sub hR vh13 ∧
            ∃ a5 : Addr, s = some a5 ∧
            ∃ c20 : Option Addr, hcell hR a5 = some (.pointer c20) ∧
            ∃ a6 : Addr, s = some a6 ∧
            0 ≤ i ∧ i < ((3 : Nat) : Int) ∧
            ∃ c21 : Int, hcell hR ((a6.add 1).add ((i).toNat * 1)) = some (.int .i64 c21) ∧
            ∃ a7 : Addr, s = some a7 ∧
            ∃ c22 : Int, hcell hR (a7.add 4) = some (.int .i64 c22) ∧
            c22 ≠ 0 ∧
            HCalls Try.prog fn_zdev_Dev_Append #[.pointer c20, .int .i64 (iAdd .i64 c21 (iQuo .i64 t90 c22)), .slice c18.base c18.len c18.cap] vh13 fun r4 vh14 =>
            ∃ c23 : Int, ∃ c24 : Int, r4 = .tuple #[.int .i64 c23, .int .i64 c24] ∧
            Sub hR vh14 ∧
            vJ c24 vh14)
          (vJ c19 vh13)) ∧
        ∀ _junk : Nat → Value, ∀ e : Int, ∀ vh15 : Hp, vJ e vh15 →
        IfB (e != (0 : Int)) (R (.int .i64 e) vh15)
        (∃ n9, n9 < n8 ∧ vI2 (iAdd .i64 t90 (1 : Int)) n9 vh15))
      (∃ a8 : Addr, s = some a8 ∧
        ∃ c25 : Option Addr, hcell vh10 a8 = some (.pointer c25) ∧
        HCalls Try.prog fn_zdev_Dev_Flush #[.pointer c25] vh10 fun r5 vh16 =>
        ∃ c26 : Int, r5 = .int .i64 c26 ∧
        R (.int .i64 c26) vh16)))
theorem slot_Slots_write_vc {s : Option Addr} {i : Int} {n : Int} {text : Sl} {h : Hp} {R : Value → Hp → Prop} (H : vcslot_Slots_write s i n text h R) : HCalls Try.prog fn_slot_Slots_write #[.pointer s, .int .i64 i, .int .i64 n, .slice text.base text.len text.cap] h R :=
  vc_fn (annOfL [(0, [(9, .int .i64)]), (1, [(13, .sl), (14, .int .i64)]), (2, [(90, .int .i64)])] [(21, [(18, .int .i64)])] [20]) Try.func28 [.pointer s, .int .i64 i, .int .i64 n, .slice text.base text.len text.cap] (by kernel_rfl) (V := vcslot_Slots_write s i n text h R) (by kernel_rfl) H

def vcscarplaw19_SlotPlays (mid : Int) (high : Int) (sizes : Sl) (h : Hp) (R : Value → Hp → Prop) : Prop :=
  IfB (decide ((sizes.len : Int) > (30 : Int))) (HCalls Try.prog fn_scarplaw19_awake #[] h fun r vh =>
    ∃ c : Bool, r = .bool c ∧
    R (.bool c) vh)
  (IfB (decide (mid < (1 : Int))) (HCalls Try.prog fn_scarplaw19_awake #[] h fun r1 vh1 =>
      ∃ c1 : Bool, r1 = .bool c1 ∧
      R (.bool c1) vh1)
    (IfB (decide (mid ≥ high)) (HCalls Try.prog fn_scarplaw19_awake #[] h fun r2 vh2 =>
        ∃ c2 : Bool, r2 = .bool c2 ∧
        R (.bool c2) vh2)
      (IfB (decide (high > (8 : Int))) (HCalls Try.prog fn_scarplaw19_awake #[] h fun r3 vh3 =>
          ∃ c3 : Bool, r3 = .bool c3 ∧
          R (.bool c3) vh3)
        (HCalls Try.prog fn_scarplaw19_dev #[] h fun r4 vh4 =>
          ∃ c4 : Option Addr, ∃ c5 : Bool, r4 = .tuple #[.pointer c4, .bool c5] ∧
          IfB (!c5) (R (.bool false) vh4)
          (HCalls Try.prog fn_slot_Open #[.pointer c4, .int .i64 (0 : Int), .int .i64 mid, .int .i64 high] vh4 fun r5 vh5 =>
            ∃ c6 : Option Addr, ∃ c7 : Int, r5 = .tuple #[.pointer c6, .int .i64 c7] ∧
            IfB (c7 != (0 : Int)) (R (.bool false) vh5)
            (IfB (isNone? c6) (R (.bool false) vh5)
              (HCalls Try.prog fn_slot_Slots_Room #[.pointer c6] vh5 fun r6 vh6 =>
                ∃ c8 : Int, r6 = .int .i64 c8 ∧
                IfB (c8 != (iMul .i64 (40 : Int) (iSub .i64 (iMul .i64 (if (iSub .i64 high mid) < mid then (iSub .i64 high mid) else mid) (96 : Int)) (2 : Int)))) (R (.bool false) vh6)
                (∃ (vI : Option Addr → Sl → Int → Int → Nat → Hp → Prop) (n : Nat), vI c6 Sl.nil (0 : Int) (0 : Int) n vh6 ∧
                  ∀ _junk : Nat → Value, ∀ s : Option Addr, ∀ want : Sl, ∀ n3 : Int, ∀ i : Int, ∀ (n1 : Nat) (vh7 : Hp), vI s want n3 i n1 vh7 →
                  IfB (decide (i < (sizes.len : Int))) (∃ a : Addr, sizes.base = some a ∧ 0 ≤ i ∧ i < (sizes.len : Int) ∧
                    ∃ c9 : Int, hcell vh7 (a.add ((i).toNat * 1)) = some (.int .i64 c9) ∧
                    HCalls Try.prog fn_scarpalike_Round #[.int .i64 c9, .int .i64 (4000 : Int)] vh7 fun r7 vh8 =>
                    ∃ c10 : Int, r7 = .int .i64 c10 ∧
                    ∃ vJ : Int → Hp → Prop,
                    ((5 : Int) ≠ 0 ∧
                      IfB ((iRem i (5 : Int)) == (4 : Int)) (∃ a1 : Addr, sizes.base = some a1 ∧ 0 ≤ i ∧ i < (sizes.len : Int) ∧
                        ∃ c11 : Int, hcell vh8 (a1.add ((i).toNat * 1)) = some (.int .i64 c11) ∧
                        HCalls Try.prog fn_scarpalike_Round #[.int .i64 c11, .int .i64 (3 : Int)] vh8 fun r8 vh9 =>
                        ∃ c12 : Int, r8 = .int .i64 c12 ∧
                        vJ (iSub .i64 (iAdd .i64 (iMul .i64 (40 : Int) (iSub .i64 (iMul .i64 (if (iSub .i64 high mid) < mid then (iSub .i64 high mid) else mid) (96 : Int)) (2 : Int))) c12) (1 : Int)) vh9)
                      (vJ c10 vh8)) ∧
                    ∀ _junk : Nat → Value, ∀ k : Int, ∀ vh10 : Hp, vJ k vh10 →
                    HCalls Try.prog fn_scarpalike_Block #[.int .i64 k, .int .i64 i] vh10 fun r9 vh11 =>
                    ∃ c13 : Sl, r9 = .slice c13.base c13.len c13.cap ∧
                    HCalls Try.prog fn_slot_Slots_Save #[.pointer s, .slice c13.base c13.len c13.cap] vh11 fun r10 vh12 =>
                    ∃ c14 : Int, r10 = .int .i64 c14 ∧
                    ∃ vJ1 : Sl → Int → Hp → Prop,
                    (IfB (decide (k > (iMul .i64 (40 : Int) (iSub .i64 (iMul .i64 (if (iSub .i64 high mid) < mid then (iSub .i64 high mid) else mid) (96 : Int)) (2 : Int))))) (IfB (c14 != (7 : Int)) (R (.bool false) vh12)
                        (vJ1 want n3 vh12))
                      (IfB (c14 != (0 : Int)) (R (.bool false) vh12)
                        (vJ1 c13 (iAdd .i64 n3 (1 : Int)) vh12))) ∧
                    ∀ _junk : Nat → Value, ∀ want1 : Sl, ∀ n4 : Int, ∀ vh13 : Hp, vJ1 want1 n4 vh13 →
                    HCalls Try.prog fn_slot_Slots_Load #[.pointer s] vh13 fun r11 vh14 =>
                    ∃ c15 : Sl, ∃ c16 : Int, r11 = .tuple #[.slice c15.base c15.len c15.cap, .int .i64 c16] ∧
                    HCalls Try.prog fn_scarpalike_Bytes #[.slice c15.base c15.len c15.cap, .slice want1.base want1.len want1.cap] vh14 fun r12 vh15 =>
                    ∃ c17 : Bool, r12 = .bool c17 ∧
                    IfB (!c17) (R (.bool false) vh15)
                    (IfB (c16 != n4) (R (.bool false) vh15)
                      ((3 : Int) ≠ 0 ∧
                        IfB ((iRem i (3 : Int)) == (2 : Int)) (HCalls Try.prog fn_slot_Open #[.pointer c4, .int .i64 (0 : Int), .int .i64 mid, .int .i64 high] vh15 fun r13 vh16 =>
                          ∃ c18 : Option Addr, ∃ c19 : Int, r13 = .tuple #[.pointer c18, .int .i64 c19] ∧
                          IfB (c19 != (0 : Int)) (R (.bool false) vh16)
                          (IfB (isNone? c18) (R (.bool false) vh16)
                            (∃ n2, n2 < n1 ∧ vI c18 want1 n4 (iAdd .i64 i (1 : Int)) n2 vh16)))
                        (∃ n2, n2 < n1 ∧ vI s want1 n4 (iAdd .i64 i (1 : Int)) n2 vh15))))
                  (HCalls Try.prog fn_slot_Slots_Load #[.pointer s] vh7 fun r14 vh17 =>
                    ∃ c20 : Sl, ∃ c21 : Int, r14 = .tuple #[.slice c20.base c20.len c20.cap, .int .i64 c21] ∧
                    HCalls Try.prog fn_scarpalike_Bytes #[.slice c20.base c20.len c20.cap, .slice want.base want.len want.cap] vh17 fun r15 vh18 =>
                    ∃ c22 : Bool, r15 = .bool c22 ∧
                    IfB c22 (IfB (c21 == n3) (HCalls Try.prog fn_scarplaw19_awake #[] vh18 fun r16 vh19 =>
                        ∃ c23 : Bool, r16 = .bool c23 ∧
                        R (.bool c23) vh19)
                      (R (.bool false) vh18))
                    (R (.bool false) vh18))))))))))
theorem scarplaw19_SlotPlays_vc {mid : Int} {high : Int} {sizes : Sl} {h : Hp} {R : Value → Hp → Prop} (H : vcscarplaw19_SlotPlays mid high sizes h R) : HCalls Try.prog fn_scarplaw19_SlotPlays #[.int .i64 mid, .int .i64 high, .slice sizes.base sizes.len sizes.cap] h R :=
  vc_fn (annOf [(0, [(9, .ptr), (12, .sl), (13, .int .i64), (14, .int .i64)])] [(20, [(15, .int .i64)]), (29, [(12, .sl), (13, .int .i64)])]) Try.func3 [.int .i64 mid, .int .i64 high, .slice sizes.base sizes.len sizes.cap] (by kernel_rfl) (V := vcscarplaw19_SlotPlays mid high sizes h R) (by kernel_rfl) H

def vcscarplaw19_SlotNothing (low : Int) (mid : Int) (high : Int) (h : Hp) (R : Value → Hp → Prop) : Prop :=
  HCalls Try.prog fn_scarplaw19_dev #[] h fun r vh =>
  ∃ c : Option Addr, ∃ c1 : Bool, r = .tuple #[.pointer c, .bool c1] ∧
  IfB (!c1) (R (.bool false) vh)
  (HCalls Try.prog fn_slot_Open #[.pointer c, .int .i64 low, .int .i64 mid, .int .i64 high] vh fun r1 vh1 =>
    ∃ c2 : Option Addr, ∃ c3 : Int, r1 = .tuple #[.pointer c2, .int .i64 c3] ∧
    HCalls Try.prog fn_slot_Open #[.pointer none, .int .i64 (0 : Int), .int .i64 (1 : Int), .int .i64 (2 : Int)] vh1 fun r2 vh2 =>
    ∃ c4 : Option Addr, ∃ c5 : Int, r2 = .tuple #[.pointer c4, .int .i64 c5] ∧
    HCalls Try.prog fn_slot_Slots_Load #[.pointer none] vh2 fun r3 vh3 =>
    ∃ c6 : Sl, ∃ c7 : Int, r3 = .tuple #[.slice c6.base c6.len c6.cap, .int .i64 c7] ∧
    ∃ vJ : Bool → Hp → Prop,
    (IfB (decide (low ≥ (0 : Int))) (IfB (decide (low < mid)) (IfB (decide (mid < high)) (vJ (decide (high ≤ (8 : Int))) vh3)
          (vJ false vh3))
        (vJ false vh3))
      (vJ false vh3)) ∧
    ∀ _junk : Nat → Value, ∀ may : Bool, ∀ vh4 : Hp, vJ may vh4 →
    IfB ((c3 == (0 : Int)) == may) (IfB ((!isNone? c2) == may) (IfB may (IfB (c5 == (1 : Int)) (HCalls Try.prog fn_slot_Slots_Room #[.pointer none] vh4 fun r4 vh5 =>
            ∃ c8 : Int, r4 = .int .i64 c8 ∧
            IfB (c8 == (0 : Int)) (let vh6 := alc vh5 [.int .u8 (120 : Int)] ty_uint8;
              ∃ a : Addr, (Sl.mk (some (nw vh5)) 1 1).base = some a ∧
              let vh7 := hstr vh6 a;
              HCalls Try.prog fn_slot_Slots_Save #[.pointer none, .slice (Sl.mk (some (nw vh5)) 1 1).base (Sl.mk (some (nw vh5)) 1 1).len (Sl.mk (some (nw vh5)) 1 1).cap] vh7 fun r5 vh8 =>
              ∃ c9 : Int, r5 = .int .i64 c9 ∧
              IfB (c9 == (7 : Int)) (HCalls Try.prog fn_slot_Slots_Save #[.pointer none, .slice Sl.nil.base Sl.nil.len Sl.nil.cap] vh8 fun r6 vh9 =>
                ∃ c10 : Int, r6 = .int .i64 c10 ∧
                IfB (c10 == (12 : Int)) (IfB ((c6.len : Int) == (0 : Int)) (IfB (c7 == (0 : Int)) (HCalls Try.prog fn_slot_Slots_Dead #[.pointer none] vh9 fun r7 vh10 =>
                      ∃ c11 : Bool, r7 = .bool c11 ∧
                      IfB c11 (HCalls Try.prog fn_scarplaw19_awake #[] vh10 fun r8 vh11 =>
                        ∃ c12 : Bool, r8 = .bool c12 ∧
                        R (.bool c12) vh11)
                      (R (.bool false) vh10))
                    (R (.bool false) vh9))
                  (R (.bool false) vh9))
                (R (.bool false) vh9))
              (R (.bool false) vh8))
            (R (.bool false) vh5))
          (R (.bool false) vh4))
        (IfB (c3 == (1 : Int)) (IfB (c5 == (1 : Int)) (HCalls Try.prog fn_slot_Slots_Room #[.pointer none] vh4 fun r9 vh12 =>
              ∃ c13 : Int, r9 = .int .i64 c13 ∧
              IfB (c13 == (0 : Int)) (let vh13 := alc vh12 [.int .u8 (120 : Int)] ty_uint8;
                ∃ a1 : Addr, (Sl.mk (some (nw vh12)) 1 1).base = some a1 ∧
                let vh14 := hstr vh13 a1;
                HCalls Try.prog fn_slot_Slots_Save #[.pointer none, .slice (Sl.mk (some (nw vh12)) 1 1).base (Sl.mk (some (nw vh12)) 1 1).len (Sl.mk (some (nw vh12)) 1 1).cap] vh14 fun r10 vh15 =>
                ∃ c14 : Int, r10 = .int .i64 c14 ∧
                IfB (c14 == (7 : Int)) (HCalls Try.prog fn_slot_Slots_Save #[.pointer none, .slice Sl.nil.base Sl.nil.len Sl.nil.cap] vh15 fun r11 vh16 =>
                  ∃ c15 : Int, r11 = .int .i64 c15 ∧
                  IfB (c15 == (12 : Int)) (IfB ((c6.len : Int) == (0 : Int)) (IfB (c7 == (0 : Int)) (HCalls Try.prog fn_slot_Slots_Dead #[.pointer none] vh16 fun r12 vh17 =>
                        ∃ c16 : Bool, r12 = .bool c16 ∧
                        IfB c16 (HCalls Try.prog fn_scarplaw19_awake #[] vh17 fun r13 vh18 =>
                          ∃ c17 : Bool, r13 = .bool c17 ∧
                          R (.bool c17) vh18)
                        (R (.bool false) vh17))
                      (R (.bool false) vh16))
                    (R (.bool false) vh16))
                  (R (.bool false) vh16))
                (R (.bool false) vh15))
              (R (.bool false) vh12))
            (R (.bool false) vh4))
          (R (.bool false) vh4)))
      (R (.bool false) vh4))
    (R (.bool false) vh4))
theorem scarplaw19_SlotNothing_vc {low : Int} {mid : Int} {high : Int} {h : Hp} {R : Value → Hp → Prop} (H : vcscarplaw19_SlotNothing low mid high h R) : HCalls Try.prog fn_scarplaw19_SlotNothing #[.int .i64 low, .int .i64 mid, .int .i64 high] h R :=
  vc_fn (annOf [] [(9, [(16, .bool)])]) Try.func4 [.int .i64 low, .int .i64 mid, .int .i64 high] (by kernel_rfl) (V := vcscarplaw19_SlotNothing low mid high h R) (by kernel_rfl) H

def vcscarplaw19_SlotCrash (sizes : Sl) (cut : Int) (picks : Sl) (torn : Sl) (cuts : Sl) (h : Hp) (R : Value → Hp → Prop) : Prop :=
  IfB (decide ((sizes.len : Int) > (20 : Int))) (HCalls Try.prog fn_scarplaw19_awake #[] h fun r vh =>
    ∃ c : Bool, r = .bool c ∧
    R (.bool c) vh)
  (IfB (decide (cut < (0 : Int))) (HCalls Try.prog fn_scarplaw19_awake #[] h fun r1 vh1 =>
      ∃ c1 : Bool, r1 = .bool c1 ∧
      R (.bool c1) vh1)
    (IfB (decide (cut > (1000 : Int))) (HCalls Try.prog fn_scarplaw19_awake #[] h fun r2 vh2 =>
        ∃ c2 : Bool, r2 = .bool c2 ∧
        R (.bool c2) vh2)
      (IfB (decide ((picks.len : Int) > (60 : Int))) (HCalls Try.prog fn_scarplaw19_awake #[] h fun r3 vh3 =>
          ∃ c3 : Bool, r3 = .bool c3 ∧
          R (.bool c3) vh3)
        (IfB (decide ((torn.len : Int) > (60 : Int))) (HCalls Try.prog fn_scarplaw19_awake #[] h fun r4 vh4 =>
            ∃ c4 : Bool, r4 = .bool c4 ∧
            R (.bool c4) vh4)
          (IfB (decide ((cuts.len : Int) > (5 : Int))) (HCalls Try.prog fn_scarplaw19_awake #[] h fun r5 vh5 =>
              ∃ c5 : Bool, r5 = .bool c5 ∧
              R (.bool c5) vh5)
            (HCalls Try.prog fn_scarplaw19_dev #[] h fun r6 vh6 =>
              ∃ c6 : Option Addr, ∃ c7 : Bool, r6 = .tuple #[.pointer c6, .bool c7] ∧
              IfB (!c7) (R (.bool false) vh6)
              (HCalls Try.prog fn_slot_Open #[.pointer c6, .int .i64 (2 : Int), .int .i64 (4 : Int), .int .i64 (6 : Int)] vh6 fun r7 vh7 =>
                ∃ c8 : Option Addr, ∃ c9 : Int, r7 = .tuple #[.pointer c8, .int .i64 c9] ∧
                IfB (c9 != (0 : Int)) (R (.bool false) vh7)
                (IfB (isNone? c8) (R (.bool false) vh7)
                  (HCalls Try.prog fn_zdev_Dev_Cut #[.pointer c6, .int .i64 cut] vh7 fun r8 vh8 =>
                    r8 = .tuple #[] ∧
                    ∃ vJ : Sl → Sl → Int → Hp → Prop,
                    (∃ (vI : Sl → Sl → Int → Int → Nat → Hp → Prop) (n : Nat), vI Sl.nil Sl.nil (0 : Int) (0 : Int) n vh8 ∧
                      ∀ _junk : Nat → Value, ∀ kept : Sl, ∀ may : Sl, ∀ n3 : Int, ∀ i : Int, ∀ (n1 : Nat) (vh9 : Hp), vI kept may n3 i n1 vh9 →
                      IfB (decide (i < (sizes.len : Int))) (∃ a : Addr, sizes.base = some a ∧ 0 ≤ i ∧ i < (sizes.len : Int) ∧
                        ∃ c10 : Int, hcell vh9 (a.add ((i).toNat * 1)) = some (.int .i64 c10) ∧
                        HCalls Try.prog fn_scarpalike_Round #[.int .i64 c10, .int .i64 (3000 : Int)] vh9 fun r9 vh10 =>
                        ∃ c11 : Int, r9 = .int .i64 c11 ∧
                        HCalls Try.prog fn_scarpalike_Block #[.int .i64 c11, .int .i64 i] vh10 fun r10 vh11 =>
                        ∃ c12 : Sl, r10 = .slice c12.base c12.len c12.cap ∧
                        HCalls Try.prog fn_slot_Slots_Save #[.pointer c8, .slice c12.base c12.len c12.cap] vh11 fun r11 vh12 =>
                        ∃ c13 : Int, r11 = .int .i64 c13 ∧
                        IfB (c13 == (12 : Int)) (HCalls Try.prog fn_slot_Slots_Dead #[.pointer c8] vh12 fun r12 vh13 =>
                          ∃ c14 : Bool, r12 = .bool c14 ∧
                          IfB (!c14) (R (.bool false) vh13)
                          (vJ kept c12 n3 vh13))
                        (IfB (c13 != (0 : Int)) (R (.bool false) vh12)
                          (∃ n2, n2 < n1 ∧ vI c12 c12 (iAdd .i64 n3 (1 : Int)) (iAdd .i64 i (1 : Int)) n2 vh12)))
                      (vJ kept may n3 vh9)) ∧
                    ∀ _junk : Nat → Value, ∀ kept1 : Sl, ∀ may1 : Sl, ∀ n4 : Int, ∀ vh14 : Hp, vJ kept1 may1 n4 vh14 →
                    ∃ vJ1 : Sl → Hp → Prop,
                    (IfB (n4 == (sizes.len : Int)) (vJ1 kept1 vh14)
                      (vJ1 may1 vh14)) ∧
                    ∀ _junk : Nat → Value, ∀ may2 : Sl, ∀ vh15 : Hp, vJ1 may2 vh15 →
                    HCalls Try.prog fn_zdev_Dev_Crash #[.pointer c6, .slice picks.base picks.len picks.cap, .slice torn.base torn.len torn.cap] vh15 fun r13 vh16 =>
                    ∃ c15 : Option Addr, r13 = .pointer c15 ∧
                    ∃ (vI1 : Option Addr → Int → Nat → Hp → Prop) (n5 : Nat), vI1 c15 (0 : Int) n5 vh16 ∧
                    ∀ _junk : Nat → Value, ∀ d : Option Addr, ∀ i1 : Int, ∀ (n6 : Nat) (vh17 : Hp), vI1 d i1 n6 vh17 →
                    IfB (decide (i1 < (cuts.len : Int))) (∃ a1 : Addr, cuts.base = some a1 ∧ 0 ≤ i1 ∧ i1 < (cuts.len : Int) ∧
                      ∃ c16 : Int, hcell vh17 (a1.add ((i1).toNat * 1)) = some (.int .i64 c16) ∧
                      HCalls Try.prog fn_scarpalike_Round #[.int .i64 c16, .int .i64 (20 : Int)] vh17 fun r14 vh18 =>
                      ∃ c17 : Int, r14 = .int .i64 c17 ∧
                      HCalls Try.prog fn_zdev_Dev_Cut #[.pointer d, .int .i64 c17] vh18 fun r15 vh19 =>
                      r15 = .tuple #[] ∧
                      HCalls Try.prog fn_slot_Open #[.pointer d, .int .i64 (2 : Int), .int .i64 (4 : Int), .int .i64 (6 : Int)] vh19 fun r16 vh20 =>
                      ∃ c18 : Option Addr, ∃ c19 : Int, r16 = .tuple #[.pointer c18, .int .i64 c19] ∧
                      HCalls Try.prog fn_zdev_Dev_Crash #[.pointer d, .slice picks.base picks.len picks.cap, .slice torn.base torn.len torn.cap] vh20 fun r17 vh21 =>
                      ∃ c20 : Option Addr, r17 = .pointer c20 ∧
                      ∃ n7, n7 < n6 ∧ vI1 c20 (iAdd .i64 i1 (1 : Int)) n7 vh21)
                    (HCalls Try.prog fn_slot_Open #[.pointer d, .int .i64 (2 : Int), .int .i64 (4 : Int), .int .i64 (6 : Int)] vh17 fun r18 vh22 =>
                      ∃ c21 : Option Addr, ∃ c22 : Int, r18 = .tuple #[.pointer c21, .int .i64 c22] ∧
                      IfB (c22 != (0 : Int)) (R (.bool false) vh22)
                      (IfB (isNone? c21) (R (.bool false) vh22)
                        (HCalls Try.prog fn_slot_Slots_Load #[.pointer c21] vh22 fun r19 vh23 =>
                          ∃ c23 : Sl, ∃ c24 : Int, r19 = .tuple #[.slice c23.base c23.len c23.cap, .int .i64 c24] ∧
                          ∃ vJ2 : Hp → Prop,
                          (IfB (c24 == n4) (HCalls Try.prog fn_scarpalike_Bytes #[.slice c23.base c23.len c23.cap, .slice kept1.base kept1.len kept1.cap] vh23 fun r20 vh24 =>
                              ∃ c25 : Bool, r20 = .bool c25 ∧
                              IfB (!c25) (IfB (c24 == (iAdd .i64 n4 (1 : Int))) (HCalls Try.prog fn_scarpalike_Bytes #[.slice c23.base c23.len c23.cap, .slice may2.base may2.len may2.cap] vh24 fun r21 vh25 =>
                                  ∃ c26 : Bool, r21 = .bool c26 ∧
                                  IfB (!c26) (R (.bool false) vh25)
                                  (vJ2 vh25))
                                (IfB (!false) (R (.bool false) vh24)
                                  (vJ2 vh24)))
                              (vJ2 vh24))
                            (IfB (!false) (IfB (c24 == (iAdd .i64 n4 (1 : Int))) (HCalls Try.prog fn_scarpalike_Bytes #[.slice c23.base c23.len c23.cap, .slice may2.base may2.len may2.cap] vh23 fun r22 vh26 =>
                                  ∃ c27 : Bool, r22 = .bool c27 ∧
                                  IfB (!c27) (R (.bool false) vh26)
                                  (vJ2 vh26))
                                (IfB (!false) (R (.bool false) vh23)
                                  (vJ2 vh23)))
                              (vJ2 vh23))) ∧
                          ∀ _junk : Nat → Value, ∀ vh27 : Hp, vJ2 vh27 →
                          HCalls Try.prog fn_zdev_Dev_Crash #[.pointer d, .slice picks.base picks.len picks.cap, .slice torn.base torn.len torn.cap] vh27 fun r23 vh28 =>
                          ∃ c28 : Option Addr, r23 = .pointer c28 ∧
                          HCalls Try.prog fn_slot_Open #[.pointer c28, .int .i64 (2 : Int), .int .i64 (4 : Int), .int .i64 (6 : Int)] vh28 fun r24 vh29 =>
                          ∃ c29 : Option Addr, ∃ c30 : Int, r24 = .tuple #[.pointer c29, .int .i64 c30] ∧
                          IfB (c30 != (0 : Int)) (R (.bool false) vh29)
                          (IfB (isNone? c29) (R (.bool false) vh29)
                            (let vh30 := alc vh29 [.int .u8 (110 : Int), .int .u8 (101 : Int), .int .u8 (120 : Int), .int .u8 (116 : Int)] ty_uint8;
                              ∃ a2 : Addr, (Sl.mk (some (nw vh29)) 4 4).base = some a2 ∧
                              let vh31 := hstr vh30 a2;
                              HCalls Try.prog fn_slot_Slots_Save #[.pointer c29, .slice (Sl.mk (some (nw vh29)) 4 4).base (Sl.mk (some (nw vh29)) 4 4).len (Sl.mk (some (nw vh29)) 4 4).cap] vh31 fun r25 vh32 =>
                              ∃ c31 : Int, r25 = .int .i64 c31 ∧
                              IfB (c31 != (0 : Int)) (R (.bool false) vh32)
                              (HCalls Try.prog fn_slot_Slots_Load #[.pointer c29] vh32 fun r26 vh33 =>
                                ∃ c32 : Sl, ∃ c33 : Int, r26 = .tuple #[.slice c32.base c32.len c32.cap, .int .i64 c33] ∧
                                ∃ bs : List UInt8, bs.length = c32.len ∧ RdC vh33 c32.base (bs.map fun x => .int .u8 (x.toNat : Int)) ∧
                                IfB ((ByteArray.mk bs.toArray).toList == (ByteArray.mk #[110, 101, 120, 116]).toList) (IfB (c33 == (iAdd .i64 c24 (1 : Int))) (HCalls Try.prog fn_scarplaw19_awake #[] vh33 fun r27 vh34 =>
                                    ∃ c34 : Bool, r27 = .bool c34 ∧
                                    R (.bool c34) vh34)
                                  (R (.bool false) vh33))
                                (R (.bool false) vh33))))))))))))))))
theorem scarplaw19_SlotCrash_vc {sizes : Sl} {cut : Int} {picks : Sl} {torn : Sl} {cuts : Sl} {h : Hp} {R : Value → Hp → Prop} (H : vcscarplaw19_SlotCrash sizes cut picks torn cuts h R) : HCalls Try.prog fn_scarplaw19_SlotCrash #[.slice sizes.base sizes.len sizes.cap, .int .i64 cut, .slice picks.base picks.len picks.cap, .slice torn.base torn.len torn.cap, .slice cuts.base cuts.len cuts.cap] h R :=
  vc_fn (annOf [(0, [(15, .sl), (16, .sl), (17, .int .i64), (18, .int .i64)]), (1, [(11, .ptr), (20, .int .i64)])] [(24, [(15, .sl), (16, .sl), (17, .int .i64)]), (26, [(16, .sl)]), (39, [])]) Try.func7 [.slice sizes.base sizes.len sizes.cap, .int .i64 cut, .slice picks.base picks.len picks.cap, .slice torn.base torn.len torn.cap, .slice cuts.base cuts.len cuts.cap] (by kernel_rfl) (V := vcscarplaw19_SlotCrash sizes cut picks torn cuts h R) (by kernel_rfl) H

end Go.Proofs.Ytfelkonmhfejdaa
