/-
  Conditions of functions, printed by a program of ours; the kernel checks each against vcFunc.
-/
import Derived.Test.YtippdkokbhejmaaRows
import Derived.Test.YtippdkokbhejmaaVc5
namespace Go.Proofs.Ytippdkokbhejmaa
set_option maxRecDepth 100000
set_option linter.unusedVariables false

abbrev fn_bits_Get32 : Nat := 65
abbrev fn_bits_Get64 : Nat := 64
abbrev fn_bits_Put32 : Nat := 61
abbrev fn_bits_Put64 : Nat := 62
abbrev fn_bits_get : Nat := 76
abbrev fn_bits_put : Nat := 75
abbrev fn_crc_New : Nat := 71
abbrev fn_crc_Of : Nat := 63
abbrev fn_crc_Sum_Add : Nat := 72
abbrev fn_crc_Sum_Value : Nat := 73
abbrev fn_frame_Decode : Nat := 49
abbrev fn_frame_Encode : Nat := 38
abbrev fn_frame_within : Nat := 59
abbrev fn_scarpalike_Block : Nat := 31
abbrev fn_scarpalike_Bytes : Nat := 39
abbrev fn_scarpalike_Round : Nat := 12
abbrev fn_scarplaw18_SeglogApart : Nat := 6
abbrev fn_scarplaw18_SeglogCrash : Nat := 7
abbrev fn_scarplaw18_SeglogLimits : Nat := 5
abbrev fn_scarplaw18_SeglogPlays : Nat := 3
abbrev fn_scarplaw18_SeglogTurns : Nat := 4
abbrev fn_scarplaw18_awake : Nat := 9
abbrev fn_scarplaw18_dev : Nat := 10
abbrev fn_scarplaw18_log_room : Nat := 15
abbrev fn_scarplaw18_log_same : Nat := 17
abbrev fn_scarplaw18_recs : Nat := 13
abbrev fn_scarplaw18_small : Nat := 8
abbrev fn_seglog_Log_Append : Nat := 14
abbrev fn_seglog_Log_Append_1 : Nat := 33
abbrev fn_seglog_Log_Dead : Nat := 18
abbrev fn_seglog_Log_First : Nat := 24
abbrev fn_seglog_Log_Len : Nat := 21
abbrev fn_seglog_Log_Read : Nat := 20
abbrev fn_seglog_Log_Trim : Nat := 16
abbrev fn_seglog_Log_blocks : Nat := 27
abbrev fn_seglog_Log_mend : Nat := 30
abbrev fn_seglog_Log_put : Nat := 36
abbrev fn_seglog_Log_room : Nat := 55
abbrev fn_seglog_Log_turn : Nat := 57
abbrev fn_seglog_Log_write : Nat := 56
abbrev fn_seglog_Log_zone : Nat := 46
abbrev fn_seglog_Open : Nat := 11
abbrev fn_seglog_bodies : Nat := 67
abbrev fn_seglog_group : Nat := 37
abbrev fn_seglog_read : Nat := 29
abbrev fn_seglog_scan_commit : Nat := 50
abbrev fn_seglog_scan_mark : Nat := 51
abbrev fn_seglog_strange : Nat := 28
abbrev fn_seglog_strange_1 : Nat := 48
abbrev fn_seglog_sum : Nat := 58
abbrev fn_slices_Clone_sbytebyte : Nat := 35
abbrev fn_slices_Clone_ssbytesbyte : Nat := 34
abbrev fn_slices_Concat_sbytebyte : Nat := 60
abbrev fn_slices_Concat_ssbytesbyte : Nat := 70
abbrev fn_slices_ContainsFunc_ssbytesbyte : Nat := 32
abbrev fn_slices_Equal_sbytebyte : Nat := 66
abbrev fn_slices_Grow_sbytebyte : Nat := 74
abbrev fn_slices_Grow_ssbytesbyte : Nat := 77
abbrev fn_slices_IndexFunc_ssbytesbyte : Nat := 54
abbrev fn_zdev_Dev_Append : Nat := 69
abbrev fn_zdev_Dev_Crash : Nat := 22
abbrev fn_zdev_Dev_Cut : Nat := 23
abbrev fn_zdev_Dev_Flush : Nat := 53
abbrev fn_zdev_Dev_Geometry : Nat := 26
abbrev fn_zdev_Dev_Pointer : Nat := 19
abbrev fn_zdev_Dev_Read : Nat := 47
abbrev fn_zdev_Dev_Reset : Nat := 52
abbrev fn_zdev_Dev_at : Nat := 40
abbrev fn_zdev_Dev_begin : Nat := 68
abbrev fn_zdev_Dev_gone : Nat := 41
abbrev fn_zdev_New : Nat := 25
abbrev fn_zdev_own : Nat := 44
abbrev fn_zdev_pick : Nat := 42
abbrev fn_zdev_rest : Nat := 43
abbrev fn_zdev_tear : Nat := 45
abbrev ty_uint8 : Nat := 5
abbrev ty_ssuint8 : Nat := 33
abbrev ty_scarplaw18_log : Nat := 35
abbrev ty_suint8 : Nat := 48
abbrev ty_api_Geometry : Nat := 61
abbrev ty_seglog_Log : Nat := 64
abbrev ty_seglog_scan : Nat := 71
abbrev ty_frame_Block : Nat := 82
abbrev ty_pzdev_zone : Nat := 84
abbrev ty_zdev_zone : Nat := 87
abbrev ty_zdev_Dev : Nat := 90
abbrev ty_crc_Sum : Nat := 124

def vcscarplaw18_SeglogApart (l : Sl) (picks : Sl) (h : Hp) (R : Value → Hp → Prop) : Prop :=
  IfB (decide ((l.len : Int) > (40 : Int))) (HCalls Try.prog fn_scarplaw18_awake #[] h fun r vh =>
    ∃ c : Bool, r = .bool c ∧
    R (.bool c) vh)
  (IfB (decide ((picks.len : Int) > (30 : Int))) (HCalls Try.prog fn_scarplaw18_awake #[] h fun r1 vh1 =>
      ∃ c1 : Bool, r1 = .bool c1 ∧
      R (.bool c1) vh1)
    (HCalls Try.prog fn_scarplaw18_dev #[] h fun r2 vh2 =>
      ∃ c2 : Option Addr, ∃ c3 : Bool, r2 = .tuple #[.pointer c2, .bool c3] ∧
      IfB (!c3) (R (.bool false) vh2)
      (HCalls Try.prog fn_seglog_Open #[.pointer c2, .int .i64 (0 : Int), .int .i64 (2 : Int)] vh2 fun r3 vh3 =>
        ∃ c4 : Option Addr, ∃ c5 : Int, r3 = .tuple #[.pointer c4, .int .i64 c5] ∧
        HCalls Try.prog fn_seglog_Open #[.pointer c2, .int .i64 (3 : Int), .int .i64 (7 : Int)] vh3 fun r4 vh4 =>
        ∃ c6 : Option Addr, ∃ c7 : Int, r4 = .tuple #[.pointer c6, .int .i64 c7] ∧
        IfB (c5 != (0 : Int)) (R (.bool false) vh4)
        (IfB (c7 != (0 : Int)) (R (.bool false) vh4)
          (IfB (isNone? c4) (R (.bool false) vh4)
            (IfB (isNone? c6) (R (.bool false) vh4)
              (let vh5 := alc vh4 [.pointer none, .int .i64 (0 : Int), .slice Sl.nil.base Sl.nil.len Sl.nil.cap] ty_scarplaw18_log;
                let vh6 := alc vh5 [.pointer none, .int .i64 (0 : Int), .slice Sl.nil.base Sl.nil.len Sl.nil.cap] ty_scarplaw18_log;
                ∃ (vI : Int → Nat → Hp → Prop) (n : Nat), vI (0 : Int) n vh6 ∧
                ∀ _junk : Nat → Value, ∀ i : Int, ∀ (n1 : Nat) (vh7 : Hp), vI i n1 vh7 →
                IfB (decide (i < (l.len : Int))) (∃ a : Addr, l.base = some a ∧ 0 ≤ i ∧ i < (l.len : Int) ∧
                  ∃ c8 : Int, hcell vh7 (a.add ((i).toNat * 1)) = some (.int .i64 c8) ∧
                  HCalls Try.prog fn_scarpalike_Round #[.int .i64 c8, .int .i64 (41 : Int)] vh7 fun r5 vh8 =>
                  ∃ c9 : Int, r5 = .int .i64 c9 ∧
                  HCalls Try.prog fn_scarplaw18_recs #[.int .i64 i, .int .i64 (1 : Int), .int .i64 c9] vh8 fun r6 vh9 =>
                  ∃ c10 : Sl, r6 = .slice c10.base c10.len c10.cap ∧
                  (2 : Int) ≠ 0 ∧
                  IfB ((iRem i (2 : Int)) == (0 : Int)) (HCalls Try.prog fn_scarplaw18_log_room #[.pointer (some (nw vh4)), .int .i64 (1 : Int), .int .i64 (3 : Int)] vh9 fun r7 vh10 =>
                    ∃ c11 : Bool, r7 = .bool c11 ∧
                    IfB c11 (HCalls Try.prog fn_seglog_Log_Append #[.pointer c4, .slice c10.base c10.len c10.cap] vh10 fun r8 vh11 =>
                      ∃ c12 : Int, ∃ c13 : Int, r8 = .tuple #[.int .i64 c12, .int .i64 c13] ∧
                      IfB (c13 != (0 : Int)) (R (.bool false) vh11)
                      (∃ a1 : Addr, (some (nw vh4)) = some a1 ∧
                        ∃ c14 : Sl, hcell vh11 (a1.add 2) = some (.slice c14.base c14.len c14.cap) ∧
                        AppC ty_suint8 1 24 #[.slice Sl.nil.base Sl.nil.len Sl.nil.cap] c14 c10 vh11 fun s vh12 =>
                        ∃ a2 : Addr, (some (nw vh4)) = some a2 ∧
                        StOk vh12 (a2.add 2) ∧
                        Lt (hset vh12 (a2.add 2) (.slice s.base s.len s.cap)) fun vh13 =>
                        ∃ n2, n2 < n1 ∧ vI (iAdd .i64 i (1 : Int)) n2 vh13))
                    (HCalls Try.prog fn_scarplaw18_log_room #[.pointer (some (nw vh5)), .int .i64 (1 : Int), .int .i64 (5 : Int)] vh10 fun r9 vh14 =>
                      ∃ c15 : Bool, r9 = .bool c15 ∧
                      IfB c15 (HCalls Try.prog fn_seglog_Log_Append #[.pointer c6, .slice c10.base c10.len c10.cap] vh14 fun r10 vh15 =>
                        ∃ c16 : Int, ∃ c17 : Int, r10 = .tuple #[.int .i64 c16, .int .i64 c17] ∧
                        IfB (c17 != (0 : Int)) (R (.bool false) vh15)
                        (∃ a3 : Addr, (some (nw vh5)) = some a3 ∧
                          ∃ c18 : Sl, hcell vh15 (a3.add 2) = some (.slice c18.base c18.len c18.cap) ∧
                          AppC ty_suint8 1 24 #[.slice Sl.nil.base Sl.nil.len Sl.nil.cap] c18 c10 vh15 fun s1 vh16 =>
                          ∃ a4 : Addr, (some (nw vh5)) = some a4 ∧
                          StOk vh16 (a4.add 2) ∧
                          Lt (hset vh16 (a4.add 2) (.slice s1.base s1.len s1.cap)) fun vh17 =>
                          ∃ n2, n2 < n1 ∧ vI (iAdd .i64 i (1 : Int)) n2 vh17))
                      (∃ n2, n2 < n1 ∧ vI (iAdd .i64 i (1 : Int)) n2 vh14)))
                  (HCalls Try.prog fn_scarplaw18_log_room #[.pointer (some (nw vh5)), .int .i64 (1 : Int), .int .i64 (5 : Int)] vh9 fun r11 vh18 =>
                    ∃ c19 : Bool, r11 = .bool c19 ∧
                    IfB c19 (HCalls Try.prog fn_seglog_Log_Append #[.pointer c6, .slice c10.base c10.len c10.cap] vh18 fun r12 vh19 =>
                      ∃ c20 : Int, ∃ c21 : Int, r12 = .tuple #[.int .i64 c20, .int .i64 c21] ∧
                      IfB (c21 != (0 : Int)) (R (.bool false) vh19)
                      (∃ a5 : Addr, (some (nw vh5)) = some a5 ∧
                        ∃ c22 : Sl, hcell vh19 (a5.add 2) = some (.slice c22.base c22.len c22.cap) ∧
                        AppC ty_suint8 1 24 #[.slice Sl.nil.base Sl.nil.len Sl.nil.cap] c22 c10 vh19 fun s2 vh20 =>
                        ∃ a6 : Addr, (some (nw vh5)) = some a6 ∧
                        StOk vh20 (a6.add 2) ∧
                        Lt (hset vh20 (a6.add 2) (.slice s2.base s2.len s2.cap)) fun vh21 =>
                        ∃ n2, n2 < n1 ∧ vI (iAdd .i64 i (1 : Int)) n2 vh21))
                    (∃ n2, n2 < n1 ∧ vI (iAdd .i64 i (1 : Int)) n2 vh18)))
                (HCalls Try.prog fn_zdev_Dev_Crash #[.pointer c2, .slice picks.base picks.len picks.cap, .slice picks.base picks.len picks.cap] vh7 fun r13 vh22 =>
                  ∃ c23 : Option Addr, r13 = .pointer c23 ∧
                  IfB (isNone? c23) (R (.bool false) vh22)
                  (HCalls Try.prog fn_seglog_Open #[.pointer c23, .int .i64 (0 : Int), .int .i64 (2 : Int)] vh22 fun r14 vh23 =>
                    ∃ c24 : Option Addr, ∃ c25 : Int, r14 = .tuple #[.pointer c24, .int .i64 c25] ∧
                    HCalls Try.prog fn_seglog_Open #[.pointer c23, .int .i64 (3 : Int), .int .i64 (7 : Int)] vh23 fun r15 vh24 =>
                    ∃ c26 : Option Addr, ∃ c27 : Int, r15 = .tuple #[.pointer c26, .int .i64 c27] ∧
                    IfB (c25 == (0 : Int)) (IfB (c27 == (0 : Int)) (IfB (!isNone? c24) (IfB (!isNone? c26) (HCalls Try.prog fn_scarplaw18_log_same #[.pointer (some (nw vh4)), .pointer c24] vh24 fun r16 vh25 =>
                            ∃ c28 : Bool, r16 = .bool c28 ∧
                            IfB c28 (HCalls Try.prog fn_scarplaw18_log_same #[.pointer (some (nw vh5)), .pointer c26] vh25 fun r17 vh26 =>
                              ∃ c29 : Bool, r17 = .bool c29 ∧
                              IfB c29 (HCalls Try.prog fn_scarplaw18_log_same #[.pointer (some (nw vh4)), .pointer c4] vh26 fun r18 vh27 =>
                                ∃ c30 : Bool, r18 = .bool c30 ∧
                                IfB c30 (HCalls Try.prog fn_scarplaw18_log_same #[.pointer (some (nw vh5)), .pointer c6] vh27 fun r19 vh28 =>
                                  ∃ c31 : Bool, r19 = .bool c31 ∧
                                  IfB c31 (HCalls Try.prog fn_scarplaw18_awake #[] vh28 fun r20 vh29 =>
                                    ∃ c32 : Bool, r20 = .bool c32 ∧
                                    R (.bool c32) vh29)
                                  (R (.bool false) vh28))
                                (R (.bool false) vh27))
                              (R (.bool false) vh26))
                            (R (.bool false) vh25))
                          (R (.bool false) vh24))
                        (R (.bool false) vh24))
                      (R (.bool false) vh24))
                    (R (.bool false) vh24))))))))))
theorem scarplaw18_SeglogApart_vc {l : Sl} {picks : Sl} {h : Hp} {R : Value → Hp → Prop} (H : vcscarplaw18_SeglogApart l picks h R) : HCalls Try.prog fn_scarplaw18_SeglogApart #[.slice l.base l.len l.cap, .slice picks.base picks.len picks.cap] h R :=
  vc_fn (annOf [(0, [(13, .int .i64)])] []) Try.func6 [.slice l.base l.len l.cap, .slice picks.base picks.len picks.cap] (by kernel_rfl) (V := vcscarplaw18_SeglogApart l picks h R) (by kernel_rfl) H

def vcscarplaw18_small (l : Sl) (h : Hp) (R : Value → Hp → Prop) : Prop :=
  R (.bool (decide ((l.len : Int) ≤ (60 : Int)))) h
theorem scarplaw18_small_vc {l : Sl} {h : Hp} {R : Value → Hp → Prop} (H : vcscarplaw18_small l h R) : HCalls Try.prog fn_scarplaw18_small #[.slice l.base l.len l.cap] h R :=
  vc_fn (annOf [] []) Try.func8 [.slice l.base l.len l.cap] (by kernel_rfl) (V := vcscarplaw18_small l h R) (by kernel_rfl) H

def vcscarplaw18_awake (h : Hp) (R : Value → Hp → Prop) : Prop :=
  HCalls Try.prog fn_scarplaw18_dev #[] h fun r vh =>
  ∃ c : Option Addr, ∃ c1 : Bool, r = .tuple #[.pointer c, .bool c1] ∧
  IfB (!c1) (R (.bool false) vh)
  (HCalls Try.prog fn_seglog_Open #[.pointer c, .int .i64 (2 : Int), .int .i64 (5 : Int)] vh fun r1 vh1 =>
    ∃ c2 : Option Addr, ∃ c3 : Int, r1 = .tuple #[.pointer c2, .int .i64 c3] ∧
    IfB (c3 != (0 : Int)) (R (.bool false) vh1)
    (IfB (isNone? c2) (R (.bool false) vh1)
      (let vh2 := alc vh1 [.int .u8 (97 : Int)] ty_uint8;
        ∃ a : Addr, (Sl.mk (some (nw vh1)) 1 1).base = some a ∧
        let vh3 := hstr vh2 a;
        let vh4 := alc vh3 [.int .u8 (98 : Int)] ty_uint8;
        ∃ a1 : Addr, (Sl.mk (some (nw vh3)) 1 1).base = some a1 ∧
        let vh5 := hstr vh4 a1;
        let vh6 := alc vh5 [.slice (Sl.mk (some (nw vh1)) 1 1).base (Sl.mk (some (nw vh1)) 1 1).len (Sl.mk (some (nw vh1)) 1 1).cap, .slice (Sl.mk (some (nw vh3)) 1 1).base (Sl.mk (some (nw vh3)) 1 1).len (Sl.mk (some (nw vh3)) 1 1).cap] ty_suint8;
        HCalls Try.prog fn_seglog_Log_Append #[.pointer c2, .slice (Sl.mk (some (nw vh5)) 2 2).base (Sl.mk (some (nw vh5)) 2 2).len (Sl.mk (some (nw vh5)) 2 2).cap] vh6 fun r2 vh7 =>
        ∃ c4 : Int, ∃ c5 : Int, r2 = .tuple #[.int .i64 c4, .int .i64 c5] ∧
        IfB (c5 != (0 : Int)) (R (.bool false) vh7)
        (IfB (c4 != (0 : Int)) (R (.bool false) vh7)
          (HCalls Try.prog fn_seglog_Log_Trim #[.pointer c2, .int .i64 (1 : Int)] vh7 fun r3 vh8 =>
            ∃ c6 : Int, r3 = .int .i64 c6 ∧
            IfB (c6 != (0 : Int)) (R (.bool false) vh8)
            (HCalls Try.prog fn_seglog_Log_Read #[.pointer c2, .int .i64 (1 : Int)] vh8 fun r4 vh9 =>
              ∃ c7 : Sl, ∃ c8 : Int, r4 = .tuple #[.slice c7.base c7.len c7.cap, .int .i64 c8] ∧
              IfB (c8 == (0 : Int)) (∃ bs : List UInt8, bs.length = c7.len ∧ RdC vh9 c7.base (bs.map fun x => .int .u8 (x.toNat : Int)) ∧
                IfB ((ByteArray.mk bs.toArray).toList == (ByteArray.mk #[98]).toList) (HCalls Try.prog fn_seglog_Log_First #[.pointer c2] vh9 fun r5 vh10 =>
                  ∃ c9 : Int, r5 = .int .i64 c9 ∧
                  R (.bool (c9 == (1 : Int))) vh10)
                (R (.bool false) vh9))
              (R (.bool false) vh9)))))))
theorem scarplaw18_awake_vc {h : Hp} {R : Value → Hp → Prop} (H : vcscarplaw18_awake h R) : HCalls Try.prog fn_scarplaw18_awake #[] h R :=
  vc_fn (annOf [] []) Try.func9 [] (by kernel_rfl) (V := vcscarplaw18_awake h R) (by kernel_rfl) H

def vcscarplaw18_dev (h : Hp) (R : Value → Hp → Prop) : Prop :=
  HCalls Try.prog fn_zdev_New #[.agg #[.int .i64 (8 : Int), .int .i64 (96 : Int)]] h fun r vh =>
  ∃ c : Option Addr, ∃ c1 : Int, r = .tuple #[.pointer c, .int .i64 c1] ∧
  IfB (c1 == (0 : Int)) (R (.tuple #[.pointer c, .bool (!isNone? c)]) vh)
  (R (.tuple #[.pointer c, .bool false]) vh)
theorem scarplaw18_dev_vc {h : Hp} {R : Value → Hp → Prop} (H : vcscarplaw18_dev h R) : HCalls Try.prog fn_scarplaw18_dev #[] h R :=
  vc_fn (annOf [] []) Try.func10 [] (by kernel_rfl) (V := vcscarplaw18_dev h R) (by kernel_rfl) H

def vcscarpalike_Round (k : Int) (n : Int) (h : Hp) (R : Value → Hp → Prop) : Prop :=
  n ≠ 0 ∧
  IfB (decide ((iRem k n) < (0 : Int))) (R (.int .i64 (iAdd .i64 (iRem k n) n)) h)
  (R (.int .i64 (iRem k n)) h)
theorem scarpalike_Round_vc {k : Int} {n : Int} {h : Hp} {R : Value → Hp → Prop} (H : vcscarpalike_Round k n h R) : HCalls Try.prog fn_scarpalike_Round #[.int .i64 k, .int .i64 n] h R :=
  vc_fn (annOf [] []) Try.func12 [.int .i64 k, .int .i64 n] (by kernel_rfl) (V := vcscarpalike_Round k n h R) (by kernel_rfl) H

def vcscarplaw18_recs (vfrom : Int) (n : Int) (size : Int) (h : Hp) (R : Value → Hp → Prop) : Prop :=
  ∃ (vI : Sl → Int → Nat → Hp → Prop) (n1 : Nat), vI Sl.nil (0 : Int) n1 h ∧
  ∀ _junk : Nat → Value, ∀ l : Sl, ∀ i : Int, ∀ (n2 : Nat) (vh : Hp), vI l i n2 vh →
  IfB (decide (i < n)) (HCalls Try.prog fn_scarpalike_Block #[.int .i64 size, .int .i64 (iAdd .i64 vfrom i)] vh fun r vh1 =>
    ∃ c : Sl, r = .slice c.base c.len c.cap ∧
    let vh2 := alc vh1 [.slice c.base c.len c.cap] ty_suint8;
    AppC ty_suint8 1 24 #[.slice Sl.nil.base Sl.nil.len Sl.nil.cap] l (Sl.mk (some (nw vh1)) 1 1) vh2 fun s vh3 =>
    ∃ n3, n3 < n2 ∧ vI s (iAdd .i64 i (1 : Int)) n3 vh3)
  (R (.slice l.base l.len l.cap) vh)
theorem scarplaw18_recs_vc {vfrom : Int} {n : Int} {size : Int} {h : Hp} {R : Value → Hp → Prop} (H : vcscarplaw18_recs vfrom n size h R) : HCalls Try.prog fn_scarplaw18_recs #[.int .i64 vfrom, .int .i64 n, .int .i64 size] h R :=
  vc_fn (annOf [(0, [(7, .sl), (8, .int .i64)])] []) Try.func13 [.int .i64 vfrom, .int .i64 n, .int .i64 size] (by kernel_rfl) (V := vcscarplaw18_recs vfrom n size h R) (by kernel_rfl) H

def vcscarplaw18_log_room (x : Option Addr) (n : Int) (zones : Int) (h : Hp) (R : Value → Hp → Prop) : Prop :=
  ∃ a : Addr, x = some a ∧
  ∃ c : Sl, hcell h (a.add 2) = some (.slice c.base c.len c.cap) ∧
  ∃ a1 : Addr, x = some a1 ∧
  ∃ c1 : Int, hcell h (a1.add 1) = some (.int .i64 c1) ∧
  R (.bool (decide ((iMul .i64 (2 : Int) (iAdd .i64 (iSub .i64 (c.len : Int) c1) n)) ≤ (iMul .i64 (iSub .i64 zones (1 : Int)) (88 : Int))))) h
theorem scarplaw18_log_room_vc {x : Option Addr} {n : Int} {zones : Int} {h : Hp} {R : Value → Hp → Prop} (H : vcscarplaw18_log_room x n zones h R) : HCalls Try.prog fn_scarplaw18_log_room #[.pointer x, .int .i64 n, .int .i64 zones] h R :=
  vc_fn (annOf [] []) Try.func15 [.pointer x, .int .i64 n, .int .i64 zones] (by kernel_rfl) (V := vcscarplaw18_log_room x n zones h R) (by kernel_rfl) H

def vcscarplaw18_log_same (x : Option Addr) (l : Option Addr) (h : Hp) (R : Value → Hp → Prop) : Prop :=
  ∃ a : Addr, x = some a ∧
  ∃ c : Int, hcell h (a.add 1) = some (.int .i64 c) ∧
  HCalls Try.prog fn_seglog_Log_First #[.pointer l] h fun r vh =>
  ∃ c1 : Int, r = .int .i64 c1 ∧
  Ext h vh ∧
  IfB (c1 != c) (R (.bool false) vh)
  (∃ a1 : Addr, x = some a1 ∧
    ∃ c2 : Sl, hcell h (a1.add 2) = some (.slice c2.base c2.len c2.cap) ∧
    HCalls Try.prog fn_seglog_Log_Len #[.pointer l] vh fun r1 vh1 =>
    ∃ c3 : Int, r1 = .int .i64 c3 ∧
    Ext h vh1 ∧
    IfB (c3 != (c2.len : Int)) (R (.bool false) vh1)
    (∃ a2 : Addr, x = some a2 ∧
      ∃ c4 : Int, hcell vh1 (a2.add 1) = some (.int .i64 c4) ∧
      ∃ (vI : Int → Nat → Hp → Prop) (n : Nat), vI c4 n vh1 ∧
      ∀ _junk : Nat → Value, ∀ i : Int, ∀ (n1 : Nat) (vh2 : Hp), vI i n1 vh2 →
      ∃ a3 : Addr, x = some a3 ∧
      ∃ c5 : Sl, hcell vh2 (a3.add 2) = some (.slice c5.base c5.len c5.cap) ∧
      IfB (decide (i < (c5.len : Int))) (HCalls Try.prog fn_seglog_Log_Read #[.pointer l, .int .i64 i] vh2 fun r2 vh3 =>
        ∃ c6 : Sl, ∃ c7 : Int, r2 = .tuple #[.slice c6.base c6.len c6.cap, .int .i64 c7] ∧
        IfB (c7 != (0 : Int)) (R (.bool false) vh3)
        (∃ a4 : Addr, x = some a4 ∧
          ∃ c8 : Sl, hcell vh3 (a4.add 2) = some (.slice c8.base c8.len c8.cap) ∧
          ∃ a5 : Addr, c8.base = some a5 ∧ 0 ≤ i ∧ i < (c8.len : Int) ∧
          ∃ c9 : Sl, hcell vh3 (a5.add ((i).toNat * 1)) = some (.slice c9.base c9.len c9.cap) ∧
          HCalls Try.prog fn_scarpalike_Bytes #[.slice c6.base c6.len c6.cap, .slice c9.base c9.len c9.cap] vh3 fun r3 vh4 =>
          ∃ c10 : Bool, r3 = .bool c10 ∧
          IfB (!c10) (R (.bool false) vh4)
          (∃ n2, n2 < n1 ∧ vI (iAdd .i64 i (1 : Int)) n2 vh4)))
      (∃ a6 : Addr, x = some a6 ∧
        ∃ c11 : Int, hcell vh2 (a6.add 1) = some (.int .i64 c11) ∧
        HCalls Try.prog fn_seglog_Log_Read #[.pointer l, .int .i64 (iSub .i64 c11 (1 : Int))] vh2 fun r4 vh5 =>
        ∃ c12 : Sl, ∃ c13 : Int, r4 = .tuple #[.slice c12.base c12.len c12.cap, .int .i64 c13] ∧
        ∃ a7 : Addr, x = some a7 ∧
        ∃ c14 : Sl, hcell vh5 (a7.add 2) = some (.slice c14.base c14.len c14.cap) ∧
        HCalls Try.prog fn_seglog_Log_Read #[.pointer l, .int .i64 (c14.len : Int)] vh5 fun r5 vh6 =>
        ∃ c15 : Sl, ∃ c16 : Int, r5 = .tuple #[.slice c15.base c15.len c15.cap, .int .i64 c16] ∧
        IfB (c13 == (14 : Int)) (R (.bool (c16 == (14 : Int))) vh6)
        (R (.bool false) vh6))))
theorem scarplaw18_log_same_vc {x : Option Addr} {l : Option Addr} {h : Hp} {R : Value → Hp → Prop} (H : vcscarplaw18_log_same x l h R) : HCalls Try.prog fn_scarplaw18_log_same #[.pointer x, .pointer l] h R :=
  vc_fn (annOf [(0, [(5, .int .i64)])] []) Try.func17 [.pointer x, .pointer l] (by kernel_rfl) (V := vcscarplaw18_log_same x l h R) (by kernel_rfl) H

def vcseglog_Log_Dead (l : Option Addr) (h : Hp) (R : Value → Hp → Prop) : Prop :=
  IfB (isNone? l) (R (.bool true) h)
  (∃ a : Addr, l = some a ∧
    ∃ c : Option Addr, hcell h a = some (.pointer c) ∧
    IfB (isNone? c) (R (.bool true) h)
    (∃ a1 : Addr, l = some a1 ∧
      ∃ c1 : Bool, hcell h (a1.add 9) = some (.bool c1) ∧
      R (.bool c1) h))
theorem seglog_Log_Dead_vc {l : Option Addr} {h : Hp} {R : Value → Hp → Prop} (H : vcseglog_Log_Dead l h R) : HCalls Try.prog fn_seglog_Log_Dead #[.pointer l] h R :=
  vc_fn (annOf [] []) Try.func18 [.pointer l] (by kernel_rfl) (V := vcseglog_Log_Dead l h R) (by kernel_rfl) H

def vczdev_Dev_Pointer (d : Option Addr) (i : Int) (h : Hp) (R : Value → Hp → Prop) : Prop :=
  HCalls Try.prog fn_zdev_Dev_at #[.pointer d, .int .i64 i] h fun r vh =>
  ∃ c : Option Addr, r = .pointer c ∧
  IfB (isNone? c) (R (.tuple #[.int .i64 (0 : Int), .int .i64 (1 : Int)]) vh)
  (∃ a : Addr, c = some a ∧
    ∃ c1 : Sl, hcell vh a = some (.slice c1.base c1.len c1.cap) ∧
    R (.tuple #[.int .i64 (c1.len : Int), .int .i64 (0 : Int)]) vh)
theorem zdev_Dev_Pointer_vc {d : Option Addr} {i : Int} {h : Hp} {R : Value → Hp → Prop} (H : vczdev_Dev_Pointer d i h R) : HCalls Try.prog fn_zdev_Dev_Pointer #[.pointer d, .int .i64 i] h R :=
  vc_fn (annOf [] []) Try.func19 [.pointer d, .int .i64 i] (by kernel_rfl) (V := vczdev_Dev_Pointer d i h R) (by kernel_rfl) H

def vcseglog_Log_Read (l : Option Addr) (k : Int) (h : Hp) (R : Value → Hp → Prop) : Prop :=
  HCalls Try.prog fn_seglog_Log_First #[.pointer l] h fun r vh =>
  ∃ c : Int, r = .int .i64 c ∧
  IfB (decide (k < c)) (R (.tuple #[.slice Sl.nil.base Sl.nil.len Sl.nil.cap, .int .i64 (14 : Int)]) vh)
  (HCalls Try.prog fn_seglog_Log_Len #[.pointer l] vh fun r1 vh1 =>
    ∃ c1 : Int, r1 = .int .i64 c1 ∧
    IfB (decide (k ≥ c1)) (R (.tuple #[.slice Sl.nil.base Sl.nil.len Sl.nil.cap, .int .i64 (14 : Int)]) vh1)
    (∃ a : Addr, l = some a ∧
      ∃ c2 : Sl, hcell vh1 (a.add 8) = some (.slice c2.base c2.len c2.cap) ∧
      ∃ a1 : Addr, l = some a1 ∧
      ∃ c3 : Int, hcell vh1 (a1.add 7) = some (.int .i64 c3) ∧
      ∃ a2 : Addr, c2.base = some a2 ∧ 0 ≤ (iSub .i64 k c3) ∧ (iSub .i64 k c3) < (c2.len : Int) ∧
      ∃ c4 : Sl, hcell vh1 (a2.add (((iSub .i64 k c3)).toNat * 1)) = some (.slice c4.base c4.len c4.cap) ∧
      HCalls Try.prog fn_slices_Clone_sbytebyte #[.slice c4.base c4.len c4.cap] vh1 fun r2 vh2 =>
      ∃ c5 : Sl, r2 = .slice c5.base c5.len c5.cap ∧
      Ext vh1 vh2 ∧
      R (.tuple #[.slice c5.base c5.len c5.cap, .int .i64 (0 : Int)]) vh2))
theorem seglog_Log_Read_vc {l : Option Addr} {k : Int} {h : Hp} {R : Value → Hp → Prop} (H : vcseglog_Log_Read l k h R) : HCalls Try.prog fn_seglog_Log_Read #[.pointer l, .int .i64 k] h R :=
  vc_fn (annOf [] []) Try.func20 [.pointer l, .int .i64 k] (by kernel_rfl) (V := vcseglog_Log_Read l k h R) (by kernel_rfl) H

def vcseglog_Log_Len (l : Option Addr) (h : Hp) (R : Value → Hp → Prop) : Prop :=
  IfB (isNone? l) (R (.int .i64 (0 : Int)) h)
  (∃ a : Addr, l = some a ∧
    ∃ c : Int, hcell h (a.add 7) = some (.int .i64 c) ∧
    ∃ a1 : Addr, l = some a1 ∧
    ∃ c1 : Sl, hcell h (a1.add 8) = some (.slice c1.base c1.len c1.cap) ∧
    R (.int .i64 (iAdd .i64 c (c1.len : Int))) h)
theorem seglog_Log_Len_vc {l : Option Addr} {h : Hp} {R : Value → Hp → Prop} (H : vcseglog_Log_Len l h R) : HCalls Try.prog fn_seglog_Log_Len #[.pointer l] h R :=
  vc_fn (annOf [] []) Try.func21 [.pointer l] (by kernel_rfl) (V := vcseglog_Log_Len l h R) (by kernel_rfl) H

def vczdev_Dev_Cut (d : Option Addr) (n : Int) (h : Hp) (R : Value → Hp → Prop) : Prop :=
  HCalls Try.prog fn_zdev_Dev_gone #[.pointer d] h fun r vh =>
  ∃ c : Bool, r = .bool c ∧
  IfB (!c) (∃ a : Addr, d = some a ∧
    StOk vh (a.add 5) ∧
    Lt (hset vh (a.add 5) (.bool true)) fun vh1 =>
    ∃ a1 : Addr, d = some a1 ∧
    StOk vh1 (a1.add 6) ∧
    Lt (hset vh1 (a1.add 6) (.int .i64 (if n < (0 : Int) then (0 : Int) else n))) fun vh2 =>
    R (.tuple #[]) vh2)
  (R (.tuple #[]) vh)
theorem zdev_Dev_Cut_vc {d : Option Addr} {n : Int} {h : Hp} {R : Value → Hp → Prop} (H : vczdev_Dev_Cut d n h R) : HCalls Try.prog fn_zdev_Dev_Cut #[.pointer d, .int .i64 n] h R :=
  vc_fn (annOf [] []) Try.func23 [.pointer d, .int .i64 n] (by kernel_rfl) (V := vczdev_Dev_Cut d n h R) (by kernel_rfl) H

def vcseglog_Log_First (l : Option Addr) (h : Hp) (R : Value → Hp → Prop) : Prop :=
  IfB (isNone? l) (R (.int .i64 (0 : Int)) h)
  (∃ a : Addr, l = some a ∧
    ∃ c : Int, hcell h (a.add 7) = some (.int .i64 c) ∧
    R (.int .i64 c) h)
theorem seglog_Log_First_vc {l : Option Addr} {h : Hp} {R : Value → Hp → Prop} (H : vcseglog_Log_First l h R) : HCalls Try.prog fn_seglog_Log_First #[.pointer l] h R :=
  vc_fn (annOf [] []) Try.func24 [.pointer l] (by kernel_rfl) (V := vcseglog_Log_First l h R) (by kernel_rfl) H

def vczdev_New (g : Int) (g1 : Int) (h : Hp) (R : Value → Hp → Prop) : Prop :=
  let vh := alc h [.int .i64 g, .int .i64 g1] ty_api_Geometry;
  ∃ c : Int, hcell vh (nw h) = some (.int .i64 c) ∧
  IfB (decide (c < (8 : Int))) (R (.tuple #[.pointer none, .int .i64 (1 : Int)]) vh)
  (∃ c1 : Int, hcell vh (nw h) = some (.int .i64 c1) ∧
    IfB (decide (c1 > (64 : Int))) (R (.tuple #[.pointer none, .int .i64 (1 : Int)]) vh)
    (∃ c2 : Int, hcell vh ((nw h).add 1) = some (.int .i64 c2) ∧
      IfB (decide (c2 < (96 : Int))) (R (.tuple #[.pointer none, .int .i64 (1 : Int)]) vh)
      (∃ c3 : Int, hcell vh ((nw h).add 1) = some (.int .i64 c3) ∧
        IfB (decide (c3 > (192 : Int))) (R (.tuple #[.pointer none, .int .i64 (1 : Int)]) vh)
        (∃ c4 : Int, ∃ c5 : Int, hcell vh ((nw h)) = some (.int .i64 c4) ∧ hcell vh ((nw h).add 1) = some (.int .i64 c5) ∧
          let vh1 := alc vh [.int .i64 c4, .int .i64 c5, .slice Sl.nil.base Sl.nil.len Sl.nil.cap, .int .i64 (0 : Int), .int .i64 (0 : Int), .bool false, .int .i64 (0 : Int), .bool false] ty_zdev_Dev;
          ∃ c6 : Int, hcell vh1 (nw h) = some (.int .i64 c6) ∧
          ∃ (vI : Int → Nat → Hp → Prop) (n : Nat), vI (0 : Int) n vh1 ∧
          ∀ _junk : Nat → Value, ∀ t28 : Int, ∀ (n1 : Nat) (vh2 : Hp), vI t28 n1 vh2 →
          IfB (decide (t28 < c6)) (∃ a : Addr, (some (nw vh)) = some a ∧
            ∃ c7 : Sl, hcell vh2 (a.add 2) = some (.slice c7.base c7.len c7.cap) ∧
            let vh3 := alc vh2 [.slice Sl.nil.base Sl.nil.len Sl.nil.cap, .int .i64 (0 : Int)] ty_zdev_zone;
            let vh4 := alc vh3 [.pointer (some (nw vh2))] ty_pzdev_zone;
            AppC ty_pzdev_zone 1 8 #[.pointer none] c7 (Sl.mk (some (nw vh3)) 1 1) vh4 fun s vh5 =>
            ∃ a1 : Addr, (some (nw vh)) = some a1 ∧
            StOk vh5 (a1.add 2) ∧
            Lt (hset vh5 (a1.add 2) (.slice s.base s.len s.cap)) fun vh6 =>
            ∃ n2, n2 < n1 ∧ vI (iAdd .i64 t28 (1 : Int)) n2 vh6)
          (R (.tuple #[.pointer (some (nw vh)), .int .i64 (0 : Int)]) vh2)))))
theorem zdev_New_vc {g : Int} {g1 : Int} {h : Hp} {R : Value → Hp → Prop} (H : vczdev_New g g1 h R) : HCalls Try.prog fn_zdev_New #[.agg #[.int .i64 g, .int .i64 g1]] h R :=
  vc_fn (annOf [(0, [(28, .int .i64)])] []) Try.func25 [.agg #[.int .i64 g, .int .i64 g1]] (by kernel_rfl) (V := vczdev_New g g1 h R) (by kernel_rfl) H

def vczdev_Dev_Geometry (d : Option Addr) (h : Hp) (R : Value → Hp → Prop) : Prop :=
  let vh := alc h [.int .i64 (0 : Int), .int .i64 (0 : Int)] ty_api_Geometry;
  HCalls Try.prog fn_zdev_Dev_gone #[.pointer d] vh fun r vh1 =>
  ∃ c : Bool, r = .bool c ∧
  IfB c (stCells (nw h) 0 [.int .i64 (0 : Int), .int .i64 (0 : Int)] vh1 fun vh2 =>
    ∃ x : Int, ∃ x1 : Int, hcell vh2 ((nw h)) = some (.int .i64 x) ∧ hcell vh2 ((nw h).add 1) = some (.int .i64 x1) ∧
    R (.agg #[.int .i64 x, .int .i64 x1]) vh2)
  (∃ a : Addr, d = some a ∧
    ∃ c1 : Int, ∃ c2 : Int, hcell vh1 (a) = some (.int .i64 c1) ∧ hcell vh1 (a.add 1) = some (.int .i64 c2) ∧
    stCells (nw h) 0 [.int .i64 c1, .int .i64 c2] vh1 fun vh3 =>
    ∃ x2 : Int, ∃ x3 : Int, hcell vh3 ((nw h)) = some (.int .i64 x2) ∧ hcell vh3 ((nw h).add 1) = some (.int .i64 x3) ∧
    R (.agg #[.int .i64 x2, .int .i64 x3]) vh3)
theorem zdev_Dev_Geometry_vc {d : Option Addr} {h : Hp} {R : Value → Hp → Prop} (H : vczdev_Dev_Geometry d h R) : HCalls Try.prog fn_zdev_Dev_Geometry #[.pointer d] h R :=
  vc_fn (annOf [] []) Try.func26 [.pointer d] (by kernel_rfl) (V := vczdev_Dev_Geometry d h R) (by kernel_rfl) H

def vcseglog_strange (blocks : Sl) (h : Hp) (R : Value → Hp → Prop) : Prop :=
  HCalls Try.prog fn_slices_ContainsFunc_ssbytesbyte #[.slice blocks.base blocks.len blocks.cap, .func (.func 48) #[] #[]] h fun r vh =>
  ∃ c : Bool, r = .bool c ∧
  R (.bool c) vh
theorem seglog_strange_vc {blocks : Sl} {h : Hp} {R : Value → Hp → Prop} (H : vcseglog_strange blocks h R) : HCalls Try.prog fn_seglog_strange #[.slice blocks.base blocks.len blocks.cap] h R :=
  vc_fn (annOf [] []) Try.func28 [.slice blocks.base blocks.len blocks.cap] (by kernel_rfl) (V := vcseglog_strange blocks h R) (by kernel_rfl) H

def vcscarpalike_Block (n : Int) (k : Int) (h : Hp) (R : Value → Hp → Prop) : Prop :=
  MkC ty_uint8 1 #[.int .u8 (0 : Int)] (if n < (0 : Int) then (0 : Int) else n) (if n < (0 : Int) then (0 : Int) else n) h fun s vh =>
  ∃ (vI : Int → Nat → Hp → Prop) (n1 : Nat), vI (0 : Int) n1 vh ∧
  ∀ _junk : Nat → Value, ∀ i : Int, ∀ (n2 : Nat) (vh1 : Hp), vI i n2 vh1 →
  IfB (decide (i < (s.len : Int))) (HCalls Try.prog fn_scarpalike_Round #[.int .i64 (iAdd .i64 (iAdd .i64 (iMul .i64 i i) (iMul .i64 k (7 : Int))) (1 : Int)), .int .i64 (251 : Int)] vh1 fun r vh2 =>
    ∃ c : Int, r = .int .i64 c ∧
    ∃ a : Addr, s.base = some a ∧ 0 ≤ i ∧ i < (s.len : Int) ∧
    StOk vh2 (a.add ((i).toNat * 1)) ∧
    Lt (hset vh2 (a.add ((i).toNat * 1)) (.int .u8 (iConv .u8 c))) fun vh3 =>
    ∃ n3, n3 < n2 ∧ vI (iAdd .i64 i (1 : Int)) n3 vh3)
  (R (.slice s.base s.len s.cap) vh1)
theorem scarpalike_Block_vc {n : Int} {k : Int} {h : Hp} {R : Value → Hp → Prop} (H : vcscarpalike_Block n k h R) : HCalls Try.prog fn_scarpalike_Block #[.int .i64 n, .int .i64 k] h R :=
  vc_fn (annOf [(0, [(6, .int .i64)])] []) Try.func31 [.int .i64 n, .int .i64 k] (by kernel_rfl) (V := vcscarpalike_Block n k h R) (by kernel_rfl) H

def vcslices_ContainsFunc_ssbytesbyte (s : Sl) (f : Nat) (h : Hp) (R : Value → Hp → Prop) : Prop :=
  HCalls Try.prog fn_slices_IndexFunc_ssbytesbyte #[.slice s.base s.len s.cap, .func (.func f) #[] #[]] h fun r vh =>
  ∃ c : Int, r = .int .i64 c ∧
  R (.bool (decide (c ≥ (0 : Int)))) vh
theorem slices_ContainsFunc_ssbytesbyte_vc {s : Sl} {f : Nat} {h : Hp} {R : Value → Hp → Prop} (H : vcslices_ContainsFunc_ssbytesbyte s f h R) : HCalls Try.prog fn_slices_ContainsFunc_ssbytesbyte #[.slice s.base s.len s.cap, .func (.func f) #[] #[]] h R :=
  vc_fn (annOf [] []) Try.func32 [.slice s.base s.len s.cap, .func (.func f) #[] #[]] (by kernel_rfl) (V := vcslices_ContainsFunc_ssbytesbyte s f h R) (by kernel_rfl) H

def vcseglog_Log_Append_1 (r : Sl) (h : Hp) (R : Value → Hp → Prop) : Prop :=
  R (.bool (decide ((r.len : Int) > (40 : Int)))) h
theorem seglog_Log_Append_1_vc {r : Sl} {h : Hp} {R : Value → Hp → Prop} (H : vcseglog_Log_Append_1 r h R) : HCalls Try.prog fn_seglog_Log_Append_1 #[.slice r.base r.len r.cap] h R :=
  vc_fn (annOf [] []) Try.func33 [.slice r.base r.len r.cap] (by kernel_rfl) (V := vcseglog_Log_Append_1 r h R) (by kernel_rfl) H

def vcslices_Clone_ssbytesbyte (s : Sl) (h : Hp) (R : Value → Hp → Prop) : Prop :=
  IfB (isNone? s.base) (R (.slice Sl.nil.base Sl.nil.len Sl.nil.cap) h)
  (let vh := alc h [] ty_suint8;
    AppC ty_suint8 1 24 #[.slice Sl.nil.base Sl.nil.len Sl.nil.cap] (Sl.mk (some (nw h)) 0 0) s vh fun s1 vh1 =>
    R (.slice s1.base s1.len s1.cap) vh1)
theorem slices_Clone_ssbytesbyte_vc {s : Sl} {h : Hp} {R : Value → Hp → Prop} (H : vcslices_Clone_ssbytesbyte s h R) : HCalls Try.prog fn_slices_Clone_ssbytesbyte #[.slice s.base s.len s.cap] h R :=
  vc_fn (annOf [] []) Try.func34 [.slice s.base s.len s.cap] (by kernel_rfl) (V := vcslices_Clone_ssbytesbyte s h R) (by kernel_rfl) H

def vcslices_Clone_sbytebyte (s : Sl) (h : Hp) (R : Value → Hp → Prop) : Prop :=
  IfB (isNone? s.base) (R (.slice Sl.nil.base Sl.nil.len Sl.nil.cap) h)
  (let vh := alc h [] ty_uint8;
    AppC ty_uint8 1 1 #[.int .u8 (0 : Int)] (Sl.mk (some (nw h)) 0 0) s vh fun s1 vh1 =>
    R (.slice s1.base s1.len s1.cap) vh1)
theorem slices_Clone_sbytebyte_vc {s : Sl} {h : Hp} {R : Value → Hp → Prop} (H : vcslices_Clone_sbytebyte s h R) : HCalls Try.prog fn_slices_Clone_sbytebyte #[.slice s.base s.len s.cap] h R :=
  vc_fn (annOf [] []) Try.func35 [.slice s.base s.len s.cap] (by kernel_rfl) (V := vcslices_Clone_sbytebyte s h R) (by kernel_rfl) H

def vcseglog_group (epoch : Int) (first : Int) (records : Sl) (h : Hp) (R : Value → Hp → Prop) : Prop :=
  ∃ (vI : Sl → Int → Nat → Hp → Prop) (n : Nat), vI Sl.nil (0 : Int) n h ∧
  ∀ _junk : Nat → Value, ∀ out : Sl, ∀ t15 : Int, ∀ (n1 : Nat) (vh : Hp), vI out t15 n1 vh →
  IfB (decide (t15 < (records.len : Int))) (∃ a : Addr, records.base = some a ∧ 0 ≤ t15 ∧ t15 < (records.len : Int) ∧
    ∃ c : Sl, hcell vh (a.add ((t15).toNat * 1)) = some (.slice c.base c.len c.cap) ∧
    HCalls Try.prog fn_frame_Encode #[.agg #[.int .i64 (1 : Int), .int .i64 epoch, .int .i64 (iAdd .i64 first t15), .int .i64 (0 : Int), .slice c.base c.len c.cap]] vh fun r vh1 =>
    ∃ c1 : Sl, ∃ c2 : Int, r = .tuple #[.slice c1.base c1.len c1.cap, .int .i64 c2] ∧
    let vh2 := alc vh1 [.slice c1.base c1.len c1.cap] ty_suint8;
    AppC ty_suint8 1 24 #[.slice Sl.nil.base Sl.nil.len Sl.nil.cap] out (Sl.mk (some (nw vh1)) 1 1) vh2 fun s vh3 =>
    ∃ n2, n2 < n1 ∧ vI s (iAdd .i64 t15 (1 : Int)) n2 vh3)
  (HCalls Try.prog fn_seglog_sum #[.slice records.base records.len records.cap] vh fun r1 vh4 =>
    ∃ c3 : Sl, r1 = .slice c3.base c3.len c3.cap ∧
    HCalls Try.prog fn_frame_Encode #[.agg #[.int .i64 (2 : Int), .int .i64 epoch, .int .i64 first, .int .i64 (records.len : Int), .slice c3.base c3.len c3.cap]] vh4 fun r2 vh5 =>
    ∃ c4 : Sl, ∃ c5 : Int, r2 = .tuple #[.slice c4.base c4.len c4.cap, .int .i64 c5] ∧
    let vh6 := alc vh5 [.slice c4.base c4.len c4.cap] ty_suint8;
    AppC ty_suint8 1 24 #[.slice Sl.nil.base Sl.nil.len Sl.nil.cap] out (Sl.mk (some (nw vh5)) 1 1) vh6 fun s1 vh7 =>
    R (.slice s1.base s1.len s1.cap) vh7)
theorem seglog_group_vc {epoch : Int} {first : Int} {records : Sl} {h : Hp} {R : Value → Hp → Prop} (H : vcseglog_group epoch first records h R) : HCalls Try.prog fn_seglog_group #[.int .i64 epoch, .int .i64 first, .slice records.base records.len records.cap] h R :=
  vc_fn (annOf [(0, [(6, .sl), (15, .int .i64)])] []) Try.func37 [.int .i64 epoch, .int .i64 first, .slice records.base records.len records.cap] (by kernel_rfl) (V := vcseglog_group epoch first records h R) (by kernel_rfl) H

def vcframe_Encode (b : Int) (b1 : Int) (b2 : Int) (b3 : Int) (b4 : Sl) (h : Hp) (R : Value → Hp → Prop) : Prop :=
  let vh := alc h [.int .i64 b, .int .i64 b1, .int .i64 b2, .int .i64 b3, .slice b4.base b4.len b4.cap] ty_frame_Block;
  ∃ c : Int, hcell vh (nw h) = some (.int .i64 c) ∧
  HCalls Try.prog fn_frame_within #[.int .i64 c, .int .i64 (1 : Int), .int .i64 (4 : Int)] vh fun r vh1 =>
  ∃ c1 : Bool, r = .bool c1 ∧
  IfB (!c1) (R (.tuple #[.slice Sl.nil.base Sl.nil.len Sl.nil.cap, .int .i64 (1 : Int)]) vh1)
  (∃ c2 : Int, hcell vh1 ((nw h).add 1) = some (.int .i64 c2) ∧
    HCalls Try.prog fn_frame_within #[.int .i64 c2, .int .i64 (0 : Int), .int .i64 (4294967295 : Int)] vh1 fun r1 vh2 =>
    ∃ c3 : Bool, r1 = .bool c3 ∧
    IfB (!c3) (R (.tuple #[.slice Sl.nil.base Sl.nil.len Sl.nil.cap, .int .i64 (1 : Int)]) vh2)
    (∃ c4 : Int, hcell vh2 ((nw h).add 2) = some (.int .i64 c4) ∧
      HCalls Try.prog fn_frame_within #[.int .i64 c4, .int .i64 (0 : Int), .int .i64 (1099511627776 : Int)] vh2 fun r2 vh3 =>
      ∃ c5 : Bool, r2 = .bool c5 ∧
      IfB (!c5) (R (.tuple #[.slice Sl.nil.base Sl.nil.len Sl.nil.cap, .int .i64 (1 : Int)]) vh3)
      (∃ c6 : Int, hcell vh3 ((nw h).add 3) = some (.int .i64 c6) ∧
        HCalls Try.prog fn_frame_within #[.int .i64 c6, .int .i64 (0 : Int), .int .i64 (1048576 : Int)] vh3 fun r3 vh4 =>
        ∃ c7 : Bool, r3 = .bool c7 ∧
        IfB (!c7) (R (.tuple #[.slice Sl.nil.base Sl.nil.len Sl.nil.cap, .int .i64 (1 : Int)]) vh4)
        (∃ c8 : Sl, hcell vh4 ((nw h).add 4) = some (.slice c8.base c8.len c8.cap) ∧
          IfB (decide ((c8.len : Int) > (40 : Int))) (R (.tuple #[.slice Sl.nil.base Sl.nil.len Sl.nil.cap, .int .i64 (3 : Int)]) vh4)
          (∃ c9 : Int, hcell vh4 (nw h) = some (.int .i64 c9) ∧
            ∃ c10 : Sl, hcell vh4 ((nw h).add 4) = some (.slice c10.base c10.len c10.cap) ∧
            ∃ c11 : Int, hcell vh4 ((nw h).add 1) = some (.int .i64 c11) ∧
            ∃ c12 : Int, hcell vh4 ((nw h).add 2) = some (.int .i64 c12) ∧
            ∃ c13 : Int, hcell vh4 ((nw h).add 3) = some (.int .i64 c13) ∧
            ∃ c14 : Sl, hcell vh4 ((nw h).add 4) = some (.slice c14.base c14.len c14.cap) ∧
            (let vh5 := alc vh4 [.int .u8 (iConv .u8 c9), .int .u8 (iConv .u8 (c10.len : Int))] ty_uint8;
              Ext vh4 vh5 ∧
              HCalls Try.prog fn_bits_Put32 #[.int .u32 (iConv .u32 c11)] vh5 fun r4 vh6 =>
              ∃ c15 : Sl, r4 = .slice c15.base c15.len c15.cap ∧
              Ext vh4 vh6 ∧
              HCalls Try.prog fn_bits_Put64 #[.int .u64 (iConv .u64 c12)] vh6 fun r5 vh7 =>
              ∃ c16 : Sl, r5 = .slice c16.base c16.len c16.cap ∧
              Ext vh4 vh7 ∧
              HCalls Try.prog fn_bits_Put32 #[.int .u32 (iConv .u32 c13)] vh7 fun r6 vh8 =>
              ∃ c17 : Sl, r6 = .slice c17.base c17.len c17.cap ∧
              Ext vh4 vh8 ∧
              let vh9 := alc vh8 [.slice (Sl.mk (some (nw vh4)) 2 2).base (Sl.mk (some (nw vh4)) 2 2).len (Sl.mk (some (nw vh4)) 2 2).cap, .slice c15.base c15.len c15.cap, .slice c16.base c16.len c16.cap, .slice c17.base c17.len c17.cap, .slice c14.base c14.len c14.cap] ty_suint8;
              Ext vh4 vh9 ∧
              HCalls Try.prog fn_slices_Concat_sbytebyte #[.slice (Sl.mk (some (nw vh8)) 5 5).base (Sl.mk (some (nw vh8)) 5 5).len (Sl.mk (some (nw vh8)) 5 5).cap] vh9 fun r7 vh10 =>
              ∃ c18 : Sl, r7 = .slice c18.base c18.len c18.cap ∧
              Ext vh4 vh10 ∧
              AppZ ty_uint8 1 1 #[.int .u8 (0 : Int)] c18 (iSub .i64 (60 : Int) (c18.len : Int)) vh10 fun s vh11 =>
              HCalls Try.prog fn_crc_Of #[.slice s.base s.len s.cap] vh11 fun r8 vh12 =>
              ∃ c19 : Int, r8 = .int .u32 c19 ∧
              HCalls Try.prog fn_bits_Put32 #[.int .u32 c19] vh12 fun r9 vh13 =>
              ∃ c20 : Sl, r9 = .slice c20.base c20.len c20.cap ∧
              AppC ty_uint8 1 1 #[.int .u8 (0 : Int)] s c20 vh13 fun s1 vh14 =>
              R (.tuple #[.slice s1.base s1.len s1.cap, .int .i64 (0 : Int)]) vh14) ∧
            (HCalls Try.prog fn_bits_Put32 #[.int .u32 (iConv .u32 c11)] vh4 fun r10 vh15 =>
              ∃ c21 : Sl, r10 = .slice c21.base c21.len c21.cap ∧
              Ext vh4 vh15 ∧
              (let vh16 := alc vh15 [.int .u8 (iConv .u8 c9), .int .u8 (iConv .u8 (c10.len : Int))] ty_uint8;
                Ext vh4 vh16 ∧
                HCalls Try.prog fn_bits_Put64 #[.int .u64 (iConv .u64 c12)] vh16 fun r11 vh17 =>
                ∃ c22 : Sl, r11 = .slice c22.base c22.len c22.cap ∧
                Ext vh4 vh17 ∧
                HCalls Try.prog fn_bits_Put32 #[.int .u32 (iConv .u32 c13)] vh17 fun r12 vh18 =>
                ∃ c23 : Sl, r12 = .slice c23.base c23.len c23.cap ∧
                Ext vh4 vh18 ∧
                let vh19 := alc vh18 [.slice (Sl.mk (some (nw vh15)) 2 2).base (Sl.mk (some (nw vh15)) 2 2).len (Sl.mk (some (nw vh15)) 2 2).cap, .slice c21.base c21.len c21.cap, .slice c22.base c22.len c22.cap, .slice c23.base c23.len c23.cap, .slice c14.base c14.len c14.cap] ty_suint8;
                Ext vh4 vh19 ∧
                HCalls Try.prog fn_slices_Concat_sbytebyte #[.slice (Sl.mk (some (nw vh18)) 5 5).base (Sl.mk (some (nw vh18)) 5 5).len (Sl.mk (some (nw vh18)) 5 5).cap] vh19 fun r13 vh20 =>
                ∃ c24 : Sl, r13 = .slice c24.base c24.len c24.cap ∧
                Ext vh4 vh20 ∧
                AppZ ty_uint8 1 1 #[.int .u8 (0 : Int)] c24 (iSub .i64 (60 : Int) (c24.len : Int)) vh20 fun s2 vh21 =>
                HCalls Try.prog fn_crc_Of #[.slice s2.base s2.len s2.cap] vh21 fun r14 vh22 =>
                ∃ c25 : Int, r14 = .int .u32 c25 ∧
                HCalls Try.prog fn_bits_Put32 #[.int .u32 c25] vh22 fun r15 vh23 =>
                ∃ c26 : Sl, r15 = .slice c26.base c26.len c26.cap ∧
                AppC ty_uint8 1 1 #[.int .u8 (0 : Int)] s2 c26 vh23 fun s3 vh24 =>
                R (.tuple #[.slice s3.base s3.len s3.cap, .int .i64 (0 : Int)]) vh24) ∧
              (HCalls Try.prog fn_bits_Put64 #[.int .u64 (iConv .u64 c12)] vh15 fun r16 vh25 =>
                ∃ c27 : Sl, r16 = .slice c27.base c27.len c27.cap ∧
                Ext vh4 vh25 ∧
                (let vh26 := alc vh25 [.int .u8 (iConv .u8 c9), .int .u8 (iConv .u8 (c10.len : Int))] ty_uint8;
                  Ext vh4 vh26 ∧
                  HCalls Try.prog fn_bits_Put32 #[.int .u32 (iConv .u32 c13)] vh26 fun r17 vh27 =>
                  ∃ c28 : Sl, r17 = .slice c28.base c28.len c28.cap ∧
                  Ext vh4 vh27 ∧
                  let vh28 := alc vh27 [.slice (Sl.mk (some (nw vh25)) 2 2).base (Sl.mk (some (nw vh25)) 2 2).len (Sl.mk (some (nw vh25)) 2 2).cap, .slice c21.base c21.len c21.cap, .slice c27.base c27.len c27.cap, .slice c28.base c28.len c28.cap, .slice c14.base c14.len c14.cap] ty_suint8;
                  Ext vh4 vh28 ∧
                  HCalls Try.prog fn_slices_Concat_sbytebyte #[.slice (Sl.mk (some (nw vh27)) 5 5).base (Sl.mk (some (nw vh27)) 5 5).len (Sl.mk (some (nw vh27)) 5 5).cap] vh28 fun r18 vh29 =>
                  ∃ c29 : Sl, r18 = .slice c29.base c29.len c29.cap ∧
                  Ext vh4 vh29 ∧
                  AppZ ty_uint8 1 1 #[.int .u8 (0 : Int)] c29 (iSub .i64 (60 : Int) (c29.len : Int)) vh29 fun s4 vh30 =>
                  HCalls Try.prog fn_crc_Of #[.slice s4.base s4.len s4.cap] vh30 fun r19 vh31 =>
                  ∃ c30 : Int, r19 = .int .u32 c30 ∧
                  HCalls Try.prog fn_bits_Put32 #[.int .u32 c30] vh31 fun r20 vh32 =>
                  ∃ c31 : Sl, r20 = .slice c31.base c31.len c31.cap ∧
                  AppC ty_uint8 1 1 #[.int .u8 (0 : Int)] s4 c31 vh32 fun s5 vh33 =>
                  R (.tuple #[.slice s5.base s5.len s5.cap, .int .i64 (0 : Int)]) vh33) ∧
                (HCalls Try.prog fn_bits_Put32 #[.int .u32 (iConv .u32 c13)] vh25 fun r21 vh34 =>
                  ∃ c32 : Sl, r21 = .slice c32.base c32.len c32.cap ∧
                  Ext vh4 vh34 ∧
                  let vh35 := alc vh34 [.int .u8 (iConv .u8 c9), .int .u8 (iConv .u8 (c10.len : Int))] ty_uint8;
                  Ext vh4 vh35 ∧
                  let vh36 := alc vh35 [.slice (Sl.mk (some (nw vh34)) 2 2).base (Sl.mk (some (nw vh34)) 2 2).len (Sl.mk (some (nw vh34)) 2 2).cap, .slice c21.base c21.len c21.cap, .slice c27.base c27.len c27.cap, .slice c32.base c32.len c32.cap, .slice c14.base c14.len c14.cap] ty_suint8;
                  Ext vh4 vh36 ∧
                  HCalls Try.prog fn_slices_Concat_sbytebyte #[.slice (Sl.mk (some (nw vh35)) 5 5).base (Sl.mk (some (nw vh35)) 5 5).len (Sl.mk (some (nw vh35)) 5 5).cap] vh36 fun r22 vh37 =>
                  ∃ c33 : Sl, r22 = .slice c33.base c33.len c33.cap ∧
                  Ext vh4 vh37 ∧
                  AppZ ty_uint8 1 1 #[.int .u8 (0 : Int)] c33 (iSub .i64 (60 : Int) (c33.len : Int)) vh37 fun s6 vh38 =>
                  HCalls Try.prog fn_crc_Of #[.slice s6.base s6.len s6.cap] vh38 fun r23 vh39 =>
                  ∃ c34 : Int, r23 = .int .u32 c34 ∧
                  HCalls Try.prog fn_bits_Put32 #[.int .u32 c34] vh39 fun r24 vh40 =>
                  ∃ c35 : Sl, r24 = .slice c35.base c35.len c35.cap ∧
                  AppC ty_uint8 1 1 #[.int .u8 (0 : Int)] s6 c35 vh40 fun s7 vh41 =>
                  R (.tuple #[.slice s7.base s7.len s7.cap, .int .i64 (0 : Int)]) vh41))))))))
theorem frame_Encode_vc {b : Int} {b1 : Int} {b2 : Int} {b3 : Int} {b4 : Sl} {h : Hp} {R : Value → Hp → Prop} (H : vcframe_Encode b b1 b2 b3 b4 h R) : HCalls Try.prog fn_frame_Encode #[.agg #[.int .i64 b, .int .i64 b1, .int .i64 b2, .int .i64 b3, .slice b4.base b4.len b4.cap]] h R :=
  vc_fn (annOf [] []) Try.func38 [.agg #[.int .i64 b, .int .i64 b1, .int .i64 b2, .int .i64 b3, .slice b4.base b4.len b4.cap]] (by kernel_rfl) (V := vcframe_Encode b b1 b2 b3 b4 h R) (by kernel_rfl) H

def vcscarpalike_Bytes (a : Sl) (b : Sl) (h : Hp) (R : Value → Hp → Prop) : Prop :=
  IfB ((a.len : Int) != (b.len : Int)) (R (.bool false) h)
  (∃ (vI : Int → Nat → Hp → Prop) (n : Nat), vI (0 : Int) n h ∧
    ∀ _junk : Nat → Value, ∀ i : Int, ∀ (n1 : Nat) (vh : Hp), vI i n1 vh →
    IfB (decide (i < (a.len : Int))) (∃ a1 : Addr, a.base = some a1 ∧ 0 ≤ i ∧ i < (a.len : Int) ∧
      ∃ c : Int, hcell vh (a1.add ((i).toNat * 1)) = some (.int .u8 c) ∧
      ∃ a2 : Addr, b.base = some a2 ∧ 0 ≤ i ∧ i < (b.len : Int) ∧
      ∃ c1 : Int, hcell vh (a2.add ((i).toNat * 1)) = some (.int .u8 c1) ∧
      IfB (c != c1) (R (.bool false) vh)
      (∃ n2, n2 < n1 ∧ vI (iAdd .i64 i (1 : Int)) n2 vh))
    (R (.bool true) vh))
theorem scarpalike_Bytes_vc {a : Sl} {b : Sl} {h : Hp} {R : Value → Hp → Prop} (H : vcscarpalike_Bytes a b h R) : HCalls Try.prog fn_scarpalike_Bytes #[.slice a.base a.len a.cap, .slice b.base b.len b.cap] h R :=
  vc_fn (annOf [(0, [(5, .int .i64)])] []) Try.func39 [.slice a.base a.len a.cap, .slice b.base b.len b.cap] (by kernel_rfl) (V := vcscarpalike_Bytes a b h R) (by kernel_rfl) H

def vczdev_Dev_at (d : Option Addr) (i : Int) (h : Hp) (R : Value → Hp → Prop) : Prop :=
  HCalls Try.prog fn_zdev_Dev_gone #[.pointer d] h fun r vh =>
  ∃ c : Bool, r = .bool c ∧
  IfB c (R (.pointer none) vh)
  (IfB (decide (i < (0 : Int))) (R (.pointer none) vh)
    (∃ a : Addr, d = some a ∧
      ∃ c1 : Sl, hcell vh (a.add 2) = some (.slice c1.base c1.len c1.cap) ∧
      IfB (decide (i ≥ (c1.len : Int))) (R (.pointer none) vh)
      (∃ a1 : Addr, d = some a1 ∧
        ∃ c2 : Sl, hcell vh (a1.add 2) = some (.slice c2.base c2.len c2.cap) ∧
        ∃ a2 : Addr, c2.base = some a2 ∧ 0 ≤ i ∧ i < (c2.len : Int) ∧
        ∃ c3 : Option Addr, hcell vh (a2.add ((i).toNat * 1)) = some (.pointer c3) ∧
        R (.pointer c3) vh)))
theorem zdev_Dev_at_vc {d : Option Addr} {i : Int} {h : Hp} {R : Value → Hp → Prop} (H : vczdev_Dev_at d i h R) : HCalls Try.prog fn_zdev_Dev_at #[.pointer d, .int .i64 i] h R :=
  vc_fn (annOf [] []) Try.func40 [.pointer d, .int .i64 i] (by kernel_rfl) (V := vczdev_Dev_at d i h R) (by kernel_rfl) H

def vczdev_Dev_gone (d : Option Addr) (h : Hp) (R : Value → Hp → Prop) : Prop :=
  IfB (isNone? d) (R (.bool true) h)
  (∃ a : Addr, d = some a ∧
    ∃ c : Sl, hcell h (a.add 2) = some (.slice c.base c.len c.cap) ∧
    R (.bool ((c.len : Int) == (0 : Int))) h)
theorem zdev_Dev_gone_vc {d : Option Addr} {h : Hp} {R : Value → Hp → Prop} (H : vczdev_Dev_gone d h R) : HCalls Try.prog fn_zdev_Dev_gone #[.pointer d] h R :=
  vc_fn (annOf [] []) Try.func41 [.pointer d] (by kernel_rfl) (V := vczdev_Dev_gone d h R) (by kernel_rfl) H

def vczdev_pick (l : Sl) (k : Int) (h : Hp) (R : Value → Hp → Prop) : Prop :=
  IfB ((l.len : Int) == (0 : Int)) (R (.tuple #[.int .i64 (0 : Int), .bool false]) h)
  ((l.len : Int) ≠ 0 ∧
    ∃ a : Addr, l.base = some a ∧ 0 ≤ (iRem k (l.len : Int)) ∧ (iRem k (l.len : Int)) < (l.len : Int) ∧
    ∃ c : Int, hcell h (a.add (((iRem k (l.len : Int))).toNat * 1)) = some (.int .i64 c) ∧
    R (.tuple #[.int .i64 c, .bool true]) h)
theorem zdev_pick_vc {l : Sl} {k : Int} {h : Hp} {R : Value → Hp → Prop} (H : vczdev_pick l k h R) : HCalls Try.prog fn_zdev_pick #[.slice l.base l.len l.cap, .int .i64 k] h R :=
  vc_fn (annOf [] []) Try.func42 [.slice l.base l.len l.cap, .int .i64 k] (by kernel_rfl) (V := vczdev_pick l k h R) (by kernel_rfl) H

def vczdev_rest (n : Int) (vby : Int) (h : Hp) (R : Value → Hp → Prop) : Prop :=
  vby ≠ 0 ∧
  IfB (decide ((iRem n vby) < (0 : Int))) (R (.int .i64 (iAdd .i64 (iRem n vby) vby)) h)
  (R (.int .i64 (iRem n vby)) h)
theorem zdev_rest_vc {n : Int} {vby : Int} {h : Hp} {R : Value → Hp → Prop} (H : vczdev_rest n vby h R) : HCalls Try.prog fn_zdev_rest #[.int .i64 n, .int .i64 vby] h R :=
  vc_fn (annOf [] []) Try.func43 [.int .i64 n, .int .i64 vby] (by kernel_rfl) (V := vczdev_rest n vby h R) (by kernel_rfl) H

def vczdev_own (l : Sl) (h : Hp) (R : Value → Hp → Prop) : Prop :=
  ∃ (vI : Sl → Int → Nat → Hp → Prop) (n : Nat), vI Sl.nil (0 : Int) n h ∧
  ∀ _junk : Nat → Value, ∀ out : Sl, ∀ t7 : Int, ∀ (n1 : Nat) (vh : Hp), vI out t7 n1 vh →
  IfB (decide (t7 < (l.len : Int))) (∃ a : Addr, l.base = some a ∧ 0 ≤ t7 ∧ t7 < (l.len : Int) ∧
    ∃ c : Sl, hcell vh (a.add ((t7).toNat * 1)) = some (.slice c.base c.len c.cap) ∧
    HCalls Try.prog fn_slices_Clone_sbytebyte #[.slice c.base c.len c.cap] vh fun r vh1 =>
    ∃ c1 : Sl, r = .slice c1.base c1.len c1.cap ∧
    let vh2 := alc vh1 [.slice c1.base c1.len c1.cap] ty_suint8;
    AppC ty_suint8 1 24 #[.slice Sl.nil.base Sl.nil.len Sl.nil.cap] out (Sl.mk (some (nw vh1)) 1 1) vh2 fun s vh3 =>
    ∃ n2, n2 < n1 ∧ vI s (iAdd .i64 t7 (1 : Int)) n2 vh3)
  (R (.slice out.base out.len out.cap) vh)
theorem zdev_own_vc {l : Sl} {h : Hp} {R : Value → Hp → Prop} (H : vczdev_own l h R) : HCalls Try.prog fn_zdev_own #[.slice l.base l.len l.cap] h R :=
  vc_fn (annOf [(0, [(2, .sl), (7, .int .i64)])] []) Try.func44 [.slice l.base l.len l.cap] (by kernel_rfl) (V := vczdev_own l h R) (by kernel_rfl) H

def vczdev_tear (p : Sl) (h : Hp) (R : Value → Hp → Prop) : Prop :=
  HCalls Try.prog fn_slices_Clone_sbytebyte #[.slice p.base p.len p.cap] h fun r vh =>
  ∃ c : Sl, r = .slice c.base c.len c.cap ∧
  ∃ (vI : Int → Nat → Hp → Prop) (n : Nat), vI (32 : Int) n vh ∧
  ∀ _junk : Nat → Value, ∀ i : Int, ∀ (n1 : Nat) (vh1 : Hp), vI i n1 vh1 →
  IfB (decide (i < (c.len : Int))) (∃ a : Addr, c.base = some a ∧ 0 ≤ i ∧ i < (c.len : Int) ∧
    ∃ c1 : Int, hcell vh1 (a.add ((i).toNat * 1)) = some (.int .u8 c1) ∧
    ∃ a1 : Addr, c.base = some a1 ∧ 0 ≤ i ∧ i < (c.len : Int) ∧
    StOk vh1 (a1.add ((i).toNat * 1)) ∧
    Lt (hset vh1 (a1.add ((i).toNat * 1)) (.int .u8 (iXor .u8 c1 (85 : Int)))) fun vh2 =>
    ∃ n2, n2 < n1 ∧ vI (iAdd .i64 i (1 : Int)) n2 vh2)
  (R (.slice c.base c.len c.cap) vh1)
theorem zdev_tear_vc {p : Sl} {h : Hp} {R : Value → Hp → Prop} (H : vczdev_tear p h R) : HCalls Try.prog fn_zdev_tear #[.slice p.base p.len p.cap] h R :=
  vc_fn (annOf [(0, [(4, .int .i64)])] []) Try.func45 [.slice p.base p.len p.cap] (by kernel_rfl) (V := vczdev_tear p h R) (by kernel_rfl) H

def vcseglog_Log_zone (l : Option Addr) (half : Int) (i : Int) (h : Hp) (R : Value → Hp → Prop) : Prop :=
  ∃ a : Addr, l = some a ∧
  ∃ c : Int, hcell h (a.add 1) = some (.int .i64 c) ∧
  ∃ a1 : Addr, l = some a1 ∧
  ∃ c1 : Int, hcell h (a1.add 2) = some (.int .i64 c1) ∧
  R (.int .i64 (iAdd .i64 (iAdd .i64 c (iMul .i64 half c1)) i)) h
theorem seglog_Log_zone_vc {l : Option Addr} {half : Int} {i : Int} {h : Hp} {R : Value → Hp → Prop} (H : vcseglog_Log_zone l half i h R) : HCalls Try.prog fn_seglog_Log_zone #[.pointer l, .int .i64 half, .int .i64 i] h R :=
  vc_fn (annOf [] []) Try.func46 [.pointer l, .int .i64 half, .int .i64 i] (by kernel_rfl) (V := vcseglog_Log_zone l half i h R) (by kernel_rfl) H

def vczdev_Dev_Read (d : Option Addr) (i : Int) (vat : Int) (h : Hp) (R : Value → Hp → Prop) : Prop :=
  HCalls Try.prog fn_zdev_Dev_at #[.pointer d, .int .i64 i] h fun r vh =>
  ∃ c : Option Addr, r = .pointer c ∧
  IfB (isNone? c) (R (.tuple #[.slice Sl.nil.base Sl.nil.len Sl.nil.cap, .int .i64 (1 : Int)]) vh)
  (IfB (decide (vat < (0 : Int))) (R (.tuple #[.slice Sl.nil.base Sl.nil.len Sl.nil.cap, .int .i64 (14 : Int)]) vh)
    (∃ a : Addr, c = some a ∧
      ∃ c1 : Sl, hcell vh a = some (.slice c1.base c1.len c1.cap) ∧
      IfB (decide (vat ≥ (c1.len : Int))) (R (.tuple #[.slice Sl.nil.base Sl.nil.len Sl.nil.cap, .int .i64 (14 : Int)]) vh)
      (∃ a1 : Addr, d = some a1 ∧
        ∃ c2 : Int, hcell vh (a1.add 4) = some (.int .i64 c2) ∧
        ∃ a2 : Addr, d = some a2 ∧
        StOk vh (a2.add 4) ∧
        Lt (hset vh (a2.add 4) (.int .i64 (iAdd .i64 c2 (1 : Int)))) fun vh1 =>
        ∃ a3 : Addr, c = some a3 ∧
        ∃ c3 : Sl, hcell vh1 a3 = some (.slice c3.base c3.len c3.cap) ∧
        ∃ a4 : Addr, c3.base = some a4 ∧ 0 ≤ vat ∧ vat < (c3.len : Int) ∧
        ∃ c4 : Sl, hcell vh1 (a4.add ((vat).toNat * 1)) = some (.slice c4.base c4.len c4.cap) ∧
        HCalls Try.prog fn_slices_Clone_sbytebyte #[.slice c4.base c4.len c4.cap] vh1 fun r1 vh2 =>
        ∃ c5 : Sl, r1 = .slice c5.base c5.len c5.cap ∧
        R (.tuple #[.slice c5.base c5.len c5.cap, .int .i64 (0 : Int)]) vh2)))
theorem zdev_Dev_Read_vc {d : Option Addr} {i : Int} {vat : Int} {h : Hp} {R : Value → Hp → Prop} (H : vczdev_Dev_Read d i vat h R) : HCalls Try.prog fn_zdev_Dev_Read #[.pointer d, .int .i64 i, .int .i64 vat] h R :=
  vc_fn (annOf [] []) Try.func47 [.pointer d, .int .i64 i, .int .i64 vat] (by kernel_rfl) (V := vczdev_Dev_Read d i vat h R) (by kernel_rfl) H

def vcseglog_strange_1 (p : Sl) (h : Hp) (R : Value → Hp → Prop) : Prop :=
  ∃ a : Addr, p.base = some a ∧ 0 ≤ (0 : Int) ∧ (0 : Int) < (p.len : Int) ∧
  ∃ c : Int, hcell h (a.add (((0 : Int)).toNat * 1)) = some (.int .u8 c) ∧
  IfB (decide (c < (1 : Int))) (R (.bool true) h)
  (∃ a1 : Addr, p.base = some a1 ∧ 0 ≤ (0 : Int) ∧ (0 : Int) < (p.len : Int) ∧
    ∃ c1 : Int, hcell h (a1.add (((0 : Int)).toNat * 1)) = some (.int .u8 c1) ∧
    R (.bool (decide (c1 > (4 : Int)))) h)
theorem seglog_strange_1_vc {p : Sl} {h : Hp} {R : Value → Hp → Prop} (H : vcseglog_strange_1 p h R) : HCalls Try.prog fn_seglog_strange_1 #[.slice p.base p.len p.cap] h R :=
  vc_fn (annOf [] []) Try.func48 [.slice p.base p.len p.cap] (by kernel_rfl) (V := vcseglog_strange_1 p h R) (by kernel_rfl) H

def vcframe_Decode (p : Sl) (h : Hp) (R : Value → Hp → Prop) : Prop :=
  let vh := alc h [.int .i64 (0 : Int), .int .i64 (0 : Int), .int .i64 (0 : Int), .int .i64 (0 : Int), .slice Sl.nil.base Sl.nil.len Sl.nil.cap] ty_frame_Block;
  IfB ((p.len : Int) != (64 : Int)) (stCells (nw h) 0 [.int .i64 (0 : Int), .int .i64 (0 : Int), .int .i64 (0 : Int), .int .i64 (0 : Int), .slice Sl.nil.base Sl.nil.len Sl.nil.cap] vh fun vh1 =>
    ∃ x : Int, ∃ x1 : Int, ∃ x2 : Int, ∃ x3 : Int, ∃ x4 : Sl, hcell vh1 ((nw h)) = some (.int .i64 x) ∧ hcell vh1 ((nw h).add 1) = some (.int .i64 x1) ∧ hcell vh1 ((nw h).add 2) = some (.int .i64 x2) ∧ hcell vh1 ((nw h).add 3) = some (.int .i64 x3) ∧ hcell vh1 ((nw h).add 4) = some (.slice x4.base x4.len x4.cap) ∧
    R (.tuple #[.agg #[.int .i64 x, .int .i64 x1, .int .i64 x2, .int .i64 x3, .slice x4.base x4.len x4.cap], .int .i64 (3 : Int)]) vh1)
  (let vh2 := alc vh [.int .i64 (0 : Int), .int .i64 (0 : Int), .int .i64 (0 : Int), .int .i64 (0 : Int), .slice Sl.nil.base Sl.nil.len Sl.nil.cap] ty_frame_Block;
    ∃ (vI : Bool → Nat → Hp → Prop) (n : Nat), vI false n vh2 ∧
    ∀ _junk : Nat → Value, ∀ ok : Bool, ∀ (n1 : Nat) (vh3 : Hp), vI ok n1 vh3 →
    ∃ a : Addr, p.base = some a ∧ 0 ≤ (1 : Int) ∧ (1 : Int) < (p.len : Int) ∧
    ∃ c : Int, hcell vh3 (a.add (((1 : Int)).toNat * 1)) = some (.int .u8 c) ∧
    0 ≤ (6 : Int) ∧ (6 : Int) ≤ (p.len : Int) ∧ (p.len : Int) ≤ (p.cap : Int) ∧ (p.cap : Int) ≤ (p.cap : Int) ∧
    HCalls Try.prog fn_bits_Get64 #[.slice (cutSl p (6 : Int) (p.len : Int) (p.cap : Int) 1).base (cutSl p (6 : Int) (p.len : Int) (p.cap : Int) 1).len (cutSl p (6 : Int) (p.len : Int) (p.cap : Int) 1).cap] vh3 fun r vh4 =>
    ∃ c1 : Int, ∃ c2 : Bool, r = .tuple #[.int .u64 c1, .bool c2] ∧
    IfB (decide ((iConv .i64 c) > (40 : Int))) (IfB (!ok) (stCells (nw h) 0 [.int .i64 (0 : Int), .int .i64 (0 : Int), .int .i64 (0 : Int), .int .i64 (0 : Int), .slice Sl.nil.base Sl.nil.len Sl.nil.cap] vh4 fun vh5 =>
        ∃ x5 : Int, ∃ x6 : Int, ∃ x7 : Int, ∃ x8 : Int, ∃ x9 : Sl, hcell vh5 ((nw h)) = some (.int .i64 x5) ∧ hcell vh5 ((nw h).add 1) = some (.int .i64 x6) ∧ hcell vh5 ((nw h).add 2) = some (.int .i64 x7) ∧ hcell vh5 ((nw h).add 3) = some (.int .i64 x8) ∧ hcell vh5 ((nw h).add 4) = some (.slice x9.base x9.len x9.cap) ∧
        R (.tuple #[.agg #[.int .i64 x5, .int .i64 x6, .int .i64 x7, .int .i64 x8, .slice x9.base x9.len x9.cap], .int .i64 (13 : Int)]) vh5)
      (∃ c3 : Int, ∃ c4 : Int, ∃ c5 : Int, ∃ c6 : Int, ∃ c7 : Sl, hcell vh4 ((nw vh)) = some (.int .i64 c3) ∧ hcell vh4 ((nw vh).add 1) = some (.int .i64 c4) ∧ hcell vh4 ((nw vh).add 2) = some (.int .i64 c5) ∧ hcell vh4 ((nw vh).add 3) = some (.int .i64 c6) ∧ hcell vh4 ((nw vh).add 4) = some (.slice c7.base c7.len c7.cap) ∧
        stCells (nw h) 0 [.int .i64 c3, .int .i64 c4, .int .i64 c5, .int .i64 c6, .slice c7.base c7.len c7.cap] vh4 fun vh6 =>
        ∃ x10 : Int, ∃ x11 : Int, ∃ x12 : Int, ∃ x13 : Int, ∃ x14 : Sl, hcell vh6 ((nw h)) = some (.int .i64 x10) ∧ hcell vh6 ((nw h).add 1) = some (.int .i64 x11) ∧ hcell vh6 ((nw h).add 2) = some (.int .i64 x12) ∧ hcell vh6 ((nw h).add 3) = some (.int .i64 x13) ∧ hcell vh6 ((nw h).add 4) = some (.slice x14.base x14.len x14.cap) ∧
        R (.tuple #[.agg #[.int .i64 x10, .int .i64 x11, .int .i64 x12, .int .i64 x13, .slice x14.base x14.len x14.cap], .int .i64 (0 : Int)]) vh6))
    (IfB (decide (c1 > (1099511627776 : Int))) (IfB (!ok) (stCells (nw h) 0 [.int .i64 (0 : Int), .int .i64 (0 : Int), .int .i64 (0 : Int), .int .i64 (0 : Int), .slice Sl.nil.base Sl.nil.len Sl.nil.cap] vh4 fun vh7 =>
          ∃ x15 : Int, ∃ x16 : Int, ∃ x17 : Int, ∃ x18 : Int, ∃ x19 : Sl, hcell vh7 ((nw h)) = some (.int .i64 x15) ∧ hcell vh7 ((nw h).add 1) = some (.int .i64 x16) ∧ hcell vh7 ((nw h).add 2) = some (.int .i64 x17) ∧ hcell vh7 ((nw h).add 3) = some (.int .i64 x18) ∧ hcell vh7 ((nw h).add 4) = some (.slice x19.base x19.len x19.cap) ∧
          R (.tuple #[.agg #[.int .i64 x15, .int .i64 x16, .int .i64 x17, .int .i64 x18, .slice x19.base x19.len x19.cap], .int .i64 (13 : Int)]) vh7)
        (∃ c8 : Int, ∃ c9 : Int, ∃ c10 : Int, ∃ c11 : Int, ∃ c12 : Sl, hcell vh4 ((nw vh)) = some (.int .i64 c8) ∧ hcell vh4 ((nw vh).add 1) = some (.int .i64 c9) ∧ hcell vh4 ((nw vh).add 2) = some (.int .i64 c10) ∧ hcell vh4 ((nw vh).add 3) = some (.int .i64 c11) ∧ hcell vh4 ((nw vh).add 4) = some (.slice c12.base c12.len c12.cap) ∧
          stCells (nw h) 0 [.int .i64 c8, .int .i64 c9, .int .i64 c10, .int .i64 c11, .slice c12.base c12.len c12.cap] vh4 fun vh8 =>
          ∃ x20 : Int, ∃ x21 : Int, ∃ x22 : Int, ∃ x23 : Int, ∃ x24 : Sl, hcell vh8 ((nw h)) = some (.int .i64 x20) ∧ hcell vh8 ((nw h).add 1) = some (.int .i64 x21) ∧ hcell vh8 ((nw h).add 2) = some (.int .i64 x22) ∧ hcell vh8 ((nw h).add 3) = some (.int .i64 x23) ∧ hcell vh8 ((nw h).add 4) = some (.slice x24.base x24.len x24.cap) ∧
          R (.tuple #[.agg #[.int .i64 x20, .int .i64 x21, .int .i64 x22, .int .i64 x23, .slice x24.base x24.len x24.cap], .int .i64 (0 : Int)]) vh8))
      (0 ≤ (2 : Int) ∧ (2 : Int) ≤ (p.len : Int) ∧ (p.len : Int) ≤ (p.cap : Int) ∧ (p.cap : Int) ≤ (p.cap : Int) ∧
        HCalls Try.prog fn_bits_Get32 #[.slice (cutSl p (2 : Int) (p.len : Int) (p.cap : Int) 1).base (cutSl p (2 : Int) (p.len : Int) (p.cap : Int) 1).len (cutSl p (2 : Int) (p.len : Int) (p.cap : Int) 1).cap] vh4 fun r1 vh9 =>
        ∃ c13 : Int, ∃ c14 : Bool, r1 = .tuple #[.int .u32 c13, .bool c14] ∧
        0 ≤ (14 : Int) ∧ (14 : Int) ≤ (p.len : Int) ∧ (p.len : Int) ≤ (p.cap : Int) ∧ (p.cap : Int) ≤ (p.cap : Int) ∧
        HCalls Try.prog fn_bits_Get32 #[.slice (cutSl p (14 : Int) (p.len : Int) (p.cap : Int) 1).base (cutSl p (14 : Int) (p.len : Int) (p.cap : Int) 1).len (cutSl p (14 : Int) (p.len : Int) (p.cap : Int) 1).cap] vh9 fun r2 vh10 =>
        ∃ c15 : Int, ∃ c16 : Bool, r2 = .tuple #[.int .u32 c15, .bool c16] ∧
        ∃ a1 : Addr, p.base = some a1 ∧ 0 ≤ (0 : Int) ∧ (0 : Int) < (p.len : Int) ∧
        ∃ c17 : Int, hcell vh10 (a1.add (((0 : Int)).toNat * 1)) = some (.int .u8 c17) ∧
        0 ≤ (18 : Int) ∧ (18 : Int) ≤ (iAdd .i64 (18 : Int) (iConv .i64 c)) ∧ (iAdd .i64 (18 : Int) (iConv .i64 c)) ≤ (p.cap : Int) ∧ (p.cap : Int) ≤ (p.cap : Int) ∧
        HCalls Try.prog fn_slices_Clone_sbytebyte #[.slice (cutSl p (18 : Int) (iAdd .i64 (18 : Int) (iConv .i64 c)) (p.cap : Int) 1).base (cutSl p (18 : Int) (iAdd .i64 (18 : Int) (iConv .i64 c)) (p.cap : Int) 1).len (cutSl p (18 : Int) (iAdd .i64 (18 : Int) (iConv .i64 c)) (p.cap : Int) 1).cap] vh10 fun r3 vh11 =>
        ∃ c18 : Sl, r3 = .slice c18.base c18.len c18.cap ∧
        Ext vh10 vh11 ∧
        stCells (nw vh) 0 [.int .i64 (iConv .i64 c17), .int .i64 (iConv .i64 c13), .int .i64 (iConv .i64 c1), .int .i64 (iConv .i64 c15), .slice c18.base c18.len c18.cap] vh11 fun vh12 =>
        ∃ c19 : Int, ∃ c20 : Int, ∃ c21 : Int, ∃ c22 : Int, ∃ c23 : Sl, hcell vh12 ((nw vh)) = some (.int .i64 c19) ∧ hcell vh12 ((nw vh).add 1) = some (.int .i64 c20) ∧ hcell vh12 ((nw vh).add 2) = some (.int .i64 c21) ∧ hcell vh12 ((nw vh).add 3) = some (.int .i64 c22) ∧ hcell vh12 ((nw vh).add 4) = some (.slice c23.base c23.len c23.cap) ∧
        HCalls Try.prog fn_frame_Encode #[.agg #[.int .i64 c19, .int .i64 c20, .int .i64 c21, .int .i64 c22, .slice c23.base c23.len c23.cap]] vh12 fun r4 vh13 =>
        ∃ c24 : Sl, ∃ c25 : Int, r4 = .tuple #[.slice c24.base c24.len c24.cap, .int .i64 c25] ∧
        IfB (c25 == (0 : Int)) (HCalls Try.prog fn_slices_Equal_sbytebyte #[.slice p.base p.len p.cap, .slice c24.base c24.len c24.cap] vh13 fun r5 vh14 =>
          ∃ c26 : Bool, r5 = .bool c26 ∧
          IfB (!c26) (stCells (nw h) 0 [.int .i64 (0 : Int), .int .i64 (0 : Int), .int .i64 (0 : Int), .int .i64 (0 : Int), .slice Sl.nil.base Sl.nil.len Sl.nil.cap] vh14 fun vh15 =>
            ∃ x25 : Int, ∃ x26 : Int, ∃ x27 : Int, ∃ x28 : Int, ∃ x29 : Sl, hcell vh15 ((nw h)) = some (.int .i64 x25) ∧ hcell vh15 ((nw h).add 1) = some (.int .i64 x26) ∧ hcell vh15 ((nw h).add 2) = some (.int .i64 x27) ∧ hcell vh15 ((nw h).add 3) = some (.int .i64 x28) ∧ hcell vh15 ((nw h).add 4) = some (.slice x29.base x29.len x29.cap) ∧
            R (.tuple #[.agg #[.int .i64 x25, .int .i64 x26, .int .i64 x27, .int .i64 x28, .slice x29.base x29.len x29.cap], .int .i64 (13 : Int)]) vh15)
          (∃ c27 : Int, ∃ c28 : Int, ∃ c29 : Int, ∃ c30 : Int, ∃ c31 : Sl, hcell vh14 ((nw vh)) = some (.int .i64 c27) ∧ hcell vh14 ((nw vh).add 1) = some (.int .i64 c28) ∧ hcell vh14 ((nw vh).add 2) = some (.int .i64 c29) ∧ hcell vh14 ((nw vh).add 3) = some (.int .i64 c30) ∧ hcell vh14 ((nw vh).add 4) = some (.slice c31.base c31.len c31.cap) ∧
            stCells (nw h) 0 [.int .i64 c27, .int .i64 c28, .int .i64 c29, .int .i64 c30, .slice c31.base c31.len c31.cap] vh14 fun vh16 =>
            ∃ x30 : Int, ∃ x31 : Int, ∃ x32 : Int, ∃ x33 : Int, ∃ x34 : Sl, hcell vh16 ((nw h)) = some (.int .i64 x30) ∧ hcell vh16 ((nw h).add 1) = some (.int .i64 x31) ∧ hcell vh16 ((nw h).add 2) = some (.int .i64 x32) ∧ hcell vh16 ((nw h).add 3) = some (.int .i64 x33) ∧ hcell vh16 ((nw h).add 4) = some (.slice x34.base x34.len x34.cap) ∧
            R (.tuple #[.agg #[.int .i64 x30, .int .i64 x31, .int .i64 x32, .int .i64 x33, .slice x34.base x34.len x34.cap], .int .i64 (0 : Int)]) vh16))
        (IfB (!false) (stCells (nw h) 0 [.int .i64 (0 : Int), .int .i64 (0 : Int), .int .i64 (0 : Int), .int .i64 (0 : Int), .slice Sl.nil.base Sl.nil.len Sl.nil.cap] vh13 fun vh17 =>
            ∃ x35 : Int, ∃ x36 : Int, ∃ x37 : Int, ∃ x38 : Int, ∃ x39 : Sl, hcell vh17 ((nw h)) = some (.int .i64 x35) ∧ hcell vh17 ((nw h).add 1) = some (.int .i64 x36) ∧ hcell vh17 ((nw h).add 2) = some (.int .i64 x37) ∧ hcell vh17 ((nw h).add 3) = some (.int .i64 x38) ∧ hcell vh17 ((nw h).add 4) = some (.slice x39.base x39.len x39.cap) ∧
            R (.tuple #[.agg #[.int .i64 x35, .int .i64 x36, .int .i64 x37, .int .i64 x38, .slice x39.base x39.len x39.cap], .int .i64 (13 : Int)]) vh17)
          (∃ c32 : Int, ∃ c33 : Int, ∃ c34 : Int, ∃ c35 : Int, ∃ c36 : Sl, hcell vh13 ((nw vh)) = some (.int .i64 c32) ∧ hcell vh13 ((nw vh).add 1) = some (.int .i64 c33) ∧ hcell vh13 ((nw vh).add 2) = some (.int .i64 c34) ∧ hcell vh13 ((nw vh).add 3) = some (.int .i64 c35) ∧ hcell vh13 ((nw vh).add 4) = some (.slice c36.base c36.len c36.cap) ∧
            stCells (nw h) 0 [.int .i64 c32, .int .i64 c33, .int .i64 c34, .int .i64 c35, .slice c36.base c36.len c36.cap] vh13 fun vh18 =>
            ∃ x40 : Int, ∃ x41 : Int, ∃ x42 : Int, ∃ x43 : Int, ∃ x44 : Sl, hcell vh18 ((nw h)) = some (.int .i64 x40) ∧ hcell vh18 ((nw h).add 1) = some (.int .i64 x41) ∧ hcell vh18 ((nw h).add 2) = some (.int .i64 x42) ∧ hcell vh18 ((nw h).add 3) = some (.int .i64 x43) ∧ hcell vh18 ((nw h).add 4) = some (.slice x44.base x44.len x44.cap) ∧
            R (.tuple #[.agg #[.int .i64 x40, .int .i64 x41, .int .i64 x42, .int .i64 x43, .slice x44.base x44.len x44.cap], .int .i64 (0 : Int)]) vh18)))))
theorem frame_Decode_vc {p : Sl} {h : Hp} {R : Value → Hp → Prop} (H : vcframe_Decode p h R) : HCalls Try.prog fn_frame_Decode #[.slice p.base p.len p.cap] h R :=
  vc_fn (annOf [(0, [(5, .bool)])] []) Try.func49 [.slice p.base p.len p.cap] (by kernel_rfl) (V := vcframe_Decode p h R) (by kernel_rfl) H

def vczdev_Dev_Reset (d : Option Addr) (i : Int) (h : Hp) (R : Value → Hp → Prop) : Prop :=
  HCalls Try.prog fn_zdev_Dev_at #[.pointer d, .int .i64 i] h fun r vh =>
  ∃ c : Option Addr, r = .pointer c ∧
  IfB (isNone? c) (R (.int .i64 (1 : Int)) vh)
  (HCalls Try.prog fn_zdev_Dev_begin #[.pointer d] vh fun r1 vh1 =>
    ∃ c1 : Bool, r1 = .bool c1 ∧
    IfB (!c1) (R (.int .i64 (12 : Int)) vh1)
    (∃ a : Addr, c = some a ∧
      stCells a 0 [.slice Sl.nil.base Sl.nil.len Sl.nil.cap, .int .i64 (0 : Int)] vh1 fun vh2 =>
      R (.int .i64 (0 : Int)) vh2))
theorem zdev_Dev_Reset_vc {d : Option Addr} {i : Int} {h : Hp} {R : Value → Hp → Prop} (H : vczdev_Dev_Reset d i h R) : HCalls Try.prog fn_zdev_Dev_Reset #[.pointer d, .int .i64 i] h R :=
  vc_fn (annOf [] []) Try.func52 [.pointer d, .int .i64 i] (by kernel_rfl) (V := vczdev_Dev_Reset d i h R) (by kernel_rfl) H

def vczdev_Dev_Flush (d : Option Addr) (h : Hp) (R : Value → Hp → Prop) : Prop :=
  HCalls Try.prog fn_zdev_Dev_gone #[.pointer d] h fun r vh =>
  ∃ c : Bool, r = .bool c ∧
  IfB c (R (.int .i64 (1 : Int)) vh)
  (HCalls Try.prog fn_zdev_Dev_begin #[.pointer d] vh fun r1 vh1 =>
    ∃ c1 : Bool, r1 = .bool c1 ∧
    IfB (!c1) (R (.int .i64 (12 : Int)) vh1)
    (∃ a : Addr, d = some a ∧
      ∃ c2 : Sl, hcell vh1 (a.add 2) = some (.slice c2.base c2.len c2.cap) ∧
      ∃ (vI : Int → Nat → Hp → Prop) (n : Nat), vI (0 : Int) n vh1 ∧
      ∀ _junk : Nat → Value, ∀ t17 : Int, ∀ (n1 : Nat) (vh2 : Hp), vI t17 n1 vh2 →
      IfB (decide (t17 < (c2.len : Int))) (∃ a1 : Addr, c2.base = some a1 ∧ 0 ≤ t17 ∧ t17 < (c2.len : Int) ∧
        ∃ c3 : Option Addr, hcell vh2 (a1.add ((t17).toNat * 1)) = some (.pointer c3) ∧
        ∃ a2 : Addr, c3 = some a2 ∧
        ∃ c4 : Sl, hcell vh2 a2 = some (.slice c4.base c4.len c4.cap) ∧
        ∃ a3 : Addr, c3 = some a3 ∧
        StOk vh2 (a3.add 1) ∧
        Lt (hset vh2 (a3.add 1) (.int .i64 (c4.len : Int))) fun vh3 =>
        ∃ n2, n2 < n1 ∧ vI (iAdd .i64 t17 (1 : Int)) n2 vh3)
      (R (.int .i64 (0 : Int)) vh2)))
theorem zdev_Dev_Flush_vc {d : Option Addr} {h : Hp} {R : Value → Hp → Prop} (H : vczdev_Dev_Flush d h R) : HCalls Try.prog fn_zdev_Dev_Flush #[.pointer d] h R :=
  vc_fn (annOf [(0, [(17, .int .i64)])] []) Try.func53 [.pointer d] (by kernel_rfl) (V := vczdev_Dev_Flush d h R) (by kernel_rfl) H

def vcslices_IndexFunc_ssbytesbyte (s : Sl) (f : Nat) (h : Hp) (R : Value → Hp → Prop) : Prop :=
  ∃ (vI : Int → Nat → Hp → Prop) (n : Nat), vI (0 : Int) n h ∧
  ∀ _junk : Nat → Value, ∀ t8 : Int, ∀ (n1 : Nat) (vh : Hp), vI t8 n1 vh →
  IfB (decide (t8 < (s.len : Int))) (∃ a : Addr, s.base = some a ∧ 0 ≤ t8 ∧ t8 < (s.len : Int) ∧
    ∃ c : Sl, hcell vh (a.add ((t8).toNat * 1)) = some (.slice c.base c.len c.cap) ∧
    HCalls Try.prog f #[.slice c.base c.len c.cap] vh fun r vh1 =>
    ∃ c1 : Bool, r = .bool c1 ∧
    IfB c1 (R (.int .i64 t8) vh1)
    (∃ n2, n2 < n1 ∧ vI (iAdd .i64 t8 (1 : Int)) n2 vh1))
  (R (.int .i64 (-1 : Int)) vh)
theorem slices_IndexFunc_ssbytesbyte_vc {s : Sl} {f : Nat} {h : Hp} {R : Value → Hp → Prop} (H : vcslices_IndexFunc_ssbytesbyte s f h R) : HCalls Try.prog fn_slices_IndexFunc_ssbytesbyte #[.slice s.base s.len s.cap, .func (.func f) #[] #[]] h R :=
  vc_fn (annOf [(0, [(8, .int .i64)])] []) Try.func54 [.slice s.base s.len s.cap, .func (.func f) #[] #[]] (by kernel_rfl) (V := vcslices_IndexFunc_ssbytesbyte s f h R) (by kernel_rfl) H

def vcseglog_Log_room (l : Option Addr) (h : Hp) (R : Value → Hp → Prop) : Prop :=
  ∃ a : Addr, l = some a ∧
  ∃ c : Int, hcell h (a.add 2) = some (.int .i64 c) ∧
  ∃ a1 : Addr, l = some a1 ∧
  ∃ c1 : Int, hcell h (a1.add 3) = some (.int .i64 c1) ∧
  R (.int .i64 (iMul .i64 c c1)) h
theorem seglog_Log_room_vc {l : Option Addr} {h : Hp} {R : Value → Hp → Prop} (H : vcseglog_Log_room l h R) : HCalls Try.prog fn_seglog_Log_room #[.pointer l] h R :=
  vc_fn (annOf [] []) Try.func55 [.pointer l] (by kernel_rfl) (V := vcseglog_Log_room l h R) (by kernel_rfl) H

def vcseglog_sum (records : Sl) (h : Hp) (R : Value → Hp → Prop) : Prop :=
  HCalls Try.prog fn_crc_New #[] h fun r vh =>
  ∃ c : Option Addr, r = .pointer c ∧
  ∃ (vI : Int → Nat → Hp → Prop) (n : Nat), vI (0 : Int) n vh ∧
  ∀ _junk : Nat → Value, ∀ t9 : Int, ∀ (n1 : Nat) (vh1 : Hp), vI t9 n1 vh1 →
  IfB (decide (t9 < (records.len : Int))) (∃ a : Addr, records.base = some a ∧ 0 ≤ t9 ∧ t9 < (records.len : Int) ∧
    ∃ c1 : Sl, hcell vh1 (a.add ((t9).toNat * 1)) = some (.slice c1.base c1.len c1.cap) ∧
    let vh2 := alc vh1 [.int .u8 (iConv .u8 (c1.len : Int))] ty_uint8;
    HCalls Try.prog fn_crc_Sum_Add #[.pointer c, .slice (Sl.mk (some (nw vh1)) 1 1).base (Sl.mk (some (nw vh1)) 1 1).len (Sl.mk (some (nw vh1)) 1 1).cap] vh2 fun r1 vh3 =>
    ∃ c2 : Option Addr, r1 = .pointer c2 ∧
    HCalls Try.prog fn_crc_Sum_Add #[.pointer c2, .slice c1.base c1.len c1.cap] vh3 fun r2 vh4 =>
    ∃ c3 : Option Addr, r2 = .pointer c3 ∧
    ∃ n2, n2 < n1 ∧ vI (iAdd .i64 t9 (1 : Int)) n2 vh4)
  (HCalls Try.prog fn_crc_Sum_Value #[.pointer c] vh1 fun r3 vh5 =>
    ∃ c4 : Int, r3 = .int .u32 c4 ∧
    HCalls Try.prog fn_bits_Put32 #[.int .u32 c4] vh5 fun r4 vh6 =>
    ∃ c5 : Sl, r4 = .slice c5.base c5.len c5.cap ∧
    R (.slice c5.base c5.len c5.cap) vh6)
theorem seglog_sum_vc {records : Sl} {h : Hp} {R : Value → Hp → Prop} (H : vcseglog_sum records h R) : HCalls Try.prog fn_seglog_sum #[.slice records.base records.len records.cap] h R :=
  vc_fn (annOf [(0, [(9, .int .i64)])] []) Try.func58 [.slice records.base records.len records.cap] (by kernel_rfl) (V := vcseglog_sum records h R) (by kernel_rfl) H

def vcframe_within (n : Int) (low : Int) (high : Int) (h : Hp) (R : Value → Hp → Prop) : Prop :=
  IfB (decide (low ≤ n)) (R (.bool (decide (n ≤ high))) h)
  (R (.bool false) h)
theorem frame_within_vc {n : Int} {low : Int} {high : Int} {h : Hp} {R : Value → Hp → Prop} (H : vcframe_within n low high h R) : HCalls Try.prog fn_frame_within #[.int .i64 n, .int .i64 low, .int .i64 high] h R :=
  vc_fn (annOf [] []) Try.func59 [.int .i64 n, .int .i64 low, .int .i64 high] (by kernel_rfl) (V := vcframe_within n low high h R) (by kernel_rfl) H

def vcslices_Concat_sbytebyte (slices : Sl) (h : Hp) (R : Value → Hp → Prop) : Prop :=
  ∃ (vI : Int → Int → Nat → Hp → Prop) (n : Nat), vI (0 : Int) (0 : Int) n h ∧
  ∀ _junk : Nat → Value, ∀ size : Int, ∀ t11 : Int, ∀ (n1 : Nat) (vh : Hp), vI size t11 n1 vh →
  IfB (decide (t11 < (slices.len : Int))) (∃ a : Addr, slices.base = some a ∧ 0 ≤ t11 ∧ t11 < (slices.len : Int) ∧
    ∃ c : Sl, hcell vh (a.add ((t11).toNat * 1)) = some (.slice c.base c.len c.cap) ∧
    IfB (decide ((iAdd .i64 size (c.len : Int)) < (0 : Int))) (False)
    (∃ n2, n2 < n1 ∧ vI (iAdd .i64 size (c.len : Int)) (iAdd .i64 t11 (1 : Int)) n2 vh))
  (HCalls Try.prog fn_slices_Grow_sbytebyte #[.slice Sl.nil.base Sl.nil.len Sl.nil.cap, .int .i64 size] vh fun r vh1 =>
    ∃ c1 : Sl, r = .slice c1.base c1.len c1.cap ∧
    ∃ (vI1 : Sl → Int → Nat → Hp → Prop) (n3 : Nat), vI1 c1 (0 : Int) n3 vh1 ∧
    ∀ _junk : Nat → Value, ∀ newslice : Sl, ∀ t27 : Int, ∀ (n4 : Nat) (vh2 : Hp), vI1 newslice t27 n4 vh2 →
    IfB (decide (t27 < (slices.len : Int))) (∃ a1 : Addr, slices.base = some a1 ∧ 0 ≤ t27 ∧ t27 < (slices.len : Int) ∧
      ∃ c2 : Sl, hcell vh2 (a1.add ((t27).toNat * 1)) = some (.slice c2.base c2.len c2.cap) ∧
      AppC ty_uint8 1 1 #[.int .u8 (0 : Int)] newslice c2 vh2 fun s vh3 =>
      ∃ n5, n5 < n4 ∧ vI1 s (iAdd .i64 t27 (1 : Int)) n5 vh3)
    (R (.slice newslice.base newslice.len newslice.cap) vh2))
theorem slices_Concat_sbytebyte_vc {slices : Sl} {h : Hp} {R : Value → Hp → Prop} (H : vcslices_Concat_sbytebyte slices h R) : HCalls Try.prog fn_slices_Concat_sbytebyte #[.slice slices.base slices.len slices.cap] h R :=
  vc_fn (annOf [(0, [(3, .int .i64), (11, .int .i64)]), (1, [(6, .sl), (27, .int .i64)])] []) Try.func60 [.slice slices.base slices.len slices.cap] (by kernel_rfl) (V := vcslices_Concat_sbytebyte slices h R) (by kernel_rfl) H

def vcbits_Put32 (v : Int) (h : Hp) (R : Value → Hp → Prop) : Prop :=
  HCalls Try.prog fn_bits_put #[.int .u64 (iConv .u64 v), .int .i64 (4 : Int)] h fun r vh =>
  ∃ c : Sl, r = .slice c.base c.len c.cap ∧
  R (.slice c.base c.len c.cap) vh
theorem bits_Put32_vc {v : Int} {h : Hp} {R : Value → Hp → Prop} (H : vcbits_Put32 v h R) : HCalls Try.prog fn_bits_Put32 #[.int .u32 v] h R :=
  vc_fn (annOf [] []) Try.func61 [.int .u32 v] (by kernel_rfl) (V := vcbits_Put32 v h R) (by kernel_rfl) H

def vcbits_Put64 (v : Int) (h : Hp) (R : Value → Hp → Prop) : Prop :=
  HCalls Try.prog fn_bits_put #[.int .u64 v, .int .i64 (8 : Int)] h fun r vh =>
  ∃ c : Sl, r = .slice c.base c.len c.cap ∧
  R (.slice c.base c.len c.cap) vh
theorem bits_Put64_vc {v : Int} {h : Hp} {R : Value → Hp → Prop} (H : vcbits_Put64 v h R) : HCalls Try.prog fn_bits_Put64 #[.int .u64 v] h R :=
  vc_fn (annOf [] []) Try.func62 [.int .u64 v] (by kernel_rfl) (V := vcbits_Put64 v h R) (by kernel_rfl) H

def vccrc_Of (b : Sl) (h : Hp) (R : Value → Hp → Prop) : Prop :=
  HCalls Try.prog fn_crc_New #[] h fun r vh =>
  ∃ c : Option Addr, r = .pointer c ∧
  HCalls Try.prog fn_crc_Sum_Add #[.pointer c, .slice b.base b.len b.cap] vh fun r1 vh1 =>
  ∃ c1 : Option Addr, r1 = .pointer c1 ∧
  HCalls Try.prog fn_crc_Sum_Value #[.pointer c1] vh1 fun r2 vh2 =>
  ∃ c2 : Int, r2 = .int .u32 c2 ∧
  R (.int .u32 c2) vh2
theorem crc_Of_vc {b : Sl} {h : Hp} {R : Value → Hp → Prop} (H : vccrc_Of b h R) : HCalls Try.prog fn_crc_Of #[.slice b.base b.len b.cap] h R :=
  vc_fn (annOf [] []) Try.func63 [.slice b.base b.len b.cap] (by kernel_rfl) (V := vccrc_Of b h R) (by kernel_rfl) H

def vcbits_Get64 (b : Sl) (h : Hp) (R : Value → Hp → Prop) : Prop :=
  HCalls Try.prog fn_bits_get #[.slice b.base b.len b.cap, .int .i64 (8 : Int)] h fun r vh =>
  ∃ c : Int, ∃ c1 : Bool, r = .tuple #[.int .u64 c, .bool c1] ∧
  R (.tuple #[.int .u64 c, .bool c1]) vh
theorem bits_Get64_vc {b : Sl} {h : Hp} {R : Value → Hp → Prop} (H : vcbits_Get64 b h R) : HCalls Try.prog fn_bits_Get64 #[.slice b.base b.len b.cap] h R :=
  vc_fn (annOf [] []) Try.func64 [.slice b.base b.len b.cap] (by kernel_rfl) (V := vcbits_Get64 b h R) (by kernel_rfl) H

def vcbits_Get32 (b : Sl) (h : Hp) (R : Value → Hp → Prop) : Prop :=
  HCalls Try.prog fn_bits_get #[.slice b.base b.len b.cap, .int .i64 (4 : Int)] h fun r vh =>
  ∃ c : Int, ∃ c1 : Bool, r = .tuple #[.int .u64 c, .bool c1] ∧
  R (.tuple #[.int .u32 (iConv .u32 c), .bool c1]) vh
theorem bits_Get32_vc {b : Sl} {h : Hp} {R : Value → Hp → Prop} (H : vcbits_Get32 b h R) : HCalls Try.prog fn_bits_Get32 #[.slice b.base b.len b.cap] h R :=
  vc_fn (annOf [] []) Try.func65 [.slice b.base b.len b.cap] (by kernel_rfl) (V := vcbits_Get32 b h R) (by kernel_rfl) H

def vcslices_Equal_sbytebyte (s1 : Sl) (s2 : Sl) (h : Hp) (R : Value → Hp → Prop) : Prop :=
  IfB ((s1.len : Int) != (s2.len : Int)) (R (.bool false) h)
  (∃ (vI : Int → Nat → Hp → Prop) (n : Nat), vI (0 : Int) n h ∧
    ∀ _junk : Nat → Value, ∀ t13 : Int, ∀ (n1 : Nat) (vh : Hp), vI t13 n1 vh →
    IfB (decide (t13 < (s1.len : Int))) (∃ a : Addr, s1.base = some a ∧ 0 ≤ t13 ∧ t13 < (s1.len : Int) ∧
      ∃ c : Int, hcell vh (a.add ((t13).toNat * 1)) = some (.int .u8 c) ∧
      ∃ a1 : Addr, s2.base = some a1 ∧ 0 ≤ t13 ∧ t13 < (s2.len : Int) ∧
      ∃ c1 : Int, hcell vh (a1.add ((t13).toNat * 1)) = some (.int .u8 c1) ∧
      IfB (c != c1) (R (.bool false) vh)
      (∃ n2, n2 < n1 ∧ vI (iAdd .i64 t13 (1 : Int)) n2 vh))
    (R (.bool true) vh))
theorem slices_Equal_sbytebyte_vc {s1 : Sl} {s2 : Sl} {h : Hp} {R : Value → Hp → Prop} (H : vcslices_Equal_sbytebyte s1 s2 h R) : HCalls Try.prog fn_slices_Equal_sbytebyte #[.slice s1.base s1.len s1.cap, .slice s2.base s2.len s2.cap] h R :=
  vc_fn (annOf [(0, [(13, .int .i64)])] []) Try.func66 [.slice s1.base s1.len s1.cap, .slice s2.base s2.len s2.cap] (by kernel_rfl) (V := vcslices_Equal_sbytebyte s1 s2 h R) (by kernel_rfl) H

def vcseglog_bodies (l : Sl) (h : Hp) (R : Value → Hp → Prop) : Prop :=
  ∃ (vI : Sl → Int → Nat → Hp → Prop) (n : Nat), vI Sl.nil (0 : Int) n h ∧
  ∀ _junk : Nat → Value, ∀ out : Sl, ∀ t7 : Int, ∀ (n1 : Nat) (vh : Hp), vI out t7 n1 vh →
  IfB (decide (t7 < (l.len : Int))) (∃ a : Addr, l.base = some a ∧ 0 ≤ t7 ∧ t7 < (l.len : Int) ∧
    ∃ c : Int, ∃ c1 : Int, ∃ c2 : Int, ∃ c3 : Int, ∃ c4 : Sl, hcell vh ((a.add ((t7).toNat * 5))) = some (.int .i64 c) ∧ hcell vh ((a.add ((t7).toNat * 5)).add 1) = some (.int .i64 c1) ∧ hcell vh ((a.add ((t7).toNat * 5)).add 2) = some (.int .i64 c2) ∧ hcell vh ((a.add ((t7).toNat * 5)).add 3) = some (.int .i64 c3) ∧ hcell vh ((a.add ((t7).toNat * 5)).add 4) = some (.slice c4.base c4.len c4.cap) ∧
    let vh1 := alc vh [.int .i64 (0 : Int), .int .i64 (0 : Int), .int .i64 (0 : Int), .int .i64 (0 : Int), .slice Sl.nil.base Sl.nil.len Sl.nil.cap] ty_frame_Block;
    stCells (nw vh) 0 [.int .i64 c, .int .i64 c1, .int .i64 c2, .int .i64 c3, .slice c4.base c4.len c4.cap] vh1 fun vh2 =>
    ∃ c5 : Sl, hcell vh2 ((nw vh).add 4) = some (.slice c5.base c5.len c5.cap) ∧
    let vh3 := alc vh2 [.slice c5.base c5.len c5.cap] ty_suint8;
    AppC ty_suint8 1 24 #[.slice Sl.nil.base Sl.nil.len Sl.nil.cap] out (Sl.mk (some (nw vh2)) 1 1) vh3 fun s vh4 =>
    ∃ n2, n2 < n1 ∧ vI s (iAdd .i64 t7 (1 : Int)) n2 vh4)
  (R (.slice out.base out.len out.cap) vh)
theorem seglog_bodies_vc {l : Sl} {h : Hp} {R : Value → Hp → Prop} (H : vcseglog_bodies l h R) : HCalls Try.prog fn_seglog_bodies #[.slice l.base l.len l.cap] h R :=
  vc_fn (annOf [(0, [(2, .sl), (7, .int .i64)])] []) Try.func67 [.slice l.base l.len l.cap] (by kernel_rfl) (V := vcseglog_bodies l h R) (by kernel_rfl) H

def vcslices_Concat_ssbytesbyte (slices : Sl) (h : Hp) (R : Value → Hp → Prop) : Prop :=
  ∃ (vI : Int → Int → Nat → Hp → Prop) (n : Nat), vI (0 : Int) (0 : Int) n h ∧
  ∀ _junk : Nat → Value, ∀ size : Int, ∀ t11 : Int, ∀ (n1 : Nat) (vh : Hp), vI size t11 n1 vh →
  IfB (decide (t11 < (slices.len : Int))) (∃ a : Addr, slices.base = some a ∧ 0 ≤ t11 ∧ t11 < (slices.len : Int) ∧
    ∃ c : Sl, hcell vh (a.add ((t11).toNat * 1)) = some (.slice c.base c.len c.cap) ∧
    IfB (decide ((iAdd .i64 size (c.len : Int)) < (0 : Int))) (False)
    (∃ n2, n2 < n1 ∧ vI (iAdd .i64 size (c.len : Int)) (iAdd .i64 t11 (1 : Int)) n2 vh))
  (HCalls Try.prog fn_slices_Grow_ssbytesbyte #[.slice Sl.nil.base Sl.nil.len Sl.nil.cap, .int .i64 size] vh fun r vh1 =>
    ∃ c1 : Sl, r = .slice c1.base c1.len c1.cap ∧
    ∃ (vI1 : Sl → Int → Nat → Hp → Prop) (n3 : Nat), vI1 c1 (0 : Int) n3 vh1 ∧
    ∀ _junk : Nat → Value, ∀ newslice : Sl, ∀ t27 : Int, ∀ (n4 : Nat) (vh2 : Hp), vI1 newslice t27 n4 vh2 →
    IfB (decide (t27 < (slices.len : Int))) (∃ a1 : Addr, slices.base = some a1 ∧ 0 ≤ t27 ∧ t27 < (slices.len : Int) ∧
      ∃ c2 : Sl, hcell vh2 (a1.add ((t27).toNat * 1)) = some (.slice c2.base c2.len c2.cap) ∧
      AppC ty_suint8 1 24 #[.slice Sl.nil.base Sl.nil.len Sl.nil.cap] newslice c2 vh2 fun s vh3 =>
      ∃ n5, n5 < n4 ∧ vI1 s (iAdd .i64 t27 (1 : Int)) n5 vh3)
    (R (.slice newslice.base newslice.len newslice.cap) vh2))
theorem slices_Concat_ssbytesbyte_vc {slices : Sl} {h : Hp} {R : Value → Hp → Prop} (H : vcslices_Concat_ssbytesbyte slices h R) : HCalls Try.prog fn_slices_Concat_ssbytesbyte #[.slice slices.base slices.len slices.cap] h R :=
  vc_fn (annOf [(0, [(3, .int .i64), (11, .int .i64)]), (1, [(6, .sl), (27, .int .i64)])] []) Try.func70 [.slice slices.base slices.len slices.cap] (by kernel_rfl) (V := vcslices_Concat_ssbytesbyte slices h R) (by kernel_rfl) H

def vccrc_New (h : Hp) (R : Value → Hp → Prop) : Prop :=
  let vh := alc h [.int .u32 (0 : Int)] ty_crc_Sum;
  R (.pointer (some (nw h))) vh
theorem crc_New_vc {h : Hp} {R : Value → Hp → Prop} (H : vccrc_New h R) : HCalls Try.prog fn_crc_New #[] h R :=
  vc_fn (annOf [] []) Try.func71 [] (by kernel_rfl) (V := vccrc_New h R) (by kernel_rfl) H

def vccrc_Sum_Add (s : Option Addr) (b : Sl) (h : Hp) (R : Value → Hp → Prop) : Prop :=
  IfB (isNone? s) (R (.pointer none) h)
  (∃ a : Addr, s = some a ∧
    ∃ c : Int, hcell h a = some (.int .u32 c) ∧
    ∃ (vI : Int → Int → Nat → Hp → Prop) (n : Nat), vI (iNot .u32 c) (0 : Int) n h ∧
    ∀ _junk : Nat → Value, ∀ r : Int, ∀ t17 : Int, ∀ (n1 : Nat) (vh : Hp), vI r t17 n1 vh →
    IfB (decide (t17 < (b.len : Int))) (∃ a1 : Addr, b.base = some a1 ∧ 0 ≤ t17 ∧ t17 < (b.len : Int) ∧
      ∃ c1 : Int, hcell vh (a1.add ((t17).toNat * 1)) = some (.int .u8 c1) ∧
      ∃ (vI1 : Int → Int → Nat → Hp → Prop) (n3 : Nat), vI1 (iXor .u32 r (iConv .u32 c1)) (0 : Int) n3 vh ∧
      ∀ _junk : Nat → Value, ∀ r1 : Int, ∀ t25 : Int, ∀ (n4 : Nat) (vh1 : Hp), vI1 r1 t25 n4 vh1 →
      IfB (decide (t25 < (8 : Int))) (0 ≤ (1 : Int) ∧
        ∃ n5, n5 < n4 ∧ vI1 (iXor .u32 (iShr .u32 r1 (1 : Int)) (iAnd .u32 (2197175160 : Int) (iNeg .u32 (iAnd .u32 r1 (1 : Int))))) (iAdd .i64 t25 (1 : Int)) n5 vh1)
      (∃ n2, n2 < n1 ∧ vI r1 (iAdd .i64 t17 (1 : Int)) n2 vh1))
    (∃ a2 : Addr, s = some a2 ∧
      StOk vh a2 ∧
      Lt (hset vh a2 (.int .u32 (iNot .u32 r))) fun vh2 =>
      R (.pointer s) vh2))
theorem crc_Sum_Add_vc {s : Option Addr} {b : Sl} {h : Hp} {R : Value → Hp → Prop} (H : vccrc_Sum_Add s b h R) : HCalls Try.prog fn_crc_Sum_Add #[.pointer s, .slice b.base b.len b.cap] h R :=
  vc_fn (annOf [(0, [(5, .int .u32), (17, .int .i64)]), (1, [(5, .int .u32), (25, .int .i64)])] []) Try.func72 [.pointer s, .slice b.base b.len b.cap] (by kernel_rfl) (V := vccrc_Sum_Add s b h R) (by kernel_rfl) H

def vccrc_Sum_Value (s : Option Addr) (h : Hp) (R : Value → Hp → Prop) : Prop :=
  IfB (isNone? s) (R (.int .u32 (0 : Int)) h)
  (∃ a : Addr, s = some a ∧
    ∃ c : Int, hcell h a = some (.int .u32 c) ∧
    R (.int .u32 c) h)
theorem crc_Sum_Value_vc {s : Option Addr} {h : Hp} {R : Value → Hp → Prop} (H : vccrc_Sum_Value s h R) : HCalls Try.prog fn_crc_Sum_Value #[.pointer s] h R :=
  vc_fn (annOf [] []) Try.func73 [.pointer s] (by kernel_rfl) (V := vccrc_Sum_Value s h R) (by kernel_rfl) H

def vcslices_Grow_sbytebyte (s : Sl) (n : Int) (h : Hp) (R : Value → Hp → Prop) : Prop :=
  IfB (decide (n < (0 : Int))) (False)
  (IfB (decide ((iSub .i64 n (iSub .i64 (s.cap : Int) (s.len : Int))) > (0 : Int))) (0 ≤ (0 : Int) ∧ (0 : Int) ≤ (s.cap : Int) ∧ (s.cap : Int) ≤ (s.cap : Int) ∧ (s.cap : Int) ≤ (s.cap : Int) ∧
      AppZ ty_uint8 1 1 #[.int .u8 (0 : Int)] (cutSl s (0 : Int) (s.cap : Int) (s.cap : Int) 1) (iSub .i64 n (iSub .i64 (s.cap : Int) (s.len : Int))) h fun s1 vh =>
      0 ≤ (0 : Int) ∧ (0 : Int) ≤ (s.len : Int) ∧ (s.len : Int) ≤ (s1.cap : Int) ∧ (s1.cap : Int) ≤ (s1.cap : Int) ∧
      R (.slice (cutSl s1 (0 : Int) (s.len : Int) (s1.cap : Int) 1).base (cutSl s1 (0 : Int) (s.len : Int) (s1.cap : Int) 1).len (cutSl s1 (0 : Int) (s.len : Int) (s1.cap : Int) 1).cap) vh)
    (R (.slice s.base s.len s.cap) h))
theorem slices_Grow_sbytebyte_vc {s : Sl} {n : Int} {h : Hp} {R : Value → Hp → Prop} (H : vcslices_Grow_sbytebyte s n h R) : HCalls Try.prog fn_slices_Grow_sbytebyte #[.slice s.base s.len s.cap, .int .i64 n] h R :=
  vc_fn (annOf [] []) Try.func74 [.slice s.base s.len s.cap, .int .i64 n] (by kernel_rfl) (V := vcslices_Grow_sbytebyte s n h R) (by kernel_rfl) H

def vcbits_put (v : Int) (n : Int) (h : Hp) (R : Value → Hp → Prop) : Prop :=
  MkC ty_uint8 1 #[.int .u8 (0 : Int)] n n h fun s vh =>
  ∃ (vI : Int → Nat → Hp → Prop) (n1 : Nat), vI (0 : Int) n1 vh ∧
  ∀ _junk : Nat → Value, ∀ t11 : Int, ∀ (n2 : Nat) (vh1 : Hp), vI t11 n2 vh1 →
  IfB (decide (t11 < (s.len : Int))) (0 ≤ (iMul .i64 (8 : Int) t11) ∧
    ∃ a : Addr, s.base = some a ∧ 0 ≤ t11 ∧ t11 < (s.len : Int) ∧
    StOk vh1 (a.add ((t11).toNat * 1)) ∧
    Lt (hset vh1 (a.add ((t11).toNat * 1)) (.int .u8 (iConv .u8 (iShr .u64 v (iMul .i64 (8 : Int) t11))))) fun vh2 =>
    ∃ n3, n3 < n2 ∧ vI (iAdd .i64 t11 (1 : Int)) n3 vh2)
  (R (.slice s.base s.len s.cap) vh1)
theorem bits_put_vc {v : Int} {n : Int} {h : Hp} {R : Value → Hp → Prop} (H : vcbits_put v n h R) : HCalls Try.prog fn_bits_put #[.int .u64 v, .int .i64 n] h R :=
  vc_fn (annOf [(0, [(11, .int .i64)])] []) Try.func75 [.int .u64 v, .int .i64 n] (by kernel_rfl) (V := vcbits_put v n h R) (by kernel_rfl) H

def vcbits_get (b : Sl) (n : Int) (h : Hp) (R : Value → Hp → Prop) : Prop :=
  IfB (decide ((b.len : Int) < n)) (R (.tuple #[.int .u64 (0 : Int), .bool false]) h)
  (∃ (vI : Int → Int → Nat → Hp → Prop) (n1 : Nat), vI (0 : Int) (0 : Int) n1 h ∧
    ∀ _junk : Nat → Value, ∀ v : Int, ∀ t12 : Int, ∀ (n2 : Nat) (vh : Hp), vI v t12 n2 vh →
    IfB (decide (t12 < n)) (∃ a : Addr, b.base = some a ∧ 0 ≤ t12 ∧ t12 < (b.len : Int) ∧
      ∃ c : Int, hcell vh (a.add ((t12).toNat * 1)) = some (.int .u8 c) ∧
      0 ≤ (iMul .i64 (8 : Int) t12) ∧
      ∃ n3, n3 < n2 ∧ vI (iOr .u64 v (iShl .u64 (iConv .u64 c) (iMul .i64 (8 : Int) t12))) (iAdd .i64 t12 (1 : Int)) n3 vh)
    (R (.tuple #[.int .u64 v, .bool true]) vh))
theorem bits_get_vc {b : Sl} {n : Int} {h : Hp} {R : Value → Hp → Prop} (H : vcbits_get b n h R) : HCalls Try.prog fn_bits_get #[.slice b.base b.len b.cap, .int .i64 n] h R :=
  vc_fn (annOf [(0, [(4, .int .u64), (12, .int .i64)])] []) Try.func76 [.slice b.base b.len b.cap, .int .i64 n] (by kernel_rfl) (V := vcbits_get b n h R) (by kernel_rfl) H

def vcslices_Grow_ssbytesbyte (s : Sl) (n : Int) (h : Hp) (R : Value → Hp → Prop) : Prop :=
  IfB (decide (n < (0 : Int))) (False)
  (IfB (decide ((iSub .i64 n (iSub .i64 (s.cap : Int) (s.len : Int))) > (0 : Int))) (0 ≤ (0 : Int) ∧ (0 : Int) ≤ (s.cap : Int) ∧ (s.cap : Int) ≤ (s.cap : Int) ∧ (s.cap : Int) ≤ (s.cap : Int) ∧
      AppZ ty_suint8 1 24 #[.slice Sl.nil.base Sl.nil.len Sl.nil.cap] (cutSl s (0 : Int) (s.cap : Int) (s.cap : Int) 1) (iSub .i64 n (iSub .i64 (s.cap : Int) (s.len : Int))) h fun s1 vh =>
      0 ≤ (0 : Int) ∧ (0 : Int) ≤ (s.len : Int) ∧ (s.len : Int) ≤ (s1.cap : Int) ∧ (s1.cap : Int) ≤ (s1.cap : Int) ∧
      R (.slice (cutSl s1 (0 : Int) (s.len : Int) (s1.cap : Int) 1).base (cutSl s1 (0 : Int) (s.len : Int) (s1.cap : Int) 1).len (cutSl s1 (0 : Int) (s.len : Int) (s1.cap : Int) 1).cap) vh)
    (R (.slice s.base s.len s.cap) h))
theorem slices_Grow_ssbytesbyte_vc {s : Sl} {n : Int} {h : Hp} {R : Value → Hp → Prop} (H : vcslices_Grow_ssbytesbyte s n h R) : HCalls Try.prog fn_slices_Grow_ssbytesbyte #[.slice s.base s.len s.cap, .int .i64 n] h R :=
  vc_fn (annOf [] []) Try.func77 [.slice s.base s.len s.cap, .int .i64 n] (by kernel_rfl) (V := vcslices_Grow_ssbytesbyte s n h R) (by kernel_rfl) H

def vczdev_Dev_Crash (d : Option Addr) (picks : Sl) (torn : Sl) (h : Hp) (R : Value → Hp → Prop) : Prop :=
  HCalls Try.prog fn_zdev_Dev_gone #[.pointer d] h fun r vh =>
  ∃ c : Bool, r = .bool c ∧
  IfB c (R (.pointer none) vh)
  (∃ a : Addr, d = some a ∧
    ∃ c1 : Int, ∃ c2 : Int, hcell vh (a) = some (.int .i64 c1) ∧ hcell vh (a.add 1) = some (.int .i64 c2) ∧
    HCalls Try.prog fn_zdev_New #[.agg #[.int .i64 c1, .int .i64 c2]] vh fun r1 vh1 =>
    ∃ c3 : Option Addr, ∃ c4 : Int, r1 = .tuple #[.pointer c3, .int .i64 c4] ∧
    ∃ a1 : Addr, d = some a1 ∧
    ∃ c5 : Sl, hcell vh1 (a1.add 2) = some (.slice c5.base c5.len c5.cap) ∧
    ∃ (vI : Int → Nat → Hp → Prop) (n : Nat), vI (0 : Int) n vh1 ∧
    ∀ _junk : Nat → Value, ∀ t33 : Int, ∀ (n1 : Nat) (vh2 : Hp), vI t33 n1 vh2 →
    IfB (decide (t33 < (c5.len : Int))) (∃ a2 : Addr, c5.base = some a2 ∧ 0 ≤ t33 ∧ t33 < (c5.len : Int) ∧
      ∃ c6 : Option Addr, hcell vh2 (a2.add ((t33).toNat * 1)) = some (.pointer c6) ∧
      ∃ a3 : Addr, c6 = some a3 ∧
      ∃ c7 : Int, hcell vh2 (a3.add 1) = some (.int .i64 c7) ∧
      ∃ a4 : Addr, c6 = some a4 ∧
      ∃ c8 : Sl, hcell vh2 a4 = some (.slice c8.base c8.len c8.cap) ∧
      ∃ vJ : Int → Hp → Prop,
      (HCalls Try.prog fn_zdev_pick #[.slice picks.base picks.len picks.cap, .int .i64 t33] vh2 fun r2 vh3 =>
        ∃ c9 : Int, ∃ c10 : Bool, r2 = .tuple #[.int .i64 c9, .bool c10] ∧
        IfB c10 (HCalls Try.prog fn_zdev_rest #[.int .i64 c9, .int .i64 (iAdd .i64 (iSub .i64 (c8.len : Int) c7) (1 : Int))] vh3 fun r3 vh4 =>
          ∃ c11 : Int, r3 = .int .i64 c11 ∧
          vJ (iAdd .i64 c7 c11) vh4)
        (vJ c7 vh3)) ∧
      ∀ _junk : Nat → Value, ∀ n3 : Int, ∀ vh5 : Hp, vJ n3 vh5 →
      ∃ a5 : Addr, c6 = some a5 ∧
      ∃ c12 : Sl, hcell vh5 a5 = some (.slice c12.base c12.len c12.cap) ∧
      0 ≤ (0 : Int) ∧ (0 : Int) ≤ n3 ∧ n3 ≤ (c12.cap : Int) ∧ (c12.cap : Int) ≤ (c12.cap : Int) ∧
      HCalls Try.prog fn_zdev_own #[.slice (cutSl c12 (0 : Int) n3 (c12.cap : Int) 1).base (cutSl c12 (0 : Int) n3 (c12.cap : Int) 1).len (cutSl c12 (0 : Int) n3 (c12.cap : Int) 1).cap] vh5 fun r4 vh6 =>
      ∃ c13 : Sl, r4 = .slice c13.base c13.len c13.cap ∧
      ∃ vJ1 : Sl → Hp → Prop,
      (HCalls Try.prog fn_zdev_pick #[.slice torn.base torn.len torn.cap, .int .i64 t33] vh6 fun r5 vh7 =>
        ∃ c14 : Int, ∃ c15 : Bool, r5 = .tuple #[.int .i64 c14, .bool c15] ∧
        IfB c15 (IfB (decide (n3 < (c8.len : Int))) ((2 : Int) ≠ 0 ∧
            IfB ((iRem c14 (2 : Int)) != (0 : Int)) (∃ a6 : Addr, c6 = some a6 ∧
              ∃ c16 : Sl, hcell vh7 a6 = some (.slice c16.base c16.len c16.cap) ∧
              ∃ a7 : Addr, c16.base = some a7 ∧ 0 ≤ n3 ∧ n3 < (c16.len : Int) ∧
              ∃ c17 : Sl, hcell vh7 (a7.add ((n3).toNat * 1)) = some (.slice c17.base c17.len c17.cap) ∧
              HCalls Try.prog fn_zdev_tear #[.slice c17.base c17.len c17.cap] vh7 fun r6 vh8 =>
              ∃ c18 : Sl, r6 = .slice c18.base c18.len c18.cap ∧
              let vh9 := alc vh8 [.slice c18.base c18.len c18.cap] ty_suint8;
              AppC ty_suint8 1 24 #[.slice Sl.nil.base Sl.nil.len Sl.nil.cap] c13 (Sl.mk (some (nw vh8)) 1 1) vh9 fun s vh10 =>
              vJ1 s vh10)
            (vJ1 c13 vh7))
          (vJ1 c13 vh7))
        (vJ1 c13 vh7)) ∧
      ∀ _junk : Nat → Value, ∀ l : Sl, ∀ vh11 : Hp, vJ1 l vh11 →
      ∃ a8 : Addr, c3 = some a8 ∧
      ∃ c19 : Sl, hcell vh11 (a8.add 2) = some (.slice c19.base c19.len c19.cap) ∧
      ∃ a9 : Addr, c19.base = some a9 ∧ 0 ≤ t33 ∧ t33 < (c19.len : Int) ∧
      ∃ c20 : Option Addr, hcell vh11 (a9.add ((t33).toNat * 1)) = some (.pointer c20) ∧
      ∃ a10 : Addr, c20 = some a10 ∧
      stCells a10 0 [.slice l.base l.len l.cap, .int .i64 (l.len : Int)] vh11 fun vh12 =>
      ∃ n2, n2 < n1 ∧ vI (iAdd .i64 t33 (1 : Int)) n2 vh12)
    (R (.pointer c3) vh2))
theorem zdev_Dev_Crash_vc {d : Option Addr} {picks : Sl} {torn : Sl} {h : Hp} {R : Value → Hp → Prop} (H : vczdev_Dev_Crash d picks torn h R) : HCalls Try.prog fn_zdev_Dev_Crash #[.pointer d, .slice picks.base picks.len picks.cap, .slice torn.base torn.len torn.cap] h R :=
  vc_fn (annOf [(0, [(33, .int .i64)])] [(11, [(11, .int .i64)]), (15, [(15, .sl)])]) Try.func22 [.pointer d, .slice picks.base picks.len picks.cap, .slice torn.base torn.len torn.cap] (by kernel_rfl) (V := vczdev_Dev_Crash d picks torn h R) (by kernel_rfl) H

def vczdev_Dev_begin (d : Option Addr) (h : Hp) (R : Value → Hp → Prop) : Prop :=
  ∃ a : Addr, d = some a ∧
  ∃ c : Int, hcell h (a.add 3) = some (.int .i64 c) ∧
  ∃ a1 : Addr, d = some a1 ∧
  StOk h (a1.add 3) ∧
  Lt (hset h (a1.add 3) (.int .i64 (iAdd .i64 c (1 : Int)))) fun vh =>
  ∃ vJ : Hp → Prop,
  (∃ a2 : Addr, d = some a2 ∧
    ∃ c1 : Bool, hcell vh (a2.add 7) = some (.bool c1) ∧
    IfB c1 (∃ a3 : Addr, d = some a3 ∧
      StOk vh (a3.add 7) ∧
      Lt (hset vh (a3.add 7) (.bool true)) fun vh1 =>
      vJ vh1)
    (∃ a4 : Addr, d = some a4 ∧
      ∃ c2 : Bool, hcell vh (a4.add 5) = some (.bool c2) ∧
      IfB c2 (∃ a5 : Addr, d = some a5 ∧
        ∃ c3 : Int, hcell vh (a5.add 6) = some (.int .i64 c3) ∧
        ∃ a6 : Addr, d = some a6 ∧
        StOk vh (a6.add 7) ∧
        Lt (hset vh (a6.add 7) (.bool (decide (c3 < (1 : Int))))) fun vh2 =>
        vJ vh2)
      (∃ a7 : Addr, d = some a7 ∧
        StOk vh (a7.add 7) ∧
        Lt (hset vh (a7.add 7) (.bool false)) fun vh3 =>
        vJ vh3))) ∧
  ∀ _junk : Nat → Value, ∀ vh4 : Hp, vJ vh4 →
  ∃ a8 : Addr, d = some a8 ∧
  ∃ c4 : Bool, hcell vh4 (a8.add 7) = some (.bool c4) ∧
  IfB c4 (R (.bool false) vh4)
  (∃ a9 : Addr, d = some a9 ∧
    ∃ c5 : Bool, hcell vh4 (a9.add 5) = some (.bool c5) ∧
    IfB c5 (∃ a10 : Addr, d = some a10 ∧
      ∃ c6 : Int, hcell vh4 (a10.add 6) = some (.int .i64 c6) ∧
      ∃ a11 : Addr, d = some a11 ∧
      StOk vh4 (a11.add 6) ∧
      Lt (hset vh4 (a11.add 6) (.int .i64 (iSub .i64 c6 (1 : Int)))) fun vh5 =>
      R (.bool true) vh5)
    (R (.bool true) vh4))
theorem zdev_Dev_begin_vc {d : Option Addr} {h : Hp} {R : Value → Hp → Prop} (H : vczdev_Dev_begin d h R) : HCalls Try.prog fn_zdev_Dev_begin #[.pointer d] h R :=
  vc_fn (annOf [] [(3, [])]) Try.func68 [.pointer d] (by kernel_rfl) (V := vczdev_Dev_begin d h R) (by kernel_rfl) H

def vczdev_Dev_Append (d : Option Addr) (i : Int) (p : Sl) (h : Hp) (R : Value → Hp → Prop) : Prop :=
  HCalls Try.prog fn_zdev_Dev_at #[.pointer d, .int .i64 i] h fun r vh =>
  ∃ c : Option Addr, r = .pointer c ∧
  IfB (isNone? c) (R (.tuple #[.int .i64 (0 : Int), .int .i64 (1 : Int)]) vh)
  (IfB ((p.len : Int) != (64 : Int)) (R (.tuple #[.int .i64 (0 : Int), .int .i64 (3 : Int)]) vh)
    (HCalls Try.prog fn_zdev_Dev_begin #[.pointer d] vh fun r1 vh1 =>
      ∃ c1 : Bool, r1 = .bool c1 ∧
      IfB (!c1) (R (.tuple #[.int .i64 (0 : Int), .int .i64 (12 : Int)]) vh1)
      (∃ a : Addr, c = some a ∧
        ∃ c2 : Sl, hcell vh1 a = some (.slice c2.base c2.len c2.cap) ∧
        ∃ a1 : Addr, d = some a1 ∧
        ∃ c3 : Int, hcell vh1 (a1.add 1) = some (.int .i64 c3) ∧
        IfB (decide ((c2.len : Int) ≥ c3)) (R (.tuple #[.int .i64 (0 : Int), .int .i64 (9 : Int)]) vh1)
        (∃ hR : Hp, Sub hR vh1 ∧
          ∃ a2 : Addr, c = some a2 ∧
          ∃ c4 : Sl, hcell hR a2 = some (.slice c4.base c4.len c4.cap) ∧
          HCalls Try.prog fn_slices_Clone_sbytebyte #[.slice p.base p.len p.cap] vh1 fun r2 vh2 =>
          ∃ c5 : Sl, r2 = .slice c5.base c5.len c5.cap ∧
          Sub hR vh2 ∧
          let vh3 := alc vh2 [.slice c5.base c5.len c5.cap] ty_suint8;
          Sub hR vh3 ∧
          AppC ty_suint8 1 24 #[.slice Sl.nil.base Sl.nil.len Sl.nil.cap] c4 (Sl.mk (some (nw vh2)) 1 1) vh3 fun s vh4 =>
          Sub hR vh4 ∧
          ∃ a3 : Addr, c = some a3 ∧
          StOk vh4 a3 ∧
          Lt (hset vh4 a3 (.slice s.base s.len s.cap)) fun vh5 =>
          ∃ a4 : Addr, c = some a4 ∧
          ∃ c6 : Sl, hcell vh5 a4 = some (.slice c6.base c6.len c6.cap) ∧
          R (.tuple #[.int .i64 (iSub .i64 (c6.len : Int) (1 : Int)), .int .i64 (0 : Int)]) vh5))))
theorem zdev_Dev_Append_vc {d : Option Addr} {i : Int} {p : Sl} {h : Hp} {R : Value → Hp → Prop} (H : vczdev_Dev_Append d i p h R) : HCalls Try.prog fn_zdev_Dev_Append #[.pointer d, .int .i64 i, .slice p.base p.len p.cap] h R :=
  vc_fn (annOfL [] [] [10]) Try.func69 [.pointer d, .int .i64 i, .slice p.base p.len p.cap] (by kernel_rfl) (V := vczdev_Dev_Append d i p h R) (by kernel_rfl) H

def vcseglog_Open (d : Option Addr) (low : Int) (high : Int) (h : Hp) (R : Value → Hp → Prop) : Prop :=
  HCalls Try.prog fn_zdev_Dev_Geometry #[.pointer d] h fun r vh =>
  ∃ c : Int, ∃ c1 : Int, r = .agg #[.int .i64 c, .int .i64 c1] ∧
  let vh1 := alc vh [.int .i64 (0 : Int), .int .i64 (0 : Int)] ty_api_Geometry;
  stCells (nw vh) 0 [.int .i64 c, .int .i64 c1] vh1 fun vh2 =>
  ∃ c2 : Int, hcell vh2 (nw vh) = some (.int .i64 c2) ∧
  IfB (c2 == (0 : Int)) (R (.tuple #[.pointer none, .int .i64 (1 : Int)]) vh2)
  (IfB (decide (low < (0 : Int))) (R (.tuple #[.pointer none, .int .i64 (1 : Int)]) vh2)
    (IfB (decide (high ≤ low)) (R (.tuple #[.pointer none, .int .i64 (1 : Int)]) vh2)
      (∃ c3 : Int, hcell vh2 (nw vh) = some (.int .i64 c3) ∧
        IfB (decide (high ≥ c3)) (R (.tuple #[.pointer none, .int .i64 (1 : Int)]) vh2)
        ((2 : Int) ≠ 0 ∧
          ∃ c4 : Int, hcell vh2 ((nw vh).add 1) = some (.int .i64 c4) ∧
          let vh3 := alc vh2 [.pointer d, .int .i64 low, .int .i64 (iQuo .i64 (iAdd .i64 (iSub .i64 high low) (1 : Int)) (2 : Int)), .int .i64 c4, .int .i64 (0 : Int), .int .i64 (0 : Int), .int .i64 (0 : Int), .int .i64 (0 : Int), .slice Sl.nil.base Sl.nil.len Sl.nil.cap, .bool false] ty_seglog_Log;
          ∃ (vI : Option Addr → Int → Nat → Hp → Prop) (n : Nat), vI none (0 : Int) n vh3 ∧
          ∀ _junk : Nat → Value, ∀ best : Option Addr, ∀ t46 : Int, ∀ (n1 : Nat) (vh4 : Hp), vI best t46 n1 vh4 →
          IfB (decide (t46 < (2 : Int))) (HCalls Try.prog fn_seglog_Log_blocks #[.pointer (some (nw vh2)), .int .i64 t46] vh4 fun r1 vh5 =>
            ∃ c5 : Sl, r1 = .slice c5.base c5.len c5.cap ∧
            HCalls Try.prog fn_seglog_strange #[.slice c5.base c5.len c5.cap] vh5 fun r2 vh6 =>
            ∃ c6 : Bool, r2 = .bool c6 ∧
            IfB c6 (R (.tuple #[.pointer none, .int .i64 (13 : Int)]) vh6)
            (HCalls Try.prog fn_seglog_read #[.slice c5.base c5.len c5.cap] vh6 fun r3 vh7 =>
              ∃ c7 : Option Addr, r3 = .pointer c7 ∧
              ∃ a : Addr, c7 = some a ∧
              ∃ c8 : Bool, hcell vh7 (a.add 1) = some (.bool c8) ∧
              IfB c8 (IfB (isNone? best) (∃ a1 : Addr, c7 = some a1 ∧
                  ∃ c9 : Bool, hcell vh7 a1 = some (.bool c9) ∧
                  IfB c9 (∃ hR : Hp, Sub hR vh7 ∧
                    ∃ a2 : Addr, c7 = some a2 ∧
                    ∃ c10 : Int, hcell hR (a2.add 2) = some (.int .i64 c10) ∧
                    ∃ a3 : Addr, c7 = some a3 ∧
                    ∃ c11 : Int, hcell hR (a3.add 3) = some (.int .i64 c11) ∧
                    ∃ a4 : Addr, c7 = some a4 ∧
                    ∃ c12 : Sl, hcell hR (a4.add 4) = some (.slice c12.base c12.len c12.cap) ∧
                    ∃ a5 : Addr, (some (nw vh2)) = some a5 ∧
                    StOk vh7 (a5.add 4) ∧
                    Lt (hset vh7 (a5.add 4) (.int .i64 t46)) fun vh8 =>
                    Sub hR vh8 ∧
                    ∃ a6 : Addr, (some (nw vh2)) = some a6 ∧
                    StOk vh8 (a6.add 5) ∧
                    Lt (hset vh8 (a6.add 5) (.int .i64 c10)) fun vh9 =>
                    Sub hR vh9 ∧
                    ∃ a7 : Addr, (some (nw vh2)) = some a7 ∧
                    StOk vh9 (a7.add 7) ∧
                    Lt (hset vh9 (a7.add 7) (.int .i64 c11)) fun vh10 =>
                    Sub hR vh10 ∧
                    ∃ a8 : Addr, (some (nw vh2)) = some a8 ∧
                    StOk vh10 (a8.add 8) ∧
                    Lt (hset vh10 (a8.add 8) (.slice c12.base c12.len c12.cap)) fun vh11 =>
                    Sub hR vh11 ∧
                    ∃ a9 : Addr, (some (nw vh2)) = some a9 ∧
                    StOk vh11 (a9.add 6) ∧
                    Lt (hset vh11 (a9.add 6) (.int .i64 (c5.len : Int))) fun vh12 =>
                    ∃ n2, n2 < n1 ∧ vI c7 (iAdd .i64 t46 (1 : Int)) n2 vh12)
                  (IfB (t46 == (0 : Int)) (∃ hR1 : Hp, Sub hR1 vh7 ∧
                      ∃ a10 : Addr, c7 = some a10 ∧
                      ∃ c13 : Int, hcell hR1 (a10.add 2) = some (.int .i64 c13) ∧
                      ∃ a11 : Addr, c7 = some a11 ∧
                      ∃ c14 : Int, hcell hR1 (a11.add 3) = some (.int .i64 c14) ∧
                      ∃ a12 : Addr, c7 = some a12 ∧
                      ∃ c15 : Sl, hcell hR1 (a12.add 4) = some (.slice c15.base c15.len c15.cap) ∧
                      ∃ a13 : Addr, (some (nw vh2)) = some a13 ∧
                      StOk vh7 (a13.add 4) ∧
                      Lt (hset vh7 (a13.add 4) (.int .i64 t46)) fun vh13 =>
                      Sub hR1 vh13 ∧
                      ∃ a14 : Addr, (some (nw vh2)) = some a14 ∧
                      StOk vh13 (a14.add 5) ∧
                      Lt (hset vh13 (a14.add 5) (.int .i64 c13)) fun vh14 =>
                      Sub hR1 vh14 ∧
                      ∃ a15 : Addr, (some (nw vh2)) = some a15 ∧
                      StOk vh14 (a15.add 7) ∧
                      Lt (hset vh14 (a15.add 7) (.int .i64 c14)) fun vh15 =>
                      Sub hR1 vh15 ∧
                      ∃ a16 : Addr, (some (nw vh2)) = some a16 ∧
                      StOk vh15 (a16.add 8) ∧
                      Lt (hset vh15 (a16.add 8) (.slice c15.base c15.len c15.cap)) fun vh16 =>
                      Sub hR1 vh16 ∧
                      ∃ a17 : Addr, (some (nw vh2)) = some a17 ∧
                      StOk vh16 (a17.add 6) ∧
                      Lt (hset vh16 (a17.add 6) (.int .i64 (c5.len : Int))) fun vh17 =>
                      ∃ n2, n2 < n1 ∧ vI c7 (iAdd .i64 t46 (1 : Int)) n2 vh17)
                    (∃ n2, n2 < n1 ∧ vI best (iAdd .i64 t46 (1 : Int)) n2 vh7)))
                (∃ a18 : Addr, c7 = some a18 ∧
                  ∃ c16 : Int, hcell vh7 (a18.add 2) = some (.int .i64 c16) ∧
                  ∃ a19 : Addr, best = some a19 ∧
                  ∃ c17 : Int, hcell vh7 (a19.add 2) = some (.int .i64 c17) ∧
                  IfB (decide (c16 > c17)) (∃ a20 : Addr, c7 = some a20 ∧
                    ∃ c18 : Bool, hcell vh7 a20 = some (.bool c18) ∧
                    IfB c18 (∃ hR2 : Hp, Sub hR2 vh7 ∧
                      ∃ a21 : Addr, c7 = some a21 ∧
                      ∃ c19 : Int, hcell hR2 (a21.add 2) = some (.int .i64 c19) ∧
                      ∃ a22 : Addr, c7 = some a22 ∧
                      ∃ c20 : Int, hcell hR2 (a22.add 3) = some (.int .i64 c20) ∧
                      ∃ a23 : Addr, c7 = some a23 ∧
                      ∃ c21 : Sl, hcell hR2 (a23.add 4) = some (.slice c21.base c21.len c21.cap) ∧
                      ∃ a24 : Addr, (some (nw vh2)) = some a24 ∧
                      StOk vh7 (a24.add 4) ∧
                      Lt (hset vh7 (a24.add 4) (.int .i64 t46)) fun vh18 =>
                      Sub hR2 vh18 ∧
                      ∃ a25 : Addr, (some (nw vh2)) = some a25 ∧
                      StOk vh18 (a25.add 5) ∧
                      Lt (hset vh18 (a25.add 5) (.int .i64 c19)) fun vh19 =>
                      Sub hR2 vh19 ∧
                      ∃ a26 : Addr, (some (nw vh2)) = some a26 ∧
                      StOk vh19 (a26.add 7) ∧
                      Lt (hset vh19 (a26.add 7) (.int .i64 c20)) fun vh20 =>
                      Sub hR2 vh20 ∧
                      ∃ a27 : Addr, (some (nw vh2)) = some a27 ∧
                      StOk vh20 (a27.add 8) ∧
                      Lt (hset vh20 (a27.add 8) (.slice c21.base c21.len c21.cap)) fun vh21 =>
                      Sub hR2 vh21 ∧
                      ∃ a28 : Addr, (some (nw vh2)) = some a28 ∧
                      StOk vh21 (a28.add 6) ∧
                      Lt (hset vh21 (a28.add 6) (.int .i64 (c5.len : Int))) fun vh22 =>
                      ∃ n2, n2 < n1 ∧ vI c7 (iAdd .i64 t46 (1 : Int)) n2 vh22)
                    (IfB (t46 == (0 : Int)) (∃ hR3 : Hp, Sub hR3 vh7 ∧
                        ∃ a29 : Addr, c7 = some a29 ∧
                        ∃ c22 : Int, hcell hR3 (a29.add 2) = some (.int .i64 c22) ∧
                        ∃ a30 : Addr, c7 = some a30 ∧
                        ∃ c23 : Int, hcell hR3 (a30.add 3) = some (.int .i64 c23) ∧
                        ∃ a31 : Addr, c7 = some a31 ∧
                        ∃ c24 : Sl, hcell hR3 (a31.add 4) = some (.slice c24.base c24.len c24.cap) ∧
                        ∃ a32 : Addr, (some (nw vh2)) = some a32 ∧
                        StOk vh7 (a32.add 4) ∧
                        Lt (hset vh7 (a32.add 4) (.int .i64 t46)) fun vh23 =>
                        Sub hR3 vh23 ∧
                        ∃ a33 : Addr, (some (nw vh2)) = some a33 ∧
                        StOk vh23 (a33.add 5) ∧
                        Lt (hset vh23 (a33.add 5) (.int .i64 c22)) fun vh24 =>
                        Sub hR3 vh24 ∧
                        ∃ a34 : Addr, (some (nw vh2)) = some a34 ∧
                        StOk vh24 (a34.add 7) ∧
                        Lt (hset vh24 (a34.add 7) (.int .i64 c23)) fun vh25 =>
                        Sub hR3 vh25 ∧
                        ∃ a35 : Addr, (some (nw vh2)) = some a35 ∧
                        StOk vh25 (a35.add 8) ∧
                        Lt (hset vh25 (a35.add 8) (.slice c24.base c24.len c24.cap)) fun vh26 =>
                        Sub hR3 vh26 ∧
                        ∃ a36 : Addr, (some (nw vh2)) = some a36 ∧
                        StOk vh26 (a36.add 6) ∧
                        Lt (hset vh26 (a36.add 6) (.int .i64 (c5.len : Int))) fun vh27 =>
                        ∃ n2, n2 < n1 ∧ vI c7 (iAdd .i64 t46 (1 : Int)) n2 vh27)
                      (∃ n2, n2 < n1 ∧ vI best (iAdd .i64 t46 (1 : Int)) n2 vh7)))
                  (∃ n2, n2 < n1 ∧ vI best (iAdd .i64 t46 (1 : Int)) n2 vh7)))
              (∃ n2, n2 < n1 ∧ vI best (iAdd .i64 t46 (1 : Int)) n2 vh7)))
          (IfB (isNone? best) (R (.tuple #[.pointer none, .int .i64 (13 : Int)]) vh4)
            (HCalls Try.prog fn_seglog_Log_mend #[.pointer (some (nw vh2))] vh4 fun r4 vh28 =>
              ∃ c25 : Int, r4 = .int .i64 c25 ∧
              IfB (c25 != (0 : Int)) (R (.tuple #[.pointer none, .int .i64 c25]) vh28)
              (R (.tuple #[.pointer (some (nw vh2)), .int .i64 (0 : Int)]) vh28)))))))
theorem seglog_Open_vc {d : Option Addr} {low : Int} {high : Int} {h : Hp} {R : Value → Hp → Prop} (H : vcseglog_Open d low high h R) : HCalls Try.prog fn_seglog_Open #[.pointer d, .int .i64 low, .int .i64 high] h R :=
  vc_fn (annOfL [(0, [(10, .ptr), (46, .int .i64)])] [] [15]) Try.func11 [.pointer d, .int .i64 low, .int .i64 high] (by kernel_rfl) (V := vcseglog_Open d low high h R) (by kernel_rfl) H

def vcseglog_Log_put (l : Option Addr) (blocks : Sl) (first : Int) (records : Sl) (h : Hp) (R : Value → Hp → Prop) : Prop :=
  ∃ vJ : Int → Hp → Prop,
  (∃ a : Addr, l = some a ∧
    ∃ c : Int, hcell h (a.add 6) = some (.int .i64 c) ∧
    HCalls Try.prog fn_seglog_Log_room #[.pointer l] h fun r vh =>
    ∃ c1 : Int, r = .int .i64 c1 ∧
    Ext h vh ∧
    IfB (decide ((iAdd .i64 c (blocks.len : Int)) ≤ c1)) (∃ hR : Hp, Sub hR vh ∧
      ∃ a1 : Addr, l = some a1 ∧
      ∃ c2 : Int, hcell hR (a1.add 4) = some (.int .i64 c2) ∧
      ∃ a2 : Addr, l = some a2 ∧
      ∃ c3 : Int, hcell hR (a2.add 6) = some (.int .i64 c3) ∧
      HCalls Try.prog fn_seglog_Log_write #[.pointer l, .int .i64 c2, .int .i64 c3, .slice blocks.base blocks.len blocks.cap] vh fun r1 vh1 =>
      ∃ c4 : Int, r1 = .int .i64 c4 ∧
      Sub hR vh1 ∧
      IfB (c4 == (0 : Int)) (∃ a3 : Addr, l = some a3 ∧
        ∃ c5 : Int, hcell vh1 (a3.add 6) = some (.int .i64 c5) ∧
        ∃ a4 : Addr, l = some a4 ∧
        StOk vh1 (a4.add 6) ∧
        Lt (hset vh1 (a4.add 6) (.int .i64 (iAdd .i64 c5 (blocks.len : Int)))) fun vh2 =>
        vJ c4 vh2)
      (vJ c4 vh1))
    (HCalls Try.prog fn_seglog_Log_turn #[.pointer l, .int .i64 first, .slice records.base records.len records.cap] vh fun r2 vh3 =>
      ∃ c6 : Int, r2 = .int .i64 c6 ∧
      vJ c6 vh3)) ∧
  ∀ _junk : Nat → Value, ∀ e : Int, ∀ vh4 : Hp, vJ e vh4 →
  IfB (e == (0 : Int)) (∃ a5 : Addr, l = some a5 ∧
    StOk vh4 (a5.add 7) ∧
    Lt (hset vh4 (a5.add 7) (.int .i64 first)) fun vh5 =>
    ∃ a6 : Addr, l = some a6 ∧
    StOk vh5 (a6.add 8) ∧
    Lt (hset vh5 (a6.add 8) (.slice records.base records.len records.cap)) fun vh6 =>
    R (.int .i64 e) vh6)
  (IfB (e == (9 : Int)) (R (.int .i64 e) vh4)
    (∃ a7 : Addr, l = some a7 ∧
      StOk vh4 (a7.add 9) ∧
      Lt (hset vh4 (a7.add 9) (.bool true)) fun vh7 =>
      R (.int .i64 e) vh7))
theorem seglog_Log_put_vc {l : Option Addr} {blocks : Sl} {first : Int} {records : Sl} {h : Hp} {R : Value → Hp → Prop} (H : vcseglog_Log_put l blocks first records h R) : HCalls Try.prog fn_seglog_Log_put #[.pointer l, .slice blocks.base blocks.len blocks.cap, .int .i64 first, .slice records.base records.len records.cap] h R :=
  vc_fn (annOfL [] [(7, [(9, .int .i64)])] [3]) Try.func36 [.pointer l, .slice blocks.base blocks.len blocks.cap, .int .i64 first, .slice records.base records.len records.cap] (by kernel_rfl) (V := vcseglog_Log_put l blocks first records h R) (by kernel_rfl) H

def vcseglog_read (blocks : Sl) (h : Hp) (R : Value → Hp → Prop) : Prop :=
  let vh := alc h [.bool false, .bool true, .int .i64 (0 : Int), .int .i64 (0 : Int), .slice Sl.nil.base Sl.nil.len Sl.nil.cap, .slice Sl.nil.base Sl.nil.len Sl.nil.cap] ty_seglog_scan;
  ∃ (vI : Int → Nat → Hp → Prop) (n : Nat), vI (0 : Int) n vh ∧
  ∀ _junk : Nat → Value, ∀ t12 : Int, ∀ (n1 : Nat) (vh1 : Hp), vI t12 n1 vh1 →
  IfB (decide (t12 < (blocks.len : Int))) (∃ a : Addr, blocks.base = some a ∧ 0 ≤ t12 ∧ t12 < (blocks.len : Int) ∧
    ∃ c : Sl, hcell vh1 (a.add ((t12).toNat * 1)) = some (.slice c.base c.len c.cap) ∧
    HCalls Try.prog fn_frame_Decode #[.slice c.base c.len c.cap] vh1 fun r vh2 =>
    ∃ c1 : Int, ∃ c2 : Int, ∃ c3 : Int, ∃ c4 : Int, ∃ c5 : Sl, ∃ c6 : Int, r = .tuple #[.agg #[.int .i64 c1, .int .i64 c2, .int .i64 c3, .int .i64 c4, .slice c5.base c5.len c5.cap], .int .i64 c6] ∧
    let vh3 := alc vh2 [.int .i64 (0 : Int), .int .i64 (0 : Int), .int .i64 (0 : Int), .int .i64 (0 : Int), .slice Sl.nil.base Sl.nil.len Sl.nil.cap] ty_frame_Block;
    stCells (nw vh2) 0 [.int .i64 c1, .int .i64 c2, .int .i64 c3, .int .i64 c4, .slice c5.base c5.len c5.cap] vh3 fun vh4 =>
    IfB (c6 != (0 : Int)) (∃ a1 : Addr, (some (nw h)) = some a1 ∧
      StOk vh4 (a1.add 5) ∧
      Lt (hset vh4 (a1.add 5) (.slice Sl.nil.base Sl.nil.len Sl.nil.cap)) fun vh5 =>
      ∃ n2, n2 < n1 ∧ vI (iAdd .i64 t12 (1 : Int)) n2 vh5)
    (IfB (t12 == (0 : Int)) (∃ c7 : Int, hcell vh4 (nw vh2) = some (.int .i64 c7) ∧
        IfB (c7 == (3 : Int)) (∃ hR : Hp, Sub hR vh4 ∧
          ∃ c8 : Int, hcell hR ((nw vh2).add 1) = some (.int .i64 c8) ∧
          ∃ c9 : Int, hcell hR ((nw vh2).add 2) = some (.int .i64 c9) ∧
          ∃ a2 : Addr, (some (nw h)) = some a2 ∧
          StOk vh4 a2 ∧
          Lt (hset vh4 a2 (.bool true)) fun vh6 =>
          Sub hR vh6 ∧
          ∃ a3 : Addr, (some (nw h)) = some a3 ∧
          StOk vh6 (a3.add 1) ∧
          Lt (hset vh6 (a3.add 1) (.bool false)) fun vh7 =>
          Sub hR vh7 ∧
          ∃ a4 : Addr, (some (nw h)) = some a4 ∧
          StOk vh7 (a4.add 2) ∧
          Lt (hset vh7 (a4.add 2) (.int .i64 c8)) fun vh8 =>
          Sub hR vh8 ∧
          ∃ a5 : Addr, (some (nw h)) = some a5 ∧
          StOk vh8 (a5.add 3) ∧
          Lt (hset vh8 (a5.add 3) (.int .i64 c9)) fun vh9 =>
          ∃ n2, n2 < n1 ∧ vI (iAdd .i64 t12 (1 : Int)) n2 vh9)
        (∃ c10 : Int, hcell vh4 ((nw vh2).add 1) = some (.int .i64 c10) ∧
          ∃ a6 : Addr, (some (nw h)) = some a6 ∧
          ∃ c11 : Int, hcell vh4 (a6.add 2) = some (.int .i64 c11) ∧
          IfB (c10 != c11) (∃ a7 : Addr, (some (nw h)) = some a7 ∧
            StOk vh4 (a7.add 5) ∧
            Lt (hset vh4 (a7.add 5) (.slice Sl.nil.base Sl.nil.len Sl.nil.cap)) fun vh10 =>
            ∃ n2, n2 < n1 ∧ vI (iAdd .i64 t12 (1 : Int)) n2 vh10)
          (∃ c12 : Int, hcell vh4 (nw vh2) = some (.int .i64 c12) ∧
            IfB (c12 == (1 : Int)) (∃ hR1 : Hp, Sub hR1 vh4 ∧
              ∃ a8 : Addr, (some (nw h)) = some a8 ∧
              ∃ c13 : Sl, hcell hR1 (a8.add 5) = some (.slice c13.base c13.len c13.cap) ∧
              ∃ c14 : Int, ∃ c15 : Int, ∃ c16 : Int, ∃ c17 : Int, ∃ c18 : Sl, hcell hR1 ((nw vh2)) = some (.int .i64 c14) ∧ hcell hR1 ((nw vh2).add 1) = some (.int .i64 c15) ∧ hcell hR1 ((nw vh2).add 2) = some (.int .i64 c16) ∧ hcell hR1 ((nw vh2).add 3) = some (.int .i64 c17) ∧ hcell hR1 ((nw vh2).add 4) = some (.slice c18.base c18.len c18.cap) ∧
              let vh11 := alc vh4 [.int .i64 c14, .int .i64 c15, .int .i64 c16, .int .i64 c17, .slice c18.base c18.len c18.cap] ty_frame_Block;
              Sub hR1 vh11 ∧
              AppC ty_frame_Block 5 56 #[.int .i64 (0 : Int), .int .i64 (0 : Int), .int .i64 (0 : Int), .int .i64 (0 : Int), .slice Sl.nil.base Sl.nil.len Sl.nil.cap] c13 (Sl.mk (some (nw vh4)) 1 1) vh11 fun s vh12 =>
              Sub hR1 vh12 ∧
              ∃ a9 : Addr, (some (nw h)) = some a9 ∧
              StOk vh12 (a9.add 5) ∧
              Lt (hset vh12 (a9.add 5) (.slice s.base s.len s.cap)) fun vh13 =>
              ∃ n2, n2 < n1 ∧ vI (iAdd .i64 t12 (1 : Int)) n2 vh13)
            (∃ c19 : Int, hcell vh4 (nw vh2) = some (.int .i64 c19) ∧
              IfB (c19 == (2 : Int)) (∃ c20 : Int, ∃ c21 : Int, ∃ c22 : Int, ∃ c23 : Int, ∃ c24 : Sl, hcell vh4 ((nw vh2)) = some (.int .i64 c20) ∧ hcell vh4 ((nw vh2).add 1) = some (.int .i64 c21) ∧ hcell vh4 ((nw vh2).add 2) = some (.int .i64 c22) ∧ hcell vh4 ((nw vh2).add 3) = some (.int .i64 c23) ∧ hcell vh4 ((nw vh2).add 4) = some (.slice c24.base c24.len c24.cap) ∧
                HCalls Try.prog fn_seglog_scan_commit #[.pointer (some (nw h)), .agg #[.int .i64 c20, .int .i64 c21, .int .i64 c22, .int .i64 c23, .slice c24.base c24.len c24.cap]] vh4 fun r1 vh14 =>
                r1 = .tuple #[] ∧
                ∃ n2, n2 < n1 ∧ vI (iAdd .i64 t12 (1 : Int)) n2 vh14)
              (∃ c25 : Int, hcell vh4 (nw vh2) = some (.int .i64 c25) ∧
                IfB (c25 == (4 : Int)) (∃ c26 : Int, hcell vh4 ((nw vh2).add 2) = some (.int .i64 c26) ∧
                  HCalls Try.prog fn_seglog_scan_mark #[.pointer (some (nw h)), .int .i64 c26] vh4 fun r2 vh15 =>
                  r2 = .tuple #[] ∧
                  ∃ n2, n2 < n1 ∧ vI (iAdd .i64 t12 (1 : Int)) n2 vh15)
                (∃ n2, n2 < n1 ∧ vI (iAdd .i64 t12 (1 : Int)) n2 vh4))))))
      (∃ c27 : Int, hcell vh4 ((nw vh2).add 1) = some (.int .i64 c27) ∧
        ∃ a10 : Addr, (some (nw h)) = some a10 ∧
        ∃ c28 : Int, hcell vh4 (a10.add 2) = some (.int .i64 c28) ∧
        IfB (c27 != c28) (∃ a11 : Addr, (some (nw h)) = some a11 ∧
          StOk vh4 (a11.add 5) ∧
          Lt (hset vh4 (a11.add 5) (.slice Sl.nil.base Sl.nil.len Sl.nil.cap)) fun vh16 =>
          ∃ n2, n2 < n1 ∧ vI (iAdd .i64 t12 (1 : Int)) n2 vh16)
        (∃ c29 : Int, hcell vh4 (nw vh2) = some (.int .i64 c29) ∧
          IfB (c29 == (1 : Int)) (∃ hR2 : Hp, Sub hR2 vh4 ∧
            ∃ a12 : Addr, (some (nw h)) = some a12 ∧
            ∃ c30 : Sl, hcell hR2 (a12.add 5) = some (.slice c30.base c30.len c30.cap) ∧
            ∃ c31 : Int, ∃ c32 : Int, ∃ c33 : Int, ∃ c34 : Int, ∃ c35 : Sl, hcell hR2 ((nw vh2)) = some (.int .i64 c31) ∧ hcell hR2 ((nw vh2).add 1) = some (.int .i64 c32) ∧ hcell hR2 ((nw vh2).add 2) = some (.int .i64 c33) ∧ hcell hR2 ((nw vh2).add 3) = some (.int .i64 c34) ∧ hcell hR2 ((nw vh2).add 4) = some (.slice c35.base c35.len c35.cap) ∧
            let vh17 := alc vh4 [.int .i64 c31, .int .i64 c32, .int .i64 c33, .int .i64 c34, .slice c35.base c35.len c35.cap] ty_frame_Block;
            Sub hR2 vh17 ∧
            AppC ty_frame_Block 5 56 #[.int .i64 (0 : Int), .int .i64 (0 : Int), .int .i64 (0 : Int), .int .i64 (0 : Int), .slice Sl.nil.base Sl.nil.len Sl.nil.cap] c30 (Sl.mk (some (nw vh4)) 1 1) vh17 fun s1 vh18 =>
            Sub hR2 vh18 ∧
            ∃ a13 : Addr, (some (nw h)) = some a13 ∧
            StOk vh18 (a13.add 5) ∧
            Lt (hset vh18 (a13.add 5) (.slice s1.base s1.len s1.cap)) fun vh19 =>
            ∃ n2, n2 < n1 ∧ vI (iAdd .i64 t12 (1 : Int)) n2 vh19)
          (∃ c36 : Int, hcell vh4 (nw vh2) = some (.int .i64 c36) ∧
            IfB (c36 == (2 : Int)) (∃ c37 : Int, ∃ c38 : Int, ∃ c39 : Int, ∃ c40 : Int, ∃ c41 : Sl, hcell vh4 ((nw vh2)) = some (.int .i64 c37) ∧ hcell vh4 ((nw vh2).add 1) = some (.int .i64 c38) ∧ hcell vh4 ((nw vh2).add 2) = some (.int .i64 c39) ∧ hcell vh4 ((nw vh2).add 3) = some (.int .i64 c40) ∧ hcell vh4 ((nw vh2).add 4) = some (.slice c41.base c41.len c41.cap) ∧
              HCalls Try.prog fn_seglog_scan_commit #[.pointer (some (nw h)), .agg #[.int .i64 c37, .int .i64 c38, .int .i64 c39, .int .i64 c40, .slice c41.base c41.len c41.cap]] vh4 fun r3 vh20 =>
              r3 = .tuple #[] ∧
              ∃ n2, n2 < n1 ∧ vI (iAdd .i64 t12 (1 : Int)) n2 vh20)
            (∃ c42 : Int, hcell vh4 (nw vh2) = some (.int .i64 c42) ∧
              IfB (c42 == (4 : Int)) (∃ c43 : Int, hcell vh4 ((nw vh2).add 2) = some (.int .i64 c43) ∧
                HCalls Try.prog fn_seglog_scan_mark #[.pointer (some (nw h)), .int .i64 c43] vh4 fun r4 vh21 =>
                r4 = .tuple #[] ∧
                ∃ n2, n2 < n1 ∧ vI (iAdd .i64 t12 (1 : Int)) n2 vh21)
              (∃ n2, n2 < n1 ∧ vI (iAdd .i64 t12 (1 : Int)) n2 vh4)))))))
  (R (.pointer (some (nw h))) vh1)
theorem seglog_read_vc {blocks : Sl} {h : Hp} {R : Value → Hp → Prop} (H : vcseglog_read blocks h R) : HCalls Try.prog fn_seglog_read #[.slice blocks.base blocks.len blocks.cap] h R :=
  vc_fn (annOfL [(0, [(12, .int .i64)])] [] [9, 13]) Try.func29 [.slice blocks.base blocks.len blocks.cap] (by kernel_rfl) (V := vcseglog_read blocks h R) (by kernel_rfl) H

def vcseglog_scan_mark (s : Option Addr) (k : Int) (h : Hp) (R : Value → Hp → Prop) : Prop :=
  ∃ a : Addr, s = some a ∧
  StOk h (a.add 5) ∧
  Lt (hset h (a.add 5) (.slice Sl.nil.base Sl.nil.len Sl.nil.cap)) fun vh =>
  ∃ a1 : Addr, s = some a1 ∧
  ∃ c : Int, hcell vh (a1.add 3) = some (.int .i64 c) ∧
  IfB (decide (k ≥ c)) (∃ a2 : Addr, s = some a2 ∧
    ∃ c1 : Int, hcell vh (a2.add 3) = some (.int .i64 c1) ∧
    ∃ a3 : Addr, s = some a3 ∧
    ∃ c2 : Sl, hcell vh (a3.add 4) = some (.slice c2.base c2.len c2.cap) ∧
    IfB (decide (k ≤ (iAdd .i64 c1 (c2.len : Int)))) (∃ a4 : Addr, s = some a4 ∧
      ∃ a5 : Addr, s = some a5 ∧
      (∃ c3 : Sl, hcell vh (a4.add 4) = some (.slice c3.base c3.len c3.cap) ∧
        True ∧
        ∃ c4 : Int, hcell vh (a5.add 3) = some (.int .i64 c4) ∧
        True ∧
        0 ≤ (iSub .i64 k c4) ∧ (iSub .i64 k c4) ≤ (c3.len : Int) ∧ (c3.len : Int) ≤ (c3.cap : Int) ∧ (c3.cap : Int) ≤ (c3.cap : Int) ∧
        ∃ a6 : Addr, s = some a6 ∧
        StOk vh (a6.add 4) ∧
        Lt (hset vh (a6.add 4) (.slice (cutSl c3 (iSub .i64 k c4) (c3.len : Int) (c3.cap : Int) 1).base (cutSl c3 (iSub .i64 k c4) (c3.len : Int) (c3.cap : Int) 1).len (cutSl c3 (iSub .i64 k c4) (c3.len : Int) (c3.cap : Int) 1).cap)) fun vh1 =>
        True ∧
        ∃ a7 : Addr, s = some a7 ∧
        StOk vh1 (a7.add 3) ∧
        Lt (hset vh1 (a7.add 3) (.int .i64 k)) fun vh2 =>
        R (.tuple #[]) vh2) ∧
      (∃ c5 : Int, hcell vh (a5.add 3) = some (.int .i64 c5) ∧
        True ∧
        ∃ c6 : Sl, hcell vh (a4.add 4) = some (.slice c6.base c6.len c6.cap) ∧
        True ∧
        0 ≤ (iSub .i64 k c5) ∧ (iSub .i64 k c5) ≤ (c6.len : Int) ∧ (c6.len : Int) ≤ (c6.cap : Int) ∧ (c6.cap : Int) ≤ (c6.cap : Int) ∧
        ∃ a8 : Addr, s = some a8 ∧
        StOk vh (a8.add 4) ∧
        Lt (hset vh (a8.add 4) (.slice (cutSl c6 (iSub .i64 k c5) (c6.len : Int) (c6.cap : Int) 1).base (cutSl c6 (iSub .i64 k c5) (c6.len : Int) (c6.cap : Int) 1).len (cutSl c6 (iSub .i64 k c5) (c6.len : Int) (c6.cap : Int) 1).cap)) fun vh3 =>
        True ∧
        ∃ a9 : Addr, s = some a9 ∧
        StOk vh3 (a9.add 3) ∧
        Lt (hset vh3 (a9.add 3) (.int .i64 k)) fun vh4 =>
        R (.tuple #[]) vh4))
    (R (.tuple #[]) vh))
  (R (.tuple #[]) vh)
theorem seglog_scan_mark_vc {s : Option Addr} {k : Int} {h : Hp} {R : Value → Hp → Prop} (H : vcseglog_scan_mark s k h R) : HCalls Try.prog fn_seglog_scan_mark #[.pointer s, .int .i64 k] h R :=
  vc_fn (annOfB [] [] [] [2]) Try.func51 [.pointer s, .int .i64 k] (by kernel_rfl) (V := vcseglog_scan_mark s k h R) (by kernel_rfl) H

def vcseglog_scan_commit (s : Option Addr) (c : Int) (c1 : Int) (c2 : Int) (c3 : Int) (c4 : Sl) (h : Hp) (R : Value → Hp → Prop) : Prop :=
  let vh := alc h [.int .i64 c, .int .i64 c1, .int .i64 c2, .int .i64 c3, .slice c4.base c4.len c4.cap] ty_frame_Block;
  ∃ a : Addr, s = some a ∧
  ∃ c5 : Sl, hcell vh (a.add 5) = some (.slice c5.base c5.len c5.cap) ∧
  ∃ a1 : Addr, s = some a1 ∧
  StOk vh (a1.add 5) ∧
  Lt (hset vh (a1.add 5) (.slice Sl.nil.base Sl.nil.len Sl.nil.cap)) fun vh1 =>
  ∃ c6 : Int, hcell vh1 ((nw h).add 3) = some (.int .i64 c6) ∧
  IfB (decide (c6 > (c5.len : Int))) (R (.tuple #[]) vh1)
  (∃ c7 : Int, hcell vh1 ((nw h).add 3) = some (.int .i64 c7) ∧
    0 ≤ (iSub .i64 (c5.len : Int) c7) ∧ (iSub .i64 (c5.len : Int) c7) ≤ (c5.len : Int) ∧ (c5.len : Int) ≤ (c5.cap : Int) ∧ (c5.cap : Int) ≤ (c5.cap : Int) ∧
    ∃ a2 : Addr, s = some a2 ∧
    ∃ c8 : Int, hcell vh1 (a2.add 3) = some (.int .i64 c8) ∧
    ∃ a3 : Addr, s = some a3 ∧
    ∃ c9 : Sl, hcell vh1 (a3.add 4) = some (.slice c9.base c9.len c9.cap) ∧
    ∃ (vI : Int → Nat → Hp → Prop) (n : Nat), vI (0 : Int) n vh1 ∧
    ∀ _junk : Nat → Value, ∀ t39 : Int, ∀ (n1 : Nat) (vh2 : Hp), vI t39 n1 vh2 →
    IfB (decide (t39 < ((cutSl c5 (iSub .i64 (c5.len : Int) c7) (c5.len : Int) (c5.cap : Int) 5).len : Int))) (∃ a4 : Addr, (cutSl c5 (iSub .i64 (c5.len : Int) c7) (c5.len : Int) (c5.cap : Int) 5).base = some a4 ∧ 0 ≤ t39 ∧ t39 < ((cutSl c5 (iSub .i64 (c5.len : Int) c7) (c5.len : Int) (c5.cap : Int) 5).len : Int) ∧
      ∃ c10 : Int, ∃ c11 : Int, ∃ c12 : Int, ∃ c13 : Int, ∃ c14 : Sl, hcell vh2 ((a4.add ((t39).toNat * 5))) = some (.int .i64 c10) ∧ hcell vh2 ((a4.add ((t39).toNat * 5)).add 1) = some (.int .i64 c11) ∧ hcell vh2 ((a4.add ((t39).toNat * 5)).add 2) = some (.int .i64 c12) ∧ hcell vh2 ((a4.add ((t39).toNat * 5)).add 3) = some (.int .i64 c13) ∧ hcell vh2 ((a4.add ((t39).toNat * 5)).add 4) = some (.slice c14.base c14.len c14.cap) ∧
      let vh3 := alc vh2 [.int .i64 (0 : Int), .int .i64 (0 : Int), .int .i64 (0 : Int), .int .i64 (0 : Int), .slice Sl.nil.base Sl.nil.len Sl.nil.cap] ty_frame_Block;
      stCells (nw vh2) 0 [.int .i64 c10, .int .i64 c11, .int .i64 c12, .int .i64 c13, .slice c14.base c14.len c14.cap] vh3 fun vh4 =>
      ∃ c15 : Int, hcell vh4 ((nw vh2).add 2) = some (.int .i64 c15) ∧
      IfB (c15 != (iAdd .i64 (iAdd .i64 c8 (c9.len : Int)) t39)) (R (.tuple #[]) vh4)
      (∃ n2, n2 < n1 ∧ vI (iAdd .i64 t39 (1 : Int)) n2 vh4))
    (∃ c16 : Sl, hcell vh2 ((nw h).add 4) = some (.slice c16.base c16.len c16.cap) ∧
      HCalls Try.prog fn_seglog_bodies #[.slice (cutSl c5 (iSub .i64 (c5.len : Int) c7) (c5.len : Int) (c5.cap : Int) 5).base (cutSl c5 (iSub .i64 (c5.len : Int) c7) (c5.len : Int) (c5.cap : Int) 5).len (cutSl c5 (iSub .i64 (c5.len : Int) c7) (c5.len : Int) (c5.cap : Int) 5).cap] vh2 fun r vh5 =>
      ∃ c17 : Sl, r = .slice c17.base c17.len c17.cap ∧
      Ext vh2 vh5 ∧
      HCalls Try.prog fn_seglog_sum #[.slice c17.base c17.len c17.cap] vh5 fun r1 vh6 =>
      ∃ c18 : Sl, r1 = .slice c18.base c18.len c18.cap ∧
      Ext vh2 vh6 ∧
      HCalls Try.prog fn_slices_Equal_sbytebyte #[.slice c16.base c16.len c16.cap, .slice c18.base c18.len c18.cap] vh6 fun r2 vh7 =>
      ∃ c19 : Bool, r2 = .bool c19 ∧
      Ext vh2 vh7 ∧
      IfB (!c19) (R (.tuple #[]) vh7)
      (∃ a5 : Addr, s = some a5 ∧
        StOk vh7 (a5.add 1) ∧
        Lt (hset vh7 (a5.add 1) (.bool true)) fun vh8 =>
        ∃ hR : Hp, Sub hR vh8 ∧
        ∃ a6 : Addr, s = some a6 ∧
        ∃ c20 : Sl, hcell hR (a6.add 4) = some (.slice c20.base c20.len c20.cap) ∧
        HCalls Try.prog fn_seglog_bodies #[.slice (cutSl c5 (iSub .i64 (c5.len : Int) c7) (c5.len : Int) (c5.cap : Int) 5).base (cutSl c5 (iSub .i64 (c5.len : Int) c7) (c5.len : Int) (c5.cap : Int) 5).len (cutSl c5 (iSub .i64 (c5.len : Int) c7) (c5.len : Int) (c5.cap : Int) 5).cap] vh8 fun r3 vh9 =>
        ∃ c21 : Sl, r3 = .slice c21.base c21.len c21.cap ∧
        Sub hR vh9 ∧
        AppC ty_suint8 1 24 #[.slice Sl.nil.base Sl.nil.len Sl.nil.cap] c20 c21 vh9 fun s1 vh10 =>
        Sub hR vh10 ∧
        ∃ a7 : Addr, s = some a7 ∧
        StOk vh10 (a7.add 4) ∧
        Lt (hset vh10 (a7.add 4) (.slice s1.base s1.len s1.cap)) fun vh11 =>
        R (.tuple #[]) vh11)))
theorem seglog_scan_commit_vc {s : Option Addr} {c : Int} {c1 : Int} {c2 : Int} {c3 : Int} {c4 : Sl} {h : Hp} {R : Value → Hp → Prop} (H : vcseglog_scan_commit s c c1 c2 c3 c4 h R) : HCalls Try.prog fn_seglog_scan_commit #[.pointer s, .agg #[.int .i64 c, .int .i64 c1, .int .i64 c2, .int .i64 c3, .slice c4.base c4.len c4.cap]] h R :=
  vc_fn (annOfL [(0, [(39, .int .i64)])] [] [13]) Try.func50 [.pointer s, .agg #[.int .i64 c, .int .i64 c1, .int .i64 c2, .int .i64 c3, .slice c4.base c4.len c4.cap]] (by kernel_rfl) (V := vcseglog_scan_commit s c c1 c2 c3 c4 h R) (by kernel_rfl) H

def vcseglog_Log_Append (l : Option Addr) (records : Sl) (h : Hp) (R : Value → Hp → Prop) : Prop :=
  IfB ((records.len : Int) == (0 : Int)) (R (.tuple #[.int .i64 (0 : Int), .int .i64 (1 : Int)]) h)
  (IfB (decide ((records.len : Int) > (40 : Int))) (R (.tuple #[.int .i64 (0 : Int), .int .i64 (7 : Int)]) h)
    (HCalls Try.prog fn_slices_ContainsFunc_ssbytesbyte #[.slice records.base records.len records.cap, .func (.func 33) #[] #[]] h fun r vh =>
      ∃ c : Bool, r = .bool c ∧
      IfB c (R (.tuple #[.int .i64 (0 : Int), .int .i64 (7 : Int)]) vh)
      (HCalls Try.prog fn_seglog_Log_Dead #[.pointer l] vh fun r1 vh1 =>
        ∃ c1 : Bool, r1 = .bool c1 ∧
        IfB c1 (R (.tuple #[.int .i64 (0 : Int), .int .i64 (12 : Int)]) vh1)
        (HCalls Try.prog fn_seglog_Log_Len #[.pointer l] vh1 fun r2 vh2 =>
          ∃ c2 : Int, r2 = .int .i64 c2 ∧
          ∃ a : Addr, l = some a ∧
          ∃ c3 : Sl, hcell vh2 (a.add 8) = some (.slice c3.base c3.len c3.cap) ∧
          HCalls Try.prog fn_slices_Clone_ssbytesbyte #[.slice c3.base c3.len c3.cap] vh2 fun r3 vh3 =>
          ∃ c4 : Sl, r3 = .slice c4.base c4.len c4.cap ∧
          ∃ (vI : Sl → Int → Nat → Hp → Prop) (n : Nat), vI c4 (0 : Int) n vh3 ∧
          ∀ _junk : Nat → Value, ∀ all : Sl, ∀ t34 : Int, ∀ (n1 : Nat) (vh4 : Hp), vI all t34 n1 vh4 →
          IfB (decide (t34 < (records.len : Int))) (∃ a1 : Addr, records.base = some a1 ∧ 0 ≤ t34 ∧ t34 < (records.len : Int) ∧
            ∃ c5 : Sl, hcell vh4 (a1.add ((t34).toNat * 1)) = some (.slice c5.base c5.len c5.cap) ∧
            HCalls Try.prog fn_slices_Clone_sbytebyte #[.slice c5.base c5.len c5.cap] vh4 fun r4 vh5 =>
            ∃ c6 : Sl, r4 = .slice c6.base c6.len c6.cap ∧
            let vh6 := alc vh5 [.slice c6.base c6.len c6.cap] ty_suint8;
            AppC ty_suint8 1 24 #[.slice Sl.nil.base Sl.nil.len Sl.nil.cap] all (Sl.mk (some (nw vh5)) 1 1) vh6 fun s vh7 =>
            ∃ n2, n2 < n1 ∧ vI s (iAdd .i64 t34 (1 : Int)) n2 vh7)
          (∃ a2 : Addr, l = some a2 ∧
            ∃ a3 : Addr, l = some a3 ∧
            (∃ c7 : Int, hcell vh4 (a2.add 5) = some (.int .i64 c7) ∧
              True ∧
              (HCalls Try.prog fn_seglog_group #[.int .i64 c7, .int .i64 c2, .slice records.base records.len records.cap] vh4 fun r5 vh8 =>
                ∃ c8 : Sl, r5 = .slice c8.base c8.len c8.cap ∧
                True ∧
                ∃ c9 : Int, hcell vh8 (a3.add 7) = some (.int .i64 c9) ∧
                True ∧
                HCalls Try.prog fn_seglog_Log_put #[.pointer l, .slice c8.base c8.len c8.cap, .int .i64 c9, .slice all.base all.len all.cap] vh8 fun r6 vh9 =>
                ∃ c10 : Int, r6 = .int .i64 c10 ∧
                True ∧
                IfB (c10 != (0 : Int)) (R (.tuple #[.int .i64 (0 : Int), .int .i64 c10]) vh9)
                (R (.tuple #[.int .i64 c2, .int .i64 (0 : Int)]) vh9)) ∧
              (∃ c11 : Int, hcell vh4 (a3.add 7) = some (.int .i64 c11) ∧
                True ∧
                HCalls Try.prog fn_seglog_group #[.int .i64 c7, .int .i64 c2, .slice records.base records.len records.cap] vh4 fun r7 vh10 =>
                ∃ c12 : Sl, r7 = .slice c12.base c12.len c12.cap ∧
                True ∧
                HCalls Try.prog fn_seglog_Log_put #[.pointer l, .slice c12.base c12.len c12.cap, .int .i64 c11, .slice all.base all.len all.cap] vh10 fun r8 vh11 =>
                ∃ c13 : Int, r8 = .int .i64 c13 ∧
                True ∧
                IfB (c13 != (0 : Int)) (R (.tuple #[.int .i64 (0 : Int), .int .i64 c13]) vh11)
                (R (.tuple #[.int .i64 c2, .int .i64 (0 : Int)]) vh11))) ∧
            (∃ c14 : Int, hcell vh4 (a3.add 7) = some (.int .i64 c14) ∧
              True ∧
              ∃ c15 : Int, hcell vh4 (a2.add 5) = some (.int .i64 c15) ∧
              True ∧
              HCalls Try.prog fn_seglog_group #[.int .i64 c15, .int .i64 c2, .slice records.base records.len records.cap] vh4 fun r9 vh12 =>
              ∃ c16 : Sl, r9 = .slice c16.base c16.len c16.cap ∧
              True ∧
              HCalls Try.prog fn_seglog_Log_put #[.pointer l, .slice c16.base c16.len c16.cap, .int .i64 c14, .slice all.base all.len all.cap] vh12 fun r10 vh13 =>
              ∃ c17 : Int, r10 = .int .i64 c17 ∧
              True ∧
              IfB (c17 != (0 : Int)) (R (.tuple #[.int .i64 (0 : Int), .int .i64 c17]) vh13)
              (R (.tuple #[.int .i64 c2, .int .i64 (0 : Int)]) vh13)))))))
theorem seglog_Log_Append_vc {l : Option Addr} {records : Sl} {h : Hp} {R : Value → Hp → Prop} (H : vcseglog_Log_Append l records h R) : HCalls Try.prog fn_seglog_Log_Append #[.pointer l, .slice records.base records.len records.cap] h R :=
  vc_fn (annOfB [(0, [(6, .sl), (34, .int .i64)])] [] [] [14]) Try.func14 [.pointer l, .slice records.base records.len records.cap] (by kernel_rfl) (V := vcseglog_Log_Append l records h R) (by kernel_rfl) H

def vcseglog_Log_Trim (l : Option Addr) (k : Int) (h : Hp) (R : Value → Hp → Prop) : Prop :=
  HCalls Try.prog fn_seglog_Log_First #[.pointer l] h fun r vh =>
  ∃ c : Int, r = .int .i64 c ∧
  IfB (decide (k < c)) (R (.int .i64 (14 : Int)) vh)
  (HCalls Try.prog fn_seglog_Log_Len #[.pointer l] vh fun r1 vh1 =>
    ∃ c1 : Int, r1 = .int .i64 c1 ∧
    IfB (decide (k > c1)) (R (.int .i64 (14 : Int)) vh1)
    (HCalls Try.prog fn_seglog_Log_Dead #[.pointer l] vh1 fun r2 vh2 =>
      ∃ c2 : Bool, r2 = .bool c2 ∧
      IfB c2 (R (.int .i64 (12 : Int)) vh2)
      (∃ a : Addr, l = some a ∧
        ∃ c3 : Int, hcell vh2 (a.add 7) = some (.int .i64 c3) ∧
        IfB (k == c3) (R (.int .i64 (0 : Int)) vh2)
        (∃ a1 : Addr, l = some a1 ∧
          ∃ c4 : Int, hcell vh2 (a1.add 5) = some (.int .i64 c4) ∧
          HCalls Try.prog fn_frame_Encode #[.agg #[.int .i64 (4 : Int), .int .i64 c4, .int .i64 k, .int .i64 (0 : Int), .slice Sl.nil.base Sl.nil.len Sl.nil.cap]] vh2 fun r3 vh3 =>
          ∃ c5 : Sl, ∃ c6 : Int, r3 = .tuple #[.slice c5.base c5.len c5.cap, .int .i64 c6] ∧
          ∃ a2 : Addr, l = some a2 ∧
          ∃ a3 : Addr, l = some a3 ∧
          (let vh4 := alc vh3 [.slice c5.base c5.len c5.cap] ty_suint8;
            True ∧
            (∃ c7 : Sl, hcell vh4 (a2.add 8) = some (.slice c7.base c7.len c7.cap) ∧
              True ∧
              ∃ c8 : Int, hcell vh4 (a3.add 7) = some (.int .i64 c8) ∧
              True ∧
              0 ≤ (iSub .i64 k c8) ∧ (iSub .i64 k c8) ≤ (c7.len : Int) ∧ (c7.len : Int) ≤ (c7.cap : Int) ∧ (c7.cap : Int) ≤ (c7.cap : Int) ∧
              HCalls Try.prog fn_slices_Clone_ssbytesbyte #[.slice (cutSl c7 (iSub .i64 k c8) (c7.len : Int) (c7.cap : Int) 1).base (cutSl c7 (iSub .i64 k c8) (c7.len : Int) (c7.cap : Int) 1).len (cutSl c7 (iSub .i64 k c8) (c7.len : Int) (c7.cap : Int) 1).cap] vh4 fun r4 vh5 =>
              ∃ c9 : Sl, r4 = .slice c9.base c9.len c9.cap ∧
              True ∧
              HCalls Try.prog fn_seglog_Log_put #[.pointer l, .slice (Sl.mk (some (nw vh3)) 1 1).base (Sl.mk (some (nw vh3)) 1 1).len (Sl.mk (some (nw vh3)) 1 1).cap, .int .i64 k, .slice c9.base c9.len c9.cap] vh5 fun r5 vh6 =>
              ∃ c10 : Int, r5 = .int .i64 c10 ∧
              True ∧
              R (.int .i64 c10) vh6) ∧
            (∃ c11 : Int, hcell vh4 (a3.add 7) = some (.int .i64 c11) ∧
              True ∧
              ∃ c12 : Sl, hcell vh4 (a2.add 8) = some (.slice c12.base c12.len c12.cap) ∧
              True ∧
              0 ≤ (iSub .i64 k c11) ∧ (iSub .i64 k c11) ≤ (c12.len : Int) ∧ (c12.len : Int) ≤ (c12.cap : Int) ∧ (c12.cap : Int) ≤ (c12.cap : Int) ∧
              HCalls Try.prog fn_slices_Clone_ssbytesbyte #[.slice (cutSl c12 (iSub .i64 k c11) (c12.len : Int) (c12.cap : Int) 1).base (cutSl c12 (iSub .i64 k c11) (c12.len : Int) (c12.cap : Int) 1).len (cutSl c12 (iSub .i64 k c11) (c12.len : Int) (c12.cap : Int) 1).cap] vh4 fun r6 vh7 =>
              ∃ c13 : Sl, r6 = .slice c13.base c13.len c13.cap ∧
              True ∧
              HCalls Try.prog fn_seglog_Log_put #[.pointer l, .slice (Sl.mk (some (nw vh3)) 1 1).base (Sl.mk (some (nw vh3)) 1 1).len (Sl.mk (some (nw vh3)) 1 1).cap, .int .i64 k, .slice c13.base c13.len c13.cap] vh7 fun r7 vh8 =>
              ∃ c14 : Int, r7 = .int .i64 c14 ∧
              True ∧
              R (.int .i64 c14) vh8)) ∧
          (∃ c15 : Sl, hcell vh3 (a2.add 8) = some (.slice c15.base c15.len c15.cap) ∧
            True ∧
            (let vh9 := alc vh3 [.slice c5.base c5.len c5.cap] ty_suint8;
              True ∧
              ∃ c16 : Int, hcell vh9 (a3.add 7) = some (.int .i64 c16) ∧
              True ∧
              0 ≤ (iSub .i64 k c16) ∧ (iSub .i64 k c16) ≤ (c15.len : Int) ∧ (c15.len : Int) ≤ (c15.cap : Int) ∧ (c15.cap : Int) ≤ (c15.cap : Int) ∧
              HCalls Try.prog fn_slices_Clone_ssbytesbyte #[.slice (cutSl c15 (iSub .i64 k c16) (c15.len : Int) (c15.cap : Int) 1).base (cutSl c15 (iSub .i64 k c16) (c15.len : Int) (c15.cap : Int) 1).len (cutSl c15 (iSub .i64 k c16) (c15.len : Int) (c15.cap : Int) 1).cap] vh9 fun r8 vh10 =>
              ∃ c17 : Sl, r8 = .slice c17.base c17.len c17.cap ∧
              True ∧
              HCalls Try.prog fn_seglog_Log_put #[.pointer l, .slice (Sl.mk (some (nw vh3)) 1 1).base (Sl.mk (some (nw vh3)) 1 1).len (Sl.mk (some (nw vh3)) 1 1).cap, .int .i64 k, .slice c17.base c17.len c17.cap] vh10 fun r9 vh11 =>
              ∃ c18 : Int, r9 = .int .i64 c18 ∧
              True ∧
              R (.int .i64 c18) vh11) ∧
            (∃ c19 : Int, hcell vh3 (a3.add 7) = some (.int .i64 c19) ∧
              True ∧
              0 ≤ (iSub .i64 k c19) ∧ (iSub .i64 k c19) ≤ (c15.len : Int) ∧ (c15.len : Int) ≤ (c15.cap : Int) ∧ (c15.cap : Int) ≤ (c15.cap : Int) ∧
              (let vh12 := alc vh3 [.slice c5.base c5.len c5.cap] ty_suint8;
                True ∧
                HCalls Try.prog fn_slices_Clone_ssbytesbyte #[.slice (cutSl c15 (iSub .i64 k c19) (c15.len : Int) (c15.cap : Int) 1).base (cutSl c15 (iSub .i64 k c19) (c15.len : Int) (c15.cap : Int) 1).len (cutSl c15 (iSub .i64 k c19) (c15.len : Int) (c15.cap : Int) 1).cap] vh12 fun r10 vh13 =>
                ∃ c20 : Sl, r10 = .slice c20.base c20.len c20.cap ∧
                True ∧
                HCalls Try.prog fn_seglog_Log_put #[.pointer l, .slice (Sl.mk (some (nw vh3)) 1 1).base (Sl.mk (some (nw vh3)) 1 1).len (Sl.mk (some (nw vh3)) 1 1).cap, .int .i64 k, .slice c20.base c20.len c20.cap] vh13 fun r11 vh14 =>
                ∃ c21 : Int, r11 = .int .i64 c21 ∧
                True ∧
                R (.int .i64 c21) vh14) ∧
              (HCalls Try.prog fn_slices_Clone_ssbytesbyte #[.slice (cutSl c15 (iSub .i64 k c19) (c15.len : Int) (c15.cap : Int) 1).base (cutSl c15 (iSub .i64 k c19) (c15.len : Int) (c15.cap : Int) 1).len (cutSl c15 (iSub .i64 k c19) (c15.len : Int) (c15.cap : Int) 1).cap] vh3 fun r12 vh15 =>
                ∃ c22 : Sl, r12 = .slice c22.base c22.len c22.cap ∧
                True ∧
                let vh16 := alc vh15 [.slice c5.base c5.len c5.cap] ty_suint8;
                True ∧
                HCalls Try.prog fn_seglog_Log_put #[.pointer l, .slice (Sl.mk (some (nw vh15)) 1 1).base (Sl.mk (some (nw vh15)) 1 1).len (Sl.mk (some (nw vh15)) 1 1).cap, .int .i64 k, .slice c22.base c22.len c22.cap] vh16 fun r13 vh17 =>
                ∃ c23 : Int, r13 = .int .i64 c23 ∧
                True ∧
                R (.int .i64 c23) vh17))) ∧
          (∃ c24 : Int, hcell vh3 (a3.add 7) = some (.int .i64 c24) ∧
            True ∧
            (let vh18 := alc vh3 [.slice c5.base c5.len c5.cap] ty_suint8;
              True ∧
              ∃ c25 : Sl, hcell vh18 (a2.add 8) = some (.slice c25.base c25.len c25.cap) ∧
              True ∧
              0 ≤ (iSub .i64 k c24) ∧ (iSub .i64 k c24) ≤ (c25.len : Int) ∧ (c25.len : Int) ≤ (c25.cap : Int) ∧ (c25.cap : Int) ≤ (c25.cap : Int) ∧
              HCalls Try.prog fn_slices_Clone_ssbytesbyte #[.slice (cutSl c25 (iSub .i64 k c24) (c25.len : Int) (c25.cap : Int) 1).base (cutSl c25 (iSub .i64 k c24) (c25.len : Int) (c25.cap : Int) 1).len (cutSl c25 (iSub .i64 k c24) (c25.len : Int) (c25.cap : Int) 1).cap] vh18 fun r14 vh19 =>
              ∃ c26 : Sl, r14 = .slice c26.base c26.len c26.cap ∧
              True ∧
              HCalls Try.prog fn_seglog_Log_put #[.pointer l, .slice (Sl.mk (some (nw vh3)) 1 1).base (Sl.mk (some (nw vh3)) 1 1).len (Sl.mk (some (nw vh3)) 1 1).cap, .int .i64 k, .slice c26.base c26.len c26.cap] vh19 fun r15 vh20 =>
              ∃ c27 : Int, r15 = .int .i64 c27 ∧
              True ∧
              R (.int .i64 c27) vh20) ∧
            (∃ c28 : Sl, hcell vh3 (a2.add 8) = some (.slice c28.base c28.len c28.cap) ∧
              True ∧
              0 ≤ (iSub .i64 k c24) ∧ (iSub .i64 k c24) ≤ (c28.len : Int) ∧ (c28.len : Int) ≤ (c28.cap : Int) ∧ (c28.cap : Int) ≤ (c28.cap : Int) ∧
              (let vh21 := alc vh3 [.slice c5.base c5.len c5.cap] ty_suint8;
                True ∧
                HCalls Try.prog fn_slices_Clone_ssbytesbyte #[.slice (cutSl c28 (iSub .i64 k c24) (c28.len : Int) (c28.cap : Int) 1).base (cutSl c28 (iSub .i64 k c24) (c28.len : Int) (c28.cap : Int) 1).len (cutSl c28 (iSub .i64 k c24) (c28.len : Int) (c28.cap : Int) 1).cap] vh21 fun r16 vh22 =>
                ∃ c29 : Sl, r16 = .slice c29.base c29.len c29.cap ∧
                True ∧
                HCalls Try.prog fn_seglog_Log_put #[.pointer l, .slice (Sl.mk (some (nw vh3)) 1 1).base (Sl.mk (some (nw vh3)) 1 1).len (Sl.mk (some (nw vh3)) 1 1).cap, .int .i64 k, .slice c29.base c29.len c29.cap] vh22 fun r17 vh23 =>
                ∃ c30 : Int, r17 = .int .i64 c30 ∧
                True ∧
                R (.int .i64 c30) vh23) ∧
              (HCalls Try.prog fn_slices_Clone_ssbytesbyte #[.slice (cutSl c28 (iSub .i64 k c24) (c28.len : Int) (c28.cap : Int) 1).base (cutSl c28 (iSub .i64 k c24) (c28.len : Int) (c28.cap : Int) 1).len (cutSl c28 (iSub .i64 k c24) (c28.len : Int) (c28.cap : Int) 1).cap] vh3 fun r18 vh24 =>
                ∃ c31 : Sl, r18 = .slice c31.base c31.len c31.cap ∧
                True ∧
                let vh25 := alc vh24 [.slice c5.base c5.len c5.cap] ty_suint8;
                True ∧
                HCalls Try.prog fn_seglog_Log_put #[.pointer l, .slice (Sl.mk (some (nw vh24)) 1 1).base (Sl.mk (some (nw vh24)) 1 1).len (Sl.mk (some (nw vh24)) 1 1).cap, .int .i64 k, .slice c31.base c31.len c31.cap] vh25 fun r19 vh26 =>
                ∃ c32 : Int, r19 = .int .i64 c32 ∧
                True ∧
                R (.int .i64 c32) vh26)))))))
theorem seglog_Log_Trim_vc {l : Option Addr} {k : Int} {h : Hp} {R : Value → Hp → Prop} (H : vcseglog_Log_Trim l k h R) : HCalls Try.prog fn_seglog_Log_Trim #[.pointer l, .int .i64 k] h R :=
  vc_fn (annOfB [] [] [] [8]) Try.func16 [.pointer l, .int .i64 k] (by kernel_rfl) (V := vcseglog_Log_Trim l k h R) (by kernel_rfl) H

def vcseglog_Log_blocks (l : Option Addr) (half : Int) (h : Hp) (R : Value → Hp → Prop) : Prop :=
  ∃ a : Addr, l = some a ∧
  ∃ c : Int, hcell h (a.add 2) = some (.int .i64 c) ∧
  ∃ (vI : Sl → Int → Nat → Hp → Prop) (n : Nat), vI Sl.nil (0 : Int) n h ∧
  ∀ _junk : Nat → Value, ∀ out : Sl, ∀ t15 : Int, ∀ (n1 : Nat) (vh : Hp), vI out t15 n1 vh →
  IfB (decide (t15 < c)) (∃ a1 : Addr, l = some a1 ∧
    ∃ c1 : Option Addr, hcell vh a1 = some (.pointer c1) ∧
    HCalls Try.prog fn_seglog_Log_zone #[.pointer l, .int .i64 half, .int .i64 t15] vh fun r vh1 =>
    ∃ c2 : Int, r = .int .i64 c2 ∧
    Ext vh vh1 ∧
    HCalls Try.prog fn_zdev_Dev_Pointer #[.pointer c1, .int .i64 c2] vh1 fun r1 vh2 =>
    ∃ c3 : Int, ∃ c4 : Int, r1 = .tuple #[.int .i64 c3, .int .i64 c4] ∧
    Ext vh vh2 ∧
    ∃ (vI1 : Sl → Int → Nat → Hp → Prop) (n3 : Nat), vI1 out (0 : Int) n3 vh2 ∧
    ∀ _junk : Nat → Value, ∀ out1 : Sl, ∀ t31 : Int, ∀ (n4 : Nat) (vh3 : Hp), vI1 out1 t31 n4 vh3 →
    IfB (decide (t31 < c3)) (∃ hR : Hp, Sub hR vh3 ∧
      ∃ a2 : Addr, l = some a2 ∧
      ∃ c5 : Option Addr, hcell hR a2 = some (.pointer c5) ∧
      HCalls Try.prog fn_seglog_Log_zone #[.pointer l, .int .i64 half, .int .i64 t15] vh3 fun r2 vh4 =>
      ∃ c6 : Int, r2 = .int .i64 c6 ∧
      Sub hR vh4 ∧
      HCalls Try.prog fn_zdev_Dev_Read #[.pointer c5, .int .i64 c6, .int .i64 t31] vh4 fun r3 vh5 =>
      ∃ c7 : Sl, ∃ c8 : Int, r3 = .tuple #[.slice c7.base c7.len c7.cap, .int .i64 c8] ∧
      Sub hR vh5 ∧
      let vh6 := alc vh5 [.slice c7.base c7.len c7.cap] ty_suint8;
      AppC ty_suint8 1 24 #[.slice Sl.nil.base Sl.nil.len Sl.nil.cap] out1 (Sl.mk (some (nw vh5)) 1 1) vh6 fun s vh7 =>
      ∃ n5, n5 < n4 ∧ vI1 s (iAdd .i64 t31 (1 : Int)) n5 vh7)
    (∃ a3 : Addr, l = some a3 ∧
      ∃ c9 : Int, hcell vh3 (a3.add 3) = some (.int .i64 c9) ∧
      IfB (decide (c3 < c9)) (R (.slice out1.base out1.len out1.cap) vh3)
      (∃ n2, n2 < n1 ∧ vI out1 (iAdd .i64 t15 (1 : Int)) n2 vh3)))
  (R (.slice out.base out.len out.cap) vh)
theorem seglog_Log_blocks_vc {l : Option Addr} {half : Int} {h : Hp} {R : Value → Hp → Prop} (H : vcseglog_Log_blocks l half h R) : HCalls Try.prog fn_seglog_Log_blocks #[.pointer l, .int .i64 half] h R :=
  vc_fn (annOfL [(0, [(4, .sl), (15, .int .i64)]), (1, [(4, .sl), (31, .int .i64)])] [] [8]) Try.func27 [.pointer l, .int .i64 half] (by kernel_rfl) (V := vcseglog_Log_blocks l half h R) (by kernel_rfl) H

def vcseglog_Log_mend (l : Option Addr) (h : Hp) (R : Value → Hp → Prop) : Prop :=
  ∃ a : Addr, l = some a ∧
  ∃ c : Int, hcell h (a.add 2) = some (.int .i64 c) ∧
  ∃ (vI : Int → Nat → Hp → Prop) (n : Nat), vI (0 : Int) n h ∧
  ∀ _junk : Nat → Value, ∀ t11 : Int, ∀ (n1 : Nat) (vh : Hp), vI t11 n1 vh →
  IfB (decide (t11 < c)) (∃ a1 : Addr, l = some a1 ∧
    ∃ c1 : Option Addr, hcell vh a1 = some (.pointer c1) ∧
    ∃ a2 : Addr, l = some a2 ∧
    ∃ c2 : Int, hcell vh (a2.add 4) = some (.int .i64 c2) ∧
    HCalls Try.prog fn_seglog_Log_zone #[.pointer l, .int .i64 c2, .int .i64 t11] vh fun r vh1 =>
    ∃ c3 : Int, r = .int .i64 c3 ∧
    Ext vh vh1 ∧
    HCalls Try.prog fn_zdev_Dev_Pointer #[.pointer c1, .int .i64 c3] vh1 fun r1 vh2 =>
    ∃ c4 : Int, ∃ c5 : Int, r1 = .tuple #[.int .i64 c4, .int .i64 c5] ∧
    Ext vh vh2 ∧
    IfB (c4 == (0 : Int)) (∃ n2, n2 < n1 ∧ vI (iAdd .i64 t11 (1 : Int)) n2 vh2)
    (∃ a3 : Addr, l = some a3 ∧
      ∃ c6 : Int, hcell vh2 (a3.add 3) = some (.int .i64 c6) ∧
      ∃ a4 : Addr, l = some a4 ∧
      ∃ c7 : Int, hcell vh2 (a4.add 6) = some (.int .i64 c7) ∧
      IfB (decide ((iMul .i64 t11 c6) < c7)) (∃ n2, n2 < n1 ∧ vI (iAdd .i64 t11 (1 : Int)) n2 vh2)
      (∃ hR : Hp, Sub hR vh2 ∧
        ∃ a5 : Addr, l = some a5 ∧
        ∃ c8 : Option Addr, hcell hR a5 = some (.pointer c8) ∧
        ∃ a6 : Addr, l = some a6 ∧
        ∃ c9 : Int, hcell hR (a6.add 4) = some (.int .i64 c9) ∧
        HCalls Try.prog fn_seglog_Log_zone #[.pointer l, .int .i64 c9, .int .i64 t11] vh2 fun r2 vh3 =>
        ∃ c10 : Int, r2 = .int .i64 c10 ∧
        Sub hR vh3 ∧
        HCalls Try.prog fn_zdev_Dev_Reset #[.pointer c8, .int .i64 c10] vh3 fun r3 vh4 =>
        ∃ c11 : Int, r3 = .int .i64 c11 ∧
        Sub hR vh4 ∧
        IfB (c11 != (0 : Int)) (R (.int .i64 c11) vh4)
        (∃ n2, n2 < n1 ∧ vI (iAdd .i64 t11 (1 : Int)) n2 vh4))))
  (∃ a7 : Addr, l = some a7 ∧
    ∃ c12 : Option Addr, hcell vh a7 = some (.pointer c12) ∧
    HCalls Try.prog fn_zdev_Dev_Flush #[.pointer c12] vh fun r4 vh5 =>
    ∃ c13 : Int, r4 = .int .i64 c13 ∧
    R (.int .i64 c13) vh5)
theorem seglog_Log_mend_vc {l : Option Addr} {h : Hp} {R : Value → Hp → Prop} (H : vcseglog_Log_mend l h R) : HCalls Try.prog fn_seglog_Log_mend #[.pointer l] h R :=
  vc_fn (annOfL [(0, [(11, .int .i64)])] [] [6]) Try.func30 [.pointer l] (by kernel_rfl) (V := vcseglog_Log_mend l h R) (by kernel_rfl) H

def vcseglog_Log_write (l : Option Addr) (half : Int) (pos : Int) (blocks : Sl) (h : Hp) (R : Value → Hp → Prop) : Prop :=
  ∃ (vI : Int → Nat → Hp → Prop) (n : Nat), vI (0 : Int) n h ∧
  ∀ _junk : Nat → Value, ∀ t15 : Int, ∀ (n1 : Nat) (vh : Hp), vI t15 n1 vh →
  IfB (decide (t15 < (blocks.len : Int))) (∃ a : Addr, blocks.base = some a ∧ 0 ≤ t15 ∧ t15 < (blocks.len : Int) ∧
    ∃ c : Sl, hcell vh (a.add ((t15).toNat * 1)) = some (.slice c.base c.len c.cap) ∧
    ∃ hR : Hp, Sub hR vh ∧
    ∃ a1 : Addr, l = some a1 ∧
    ∃ c1 : Option Addr, hcell hR a1 = some (.pointer c1) ∧
    ∃ a2 : Addr, l = some a2 ∧
    ∃ c2 : Int, hcell hR (a2.add 3) = some (.int .i64 c2) ∧
    c2 ≠ 0 ∧
    HCalls Try.prog fn_seglog_Log_zone #[.pointer l, .int .i64 half, .int .i64 (iQuo .i64 (iAdd .i64 pos t15) c2)] vh fun r vh1 =>
    ∃ c3 : Int, r = .int .i64 c3 ∧
    Sub hR vh1 ∧
    HCalls Try.prog fn_zdev_Dev_Append #[.pointer c1, .int .i64 c3, .slice c.base c.len c.cap] vh1 fun r1 vh2 =>
    ∃ c4 : Int, ∃ c5 : Int, r1 = .tuple #[.int .i64 c4, .int .i64 c5] ∧
    Sub hR vh2 ∧
    IfB (c5 != (0 : Int)) (R (.int .i64 c5) vh2)
    (∃ n2, n2 < n1 ∧ vI (iAdd .i64 t15 (1 : Int)) n2 vh2))
  (∃ a3 : Addr, l = some a3 ∧
    ∃ c6 : Option Addr, hcell vh a3 = some (.pointer c6) ∧
    HCalls Try.prog fn_zdev_Dev_Flush #[.pointer c6] vh fun r2 vh3 =>
    ∃ c7 : Int, r2 = .int .i64 c7 ∧
    R (.int .i64 c7) vh3)
theorem seglog_Log_write_vc {l : Option Addr} {half : Int} {pos : Int} {blocks : Sl} {h : Hp} {R : Value → Hp → Prop} (H : vcseglog_Log_write l half pos blocks h R) : HCalls Try.prog fn_seglog_Log_write #[.pointer l, .int .i64 half, .int .i64 pos, .slice blocks.base blocks.len blocks.cap] h R :=
  vc_fn (annOfL [(0, [(15, .int .i64)])] [] [4]) Try.func56 [.pointer l, .int .i64 half, .int .i64 pos, .slice blocks.base blocks.len blocks.cap] (by kernel_rfl) (V := vcseglog_Log_write l half pos blocks h R) (by kernel_rfl) H

def vcseglog_Log_turn (l : Option Addr) (first : Int) (records : Sl) (h : Hp) (R : Value → Hp → Prop) : Prop :=
  ∃ a : Addr, l = some a ∧
  ∃ c : Int, hcell h (a.add 4) = some (.int .i64 c) ∧
  ∃ a1 : Addr, l = some a1 ∧
  ∃ c1 : Int, hcell h (a1.add 5) = some (.int .i64 c1) ∧
  HCalls Try.prog fn_seglog_Log_room #[.pointer l] h fun r vh =>
  ∃ c2 : Int, r = .int .i64 c2 ∧
  IfB (decide ((iAdd .i64 (records.len : Int) (2 : Int)) > c2)) (R (.int .i64 (9 : Int)) vh)
  (∃ a2 : Addr, l = some a2 ∧
    ∃ c3 : Int, hcell vh (a2.add 2) = some (.int .i64 c3) ∧
    ∃ (vI : Int → Nat → Hp → Prop) (n : Nat), vI (0 : Int) n vh ∧
    ∀ _junk : Nat → Value, ∀ t37 : Int, ∀ (n1 : Nat) (vh1 : Hp), vI t37 n1 vh1 →
    IfB (decide (t37 < c3)) (∃ a3 : Addr, l = some a3 ∧
      ∃ c4 : Option Addr, hcell vh1 a3 = some (.pointer c4) ∧
      HCalls Try.prog fn_seglog_Log_zone #[.pointer l, .int .i64 (iSub .i64 (1 : Int) c), .int .i64 t37] vh1 fun r1 vh2 =>
      ∃ c5 : Int, r1 = .int .i64 c5 ∧
      Ext vh1 vh2 ∧
      HCalls Try.prog fn_zdev_Dev_Pointer #[.pointer c4, .int .i64 c5] vh2 fun r2 vh3 =>
      ∃ c6 : Int, ∃ c7 : Int, r2 = .tuple #[.int .i64 c6, .int .i64 c7] ∧
      Ext vh1 vh3 ∧
      IfB (decide (c6 > (0 : Int))) (∃ hR : Hp, Sub hR vh3 ∧
        ∃ a4 : Addr, l = some a4 ∧
        ∃ c8 : Option Addr, hcell hR a4 = some (.pointer c8) ∧
        HCalls Try.prog fn_seglog_Log_zone #[.pointer l, .int .i64 (iSub .i64 (1 : Int) c), .int .i64 t37] vh3 fun r3 vh4 =>
        ∃ c9 : Int, r3 = .int .i64 c9 ∧
        Sub hR vh4 ∧
        HCalls Try.prog fn_zdev_Dev_Reset #[.pointer c8, .int .i64 c9] vh4 fun r4 vh5 =>
        ∃ c10 : Int, r4 = .int .i64 c10 ∧
        Sub hR vh5 ∧
        IfB (c10 != (0 : Int)) (R (.int .i64 c10) vh5)
        (∃ n2, n2 < n1 ∧ vI (iAdd .i64 t37 (1 : Int)) n2 vh5))
      (∃ n2, n2 < n1 ∧ vI (iAdd .i64 t37 (1 : Int)) n2 vh3))
    (HCalls Try.prog fn_frame_Encode #[.agg #[.int .i64 (3 : Int), .int .i64 (iAdd .i64 c1 (1 : Int)), .int .i64 first, .int .i64 (0 : Int), .slice Sl.nil.base Sl.nil.len Sl.nil.cap]] vh1 fun r5 vh6 =>
      ∃ c11 : Sl, ∃ c12 : Int, r5 = .tuple #[.slice c11.base c11.len c11.cap, .int .i64 c12] ∧
      let vh7 := alc vh6 [.slice c11.base c11.len c11.cap] ty_suint8;
      HCalls Try.prog fn_seglog_group #[.int .i64 (iAdd .i64 c1 (1 : Int)), .int .i64 first, .slice records.base records.len records.cap] vh7 fun r6 vh8 =>
      ∃ c13 : Sl, r6 = .slice c13.base c13.len c13.cap ∧
      let vh9 := alc vh8 [.slice (Sl.mk (some (nw vh6)) 1 1).base (Sl.mk (some (nw vh6)) 1 1).len (Sl.mk (some (nw vh6)) 1 1).cap, .slice c13.base c13.len c13.cap] ty_ssuint8;
      HCalls Try.prog fn_slices_Concat_ssbytesbyte #[.slice (Sl.mk (some (nw vh8)) 2 2).base (Sl.mk (some (nw vh8)) 2 2).len (Sl.mk (some (nw vh8)) 2 2).cap] vh9 fun r7 vh10 =>
      ∃ c14 : Sl, r7 = .slice c14.base c14.len c14.cap ∧
      HCalls Try.prog fn_seglog_Log_write #[.pointer l, .int .i64 (iSub .i64 (1 : Int) c), .int .i64 (0 : Int), .slice c14.base c14.len c14.cap] vh10 fun r8 vh11 =>
      ∃ c15 : Int, r8 = .int .i64 c15 ∧
      IfB (c15 != (0 : Int)) (R (.int .i64 c15) vh11)
      (∃ a5 : Addr, l = some a5 ∧
        StOk vh11 (a5.add 4) ∧
        Lt (hset vh11 (a5.add 4) (.int .i64 (iSub .i64 (1 : Int) c))) fun vh12 =>
        ∃ a6 : Addr, l = some a6 ∧
        StOk vh12 (a6.add 5) ∧
        Lt (hset vh12 (a6.add 5) (.int .i64 (iAdd .i64 c1 (1 : Int)))) fun vh13 =>
        ∃ a7 : Addr, l = some a7 ∧
        StOk vh13 (a7.add 6) ∧
        Lt (hset vh13 (a7.add 6) (.int .i64 (c14.len : Int))) fun vh14 =>
        R (.int .i64 (0 : Int)) vh14)))
theorem seglog_Log_turn_vc {l : Option Addr} {first : Int} {records : Sl} {h : Hp} {R : Value → Hp → Prop} (H : vcseglog_Log_turn l first records h R) : HCalls Try.prog fn_seglog_Log_turn #[.pointer l, .int .i64 first, .slice records.base records.len records.cap] h R :=
  vc_fn (annOfL [(0, [(37, .int .i64)])] [] [9]) Try.func57 [.pointer l, .int .i64 first, .slice records.base records.len records.cap] (by kernel_rfl) (V := vcseglog_Log_turn l first records h R) (by kernel_rfl) H

def vcscarplaw18_SeglogPlays (low : Int) (zones : Int) (l : Sl) (h : Hp) (R : Value → Hp → Prop) : Prop :=
  HCalls Try.prog fn_scarplaw18_small #[.slice l.base l.len l.cap] h fun r vh =>
  ∃ c : Bool, r = .bool c ∧
  IfB (!c) (HCalls Try.prog fn_scarplaw18_awake #[] vh fun r1 vh1 =>
    ∃ c1 : Bool, r1 = .bool c1 ∧
    R (.bool c1) vh1)
  (IfB (decide (low < (0 : Int))) (HCalls Try.prog fn_scarplaw18_awake #[] vh fun r2 vh2 =>
      ∃ c2 : Bool, r2 = .bool c2 ∧
      R (.bool c2) vh2)
    (IfB (decide (zones < (2 : Int))) (HCalls Try.prog fn_scarplaw18_awake #[] vh fun r3 vh3 =>
        ∃ c3 : Bool, r3 = .bool c3 ∧
        R (.bool c3) vh3)
      (IfB (decide (zones > (8 : Int))) (HCalls Try.prog fn_scarplaw18_awake #[] vh fun r4 vh4 =>
          ∃ c4 : Bool, r4 = .bool c4 ∧
          R (.bool c4) vh4)
        (IfB (decide (low > (iSub .i64 (8 : Int) zones))) (HCalls Try.prog fn_scarplaw18_awake #[] vh fun r5 vh5 =>
            ∃ c5 : Bool, r5 = .bool c5 ∧
            R (.bool c5) vh5)
          (HCalls Try.prog fn_scarplaw18_dev #[] vh fun r6 vh6 =>
            ∃ c6 : Option Addr, ∃ c7 : Bool, r6 = .tuple #[.pointer c6, .bool c7] ∧
            IfB (!c7) (R (.bool false) vh6)
            (HCalls Try.prog fn_seglog_Open #[.pointer c6, .int .i64 low, .int .i64 (iSub .i64 (iAdd .i64 low zones) (1 : Int))] vh6 fun r7 vh7 =>
              ∃ c8 : Option Addr, ∃ c9 : Int, r7 = .tuple #[.pointer c8, .int .i64 c9] ∧
              IfB (c9 != (0 : Int)) (R (.bool false) vh7)
              (IfB (isNone? c8) (R (.bool false) vh7)
                (let vh8 := alc vh7 [.pointer c8, .int .i64 (0 : Int), .slice Sl.nil.base Sl.nil.len Sl.nil.cap] ty_scarplaw18_log;
                  ∃ (vI : Option Addr → Int → Nat → Hp → Prop) (n : Nat), vI c8 (0 : Int) n vh8 ∧
                  ∀ _junk : Nat → Value, ∀ s : Option Addr, ∀ i : Int, ∀ (n1 : Nat) (vh9 : Hp), vI s i n1 vh9 →
                  IfB (decide (i < (l.len : Int))) (∃ a : Addr, l.base = some a ∧ 0 ≤ i ∧ i < (l.len : Int) ∧
                    ∃ c10 : Int, hcell vh9 ((a.add ((i).toNat * 4)).add 1) = some (.int .i64 c10) ∧
                    HCalls Try.prog fn_scarpalike_Round #[.int .i64 c10, .int .i64 (41 : Int)] vh9 fun r8 vh10 =>
                    ∃ c11 : Int, r8 = .int .i64 c11 ∧
                    ∃ a1 : Addr, l.base = some a1 ∧ 0 ≤ i ∧ i < (l.len : Int) ∧
                    ∃ c12 : Int, hcell vh10 ((a1.add ((i).toNat * 4)).add 2) = some (.int .i64 c12) ∧
                    HCalls Try.prog fn_scarpalike_Round #[.int .i64 c12, .int .i64 (41 : Int)] vh10 fun r9 vh11 =>
                    ∃ c13 : Int, r9 = .int .i64 c13 ∧
                    ∃ vJ : Option Addr → Hp → Prop,
                    (∃ a2 : Addr, l.base = some a2 ∧ 0 ≤ i ∧ i < (l.len : Int) ∧
                      ∃ c14 : Int, hcell vh11 (a2.add ((i).toNat * 4)) = some (.int .i64 c14) ∧
                      IfB (c14 == (1 : Int)) (∃ a3 : Addr, (some (nw vh7)) = some a3 ∧
                        ∃ c15 : Sl, hcell vh11 (a3.add 2) = some (.slice c15.base c15.len c15.cap) ∧
                        HCalls Try.prog fn_scarplaw18_recs #[.int .i64 (c15.len : Int), .int .i64 c11, .int .i64 c13] vh11 fun r10 vh12 =>
                        ∃ c16 : Sl, r10 = .slice c16.base c16.len c16.cap ∧
                        HCalls Try.prog fn_seglog_Log_Append #[.pointer s, .slice c16.base c16.len c16.cap] vh12 fun r11 vh13 =>
                        ∃ c17 : Int, ∃ c18 : Int, r11 = .tuple #[.int .i64 c17, .int .i64 c18] ∧
                        IfB (c11 == (0 : Int)) (IfB (c18 != (1 : Int)) (R (.bool false) vh13)
                          (vJ s vh13))
                        (IfB (c18 == (0 : Int)) (∃ a4 : Addr, (some (nw vh7)) = some a4 ∧
                            ∃ c19 : Sl, hcell vh13 (a4.add 2) = some (.slice c19.base c19.len c19.cap) ∧
                            IfB (c17 != (c19.len : Int)) (R (.bool false) vh13)
                            (∃ a5 : Addr, (some (nw vh7)) = some a5 ∧
                              ∃ c20 : Sl, hcell vh13 (a5.add 2) = some (.slice c20.base c20.len c20.cap) ∧
                              AppC ty_suint8 1 24 #[.slice Sl.nil.base Sl.nil.len Sl.nil.cap] c20 c16 vh13 fun s1 vh14 =>
                              ∃ a6 : Addr, (some (nw vh7)) = some a6 ∧
                              StOk vh14 (a6.add 2) ∧
                              Lt (hset vh14 (a6.add 2) (.slice s1.base s1.len s1.cap)) fun vh15 =>
                              vJ s vh15))
                          (IfB (c18 != (9 : Int)) (R (.bool false) vh13)
                            (HCalls Try.prog fn_scarplaw18_log_room #[.pointer (some (nw vh7)), .int .i64 c11, .int .i64 zones] vh13 fun r12 vh16 =>
                              ∃ c21 : Bool, r12 = .bool c21 ∧
                              IfB c21 (R (.bool false) vh16)
                              (vJ s vh16)))))
                      (IfB (c14 == (2 : Int)) (∃ a7 : Addr, (some (nw vh7)) = some a7 ∧
                          ∃ c22 : Int, hcell vh11 (a7.add 1) = some (.int .i64 c22) ∧
                          ∃ a8 : Addr, l.base = some a8 ∧ 0 ≤ i ∧ i < (l.len : Int) ∧
                          ∃ c23 : Int, hcell vh11 ((a8.add ((i).toNat * 4)).add 3) = some (.int .i64 c23) ∧
                          ∃ a9 : Addr, (some (nw vh7)) = some a9 ∧
                          ∃ c24 : Sl, hcell vh11 (a9.add 2) = some (.slice c24.base c24.len c24.cap) ∧
                          ∃ a10 : Addr, (some (nw vh7)) = some a10 ∧
                          ∃ c25 : Int, hcell vh11 (a10.add 1) = some (.int .i64 c25) ∧
                          HCalls Try.prog fn_scarpalike_Round #[.int .i64 c23, .int .i64 (iAdd .i64 (iSub .i64 (c24.len : Int) c25) (1 : Int))] vh11 fun r13 vh17 =>
                          ∃ c26 : Int, r13 = .int .i64 c26 ∧
                          Ext vh11 vh17 ∧
                          HCalls Try.prog fn_seglog_Log_Trim #[.pointer s, .int .i64 (iAdd .i64 c22 c26)] vh17 fun r14 vh18 =>
                          ∃ c27 : Int, r14 = .int .i64 c27 ∧
                          IfB (c27 != (0 : Int)) (R (.bool false) vh18)
                          (∃ a11 : Addr, (some (nw vh7)) = some a11 ∧
                            StOk vh18 (a11.add 1) ∧
                            Lt (hset vh18 (a11.add 1) (.int .i64 (iAdd .i64 c22 c26))) fun vh19 =>
                            vJ s vh19))
                        (IfB (c14 == (3 : Int)) (HCalls Try.prog fn_seglog_Open #[.pointer c6, .int .i64 low, .int .i64 (iSub .i64 (iAdd .i64 low zones) (1 : Int))] vh11 fun r15 vh20 =>
                            ∃ c28 : Option Addr, ∃ c29 : Int, r15 = .tuple #[.pointer c28, .int .i64 c29] ∧
                            IfB (c29 != (0 : Int)) (R (.bool false) vh20)
                            (IfB (isNone? c28) (R (.bool false) vh20)
                              (vJ c28 vh20)))
                          (vJ s vh11)))) ∧
                    ∀ _junk : Nat → Value, ∀ s2 : Option Addr, ∀ vh21 : Hp, vJ s2 vh21 →
                    HCalls Try.prog fn_scarplaw18_log_same #[.pointer (some (nw vh7)), .pointer s2] vh21 fun r16 vh22 =>
                    ∃ c30 : Bool, r16 = .bool c30 ∧
                    IfB (!c30) (R (.bool false) vh22)
                    (HCalls Try.prog fn_seglog_Log_Dead #[.pointer s2] vh22 fun r17 vh23 =>
                      ∃ c31 : Bool, r17 = .bool c31 ∧
                      IfB c31 (R (.bool false) vh23)
                      (∃ n2, n2 < n1 ∧ vI s2 (iAdd .i64 i (1 : Int)) n2 vh23)))
                  (∃ (vI1 : Int → Nat → Hp → Prop) (n3 : Nat), vI1 (0 : Int) n3 vh9 ∧
                    ∀ _junk : Nat → Value, ∀ z : Int, ∀ (n4 : Nat) (vh24 : Hp), vI1 z n4 vh24 →
                    IfB (decide (z < (8 : Int))) (HCalls Try.prog fn_zdev_Dev_Pointer #[.pointer c6, .int .i64 z] vh24 fun r18 vh25 =>
                      ∃ c32 : Int, ∃ c33 : Int, r18 = .tuple #[.int .i64 c32, .int .i64 c33] ∧
                      IfB (c33 != (0 : Int)) (R (.bool false) vh25)
                      (IfB (decide (c32 > (0 : Int))) (IfB (decide (z < low)) (R (.bool false) vh25)
                          (IfB (decide (z > (iSub .i64 (iAdd .i64 low zones) (1 : Int)))) (R (.bool false) vh25)
                            (∃ n5, n5 < n4 ∧ vI1 (iAdd .i64 z (1 : Int)) n5 vh25)))
                        (∃ n5, n5 < n4 ∧ vI1 (iAdd .i64 z (1 : Int)) n5 vh25)))
                    (HCalls Try.prog fn_scarplaw18_awake #[] vh24 fun r19 vh26 =>
                      ∃ c34 : Bool, r19 = .bool c34 ∧
                      R (.bool c34) vh26))))))))))
theorem scarplaw18_SeglogPlays_vc {low : Int} {zones : Int} {l : Sl} {h : Hp} {R : Value → Hp → Prop} (H : vcscarplaw18_SeglogPlays low zones l h R) : HCalls Try.prog fn_scarplaw18_SeglogPlays #[.int .i64 low, .int .i64 zones, .slice l.base l.len l.cap] h R :=
  vc_fn (annOf [(0, [(9, .ptr), (12, .int .i64)]), (1, [(21, .int .i64)])] [(38, [(9, .ptr)])]) Try.func3 [.int .i64 low, .int .i64 zones, .slice l.base l.len l.cap] (by kernel_rfl) (V := vcscarplaw18_SeglogPlays low zones l h R) (by kernel_rfl) H

def vcscarplaw18_SeglogCrash (l : Sl) (cut : Int) (picks : Sl) (torn : Sl) (cuts : Sl) (h : Hp) (R : Value → Hp → Prop) : Prop :=
  HCalls Try.prog fn_scarplaw18_small #[.slice l.base l.len l.cap] h fun r vh =>
  ∃ c : Bool, r = .bool c ∧
  IfB (!c) (HCalls Try.prog fn_scarplaw18_awake #[] vh fun r1 vh1 =>
    ∃ c1 : Bool, r1 = .bool c1 ∧
    R (.bool c1) vh1)
  (IfB (decide (cut < (0 : Int))) (HCalls Try.prog fn_scarplaw18_awake #[] vh fun r2 vh2 =>
      ∃ c2 : Bool, r2 = .bool c2 ∧
      R (.bool c2) vh2)
    (IfB (decide (cut > (1000 : Int))) (HCalls Try.prog fn_scarplaw18_awake #[] vh fun r3 vh3 =>
        ∃ c3 : Bool, r3 = .bool c3 ∧
        R (.bool c3) vh3)
      (IfB (decide ((picks.len : Int) > (60 : Int))) (HCalls Try.prog fn_scarplaw18_awake #[] vh fun r4 vh4 =>
          ∃ c4 : Bool, r4 = .bool c4 ∧
          R (.bool c4) vh4)
        (IfB (decide ((torn.len : Int) > (60 : Int))) (HCalls Try.prog fn_scarplaw18_awake #[] vh fun r5 vh5 =>
            ∃ c5 : Bool, r5 = .bool c5 ∧
            R (.bool c5) vh5)
          (IfB (decide ((cuts.len : Int) > (5 : Int))) (HCalls Try.prog fn_scarplaw18_awake #[] vh fun r6 vh6 =>
              ∃ c6 : Bool, r6 = .bool c6 ∧
              R (.bool c6) vh6)
            (HCalls Try.prog fn_scarplaw18_dev #[] vh fun r7 vh7 =>
              ∃ c7 : Option Addr, ∃ c8 : Bool, r7 = .tuple #[.pointer c7, .bool c8] ∧
              IfB (!c8) (R (.bool false) vh7)
              (HCalls Try.prog fn_seglog_Open #[.pointer c7, .int .i64 (0 : Int), .int .i64 (3 : Int)] vh7 fun r8 vh8 =>
                ∃ c9 : Option Addr, ∃ c10 : Int, r8 = .tuple #[.pointer c9, .int .i64 c10] ∧
                IfB (c10 != (0 : Int)) (R (.bool false) vh8)
                (IfB (isNone? c9) (R (.bool false) vh8)
                  (HCalls Try.prog fn_zdev_Dev_Cut #[.pointer c7, .int .i64 cut] vh8 fun r9 vh9 =>
                    r9 = .tuple #[] ∧
                    let vh10 := alc vh9 [.pointer none, .int .i64 (0 : Int), .slice Sl.nil.base Sl.nil.len Sl.nil.cap] ty_scarplaw18_log;
                    let vh11 := alc vh10 [.pointer none, .int .i64 (0 : Int), .slice Sl.nil.base Sl.nil.len Sl.nil.cap] ty_scarplaw18_log;
                    ∃ vJ : Option Addr → Option Addr → Hp → Prop,
                    (∃ (vI : Option Addr → Option Addr → Int → Nat → Hp → Prop) (n : Nat), vI (some (nw vh9)) (some (nw vh10)) (0 : Int) n vh11 ∧
                      ∀ _junk : Nat → Value, ∀ x : Option Addr, ∀ may : Option Addr, ∀ i : Int, ∀ (n1 : Nat) (vh12 : Hp), vI x may i n1 vh12 →
                      IfB (decide (i < (l.len : Int))) (∃ a : Addr, l.base = some a ∧ 0 ≤ i ∧ i < (l.len : Int) ∧
                        ∃ c11 : Int, hcell vh12 ((a.add ((i).toNat * 4)).add 1) = some (.int .i64 c11) ∧
                        HCalls Try.prog fn_scarpalike_Round #[.int .i64 c11, .int .i64 (41 : Int)] vh12 fun r10 vh13 =>
                        ∃ c12 : Int, r10 = .int .i64 c12 ∧
                        ∃ a1 : Addr, l.base = some a1 ∧ 0 ≤ i ∧ i < (l.len : Int) ∧
                        ∃ c13 : Int, hcell vh13 ((a1.add ((i).toNat * 4)).add 2) = some (.int .i64 c13) ∧
                        HCalls Try.prog fn_scarpalike_Round #[.int .i64 c13, .int .i64 (41 : Int)] vh13 fun r11 vh14 =>
                        ∃ c14 : Int, r11 = .int .i64 c14 ∧
                        ∃ a2 : Addr, x = some a2 ∧
                        ∃ c15 : Int, hcell vh14 (a2.add 1) = some (.int .i64 c15) ∧
                        ∃ a3 : Addr, x = some a3 ∧
                        ∃ c16 : Sl, hcell vh14 (a3.add 2) = some (.slice c16.base c16.len c16.cap) ∧
                        let vh15 := alc vh14 [.pointer none, .int .i64 c15, .slice c16.base c16.len c16.cap] ty_scarplaw18_log;
                        Ext vh14 vh15 ∧
                        ∃ vJ1 : Int → Hp → Prop,
                        (∃ a4 : Addr, l.base = some a4 ∧ 0 ≤ i ∧ i < (l.len : Int) ∧
                          ∃ c17 : Int, hcell vh15 (a4.add ((i).toNat * 4)) = some (.int .i64 c17) ∧
                          IfB (c17 == (1 : Int)) (IfB (decide (c12 > (0 : Int))) (HCalls Try.prog fn_scarplaw18_log_room #[.pointer x, .int .i64 c12, .int .i64 (4 : Int)] vh15 fun r12 vh16 =>
                              ∃ c18 : Bool, r12 = .bool c18 ∧
                              IfB c18 (∃ a5 : Addr, x = some a5 ∧
                                ∃ c19 : Sl, hcell vh16 (a5.add 2) = some (.slice c19.base c19.len c19.cap) ∧
                                HCalls Try.prog fn_scarplaw18_recs #[.int .i64 (c19.len : Int), .int .i64 c12, .int .i64 c14] vh16 fun r13 vh17 =>
                                ∃ c20 : Sl, r13 = .slice c20.base c20.len c20.cap ∧
                                let vh18 := alc vh17 [] ty_suint8;
                                ∃ a6 : Addr, x = some a6 ∧
                                ∃ c21 : Sl, hcell vh18 (a6.add 2) = some (.slice c21.base c21.len c21.cap) ∧
                                AppC ty_suint8 1 24 #[.slice Sl.nil.base Sl.nil.len Sl.nil.cap] (Sl.mk (some (nw vh17)) 0 0) c21 vh18 fun s vh19 =>
                                AppC ty_suint8 1 24 #[.slice Sl.nil.base Sl.nil.len Sl.nil.cap] s c20 vh19 fun s1 vh20 =>
                                ∃ a7 : Addr, (some (nw vh14)) = some a7 ∧
                                StOk vh20 (a7.add 2) ∧
                                Lt (hset vh20 (a7.add 2) (.slice s1.base s1.len s1.cap)) fun vh21 =>
                                HCalls Try.prog fn_seglog_Log_Append #[.pointer c9, .slice c20.base c20.len c20.cap] vh21 fun r14 vh22 =>
                                ∃ c22 : Int, ∃ c23 : Int, r14 = .tuple #[.int .i64 c22, .int .i64 c23] ∧
                                vJ1 c23 vh22)
                              (∃ a8 : Addr, l.base = some a8 ∧ 0 ≤ i ∧ i < (l.len : Int) ∧
                                ∃ c24 : Int, hcell vh16 (a8.add ((i).toNat * 4)) = some (.int .i64 c24) ∧
                                IfB (c24 == (2 : Int)) (∃ a9 : Addr, x = some a9 ∧
                                  ∃ c25 : Int, hcell vh16 (a9.add 1) = some (.int .i64 c25) ∧
                                  ∃ a10 : Addr, l.base = some a10 ∧ 0 ≤ i ∧ i < (l.len : Int) ∧
                                  ∃ c26 : Int, hcell vh16 ((a10.add ((i).toNat * 4)).add 3) = some (.int .i64 c26) ∧
                                  ∃ a11 : Addr, x = some a11 ∧
                                  ∃ c27 : Sl, hcell vh16 (a11.add 2) = some (.slice c27.base c27.len c27.cap) ∧
                                  ∃ a12 : Addr, x = some a12 ∧
                                  ∃ c28 : Int, hcell vh16 (a12.add 1) = some (.int .i64 c28) ∧
                                  HCalls Try.prog fn_scarpalike_Round #[.int .i64 c26, .int .i64 (iAdd .i64 (iSub .i64 (c27.len : Int) c28) (1 : Int))] vh16 fun r15 vh23 =>
                                  ∃ c29 : Int, r15 = .int .i64 c29 ∧
                                  Ext vh16 vh23 ∧
                                  ∃ a13 : Addr, (some (nw vh14)) = some a13 ∧
                                  StOk vh23 (a13.add 1) ∧
                                  Lt (hset vh23 (a13.add 1) (.int .i64 (iAdd .i64 c25 c29))) fun vh24 =>
                                  ∃ a14 : Addr, (some (nw vh14)) = some a14 ∧
                                  ∃ c30 : Int, hcell vh24 (a14.add 1) = some (.int .i64 c30) ∧
                                  HCalls Try.prog fn_seglog_Log_Trim #[.pointer c9, .int .i64 c30] vh24 fun r16 vh25 =>
                                  ∃ c31 : Int, r16 = .int .i64 c31 ∧
                                  vJ1 c31 vh25)
                                (vJ1 (0 : Int) vh16)))
                            (∃ a15 : Addr, l.base = some a15 ∧ 0 ≤ i ∧ i < (l.len : Int) ∧
                              ∃ c32 : Int, hcell vh15 (a15.add ((i).toNat * 4)) = some (.int .i64 c32) ∧
                              IfB (c32 == (2 : Int)) (∃ a16 : Addr, x = some a16 ∧
                                ∃ c33 : Int, hcell vh15 (a16.add 1) = some (.int .i64 c33) ∧
                                ∃ a17 : Addr, l.base = some a17 ∧ 0 ≤ i ∧ i < (l.len : Int) ∧
                                ∃ c34 : Int, hcell vh15 ((a17.add ((i).toNat * 4)).add 3) = some (.int .i64 c34) ∧
                                ∃ a18 : Addr, x = some a18 ∧
                                ∃ c35 : Sl, hcell vh15 (a18.add 2) = some (.slice c35.base c35.len c35.cap) ∧
                                ∃ a19 : Addr, x = some a19 ∧
                                ∃ c36 : Int, hcell vh15 (a19.add 1) = some (.int .i64 c36) ∧
                                HCalls Try.prog fn_scarpalike_Round #[.int .i64 c34, .int .i64 (iAdd .i64 (iSub .i64 (c35.len : Int) c36) (1 : Int))] vh15 fun r17 vh26 =>
                                ∃ c37 : Int, r17 = .int .i64 c37 ∧
                                Ext vh15 vh26 ∧
                                ∃ a20 : Addr, (some (nw vh14)) = some a20 ∧
                                StOk vh26 (a20.add 1) ∧
                                Lt (hset vh26 (a20.add 1) (.int .i64 (iAdd .i64 c33 c37))) fun vh27 =>
                                ∃ a21 : Addr, (some (nw vh14)) = some a21 ∧
                                ∃ c38 : Int, hcell vh27 (a21.add 1) = some (.int .i64 c38) ∧
                                HCalls Try.prog fn_seglog_Log_Trim #[.pointer c9, .int .i64 c38] vh27 fun r18 vh28 =>
                                ∃ c39 : Int, r18 = .int .i64 c39 ∧
                                vJ1 c39 vh28)
                              (vJ1 (0 : Int) vh15)))
                          (∃ a22 : Addr, l.base = some a22 ∧ 0 ≤ i ∧ i < (l.len : Int) ∧
                            ∃ c40 : Int, hcell vh15 (a22.add ((i).toNat * 4)) = some (.int .i64 c40) ∧
                            IfB (c40 == (2 : Int)) (∃ a23 : Addr, x = some a23 ∧
                              ∃ c41 : Int, hcell vh15 (a23.add 1) = some (.int .i64 c41) ∧
                              ∃ a24 : Addr, l.base = some a24 ∧ 0 ≤ i ∧ i < (l.len : Int) ∧
                              ∃ c42 : Int, hcell vh15 ((a24.add ((i).toNat * 4)).add 3) = some (.int .i64 c42) ∧
                              ∃ a25 : Addr, x = some a25 ∧
                              ∃ c43 : Sl, hcell vh15 (a25.add 2) = some (.slice c43.base c43.len c43.cap) ∧
                              ∃ a26 : Addr, x = some a26 ∧
                              ∃ c44 : Int, hcell vh15 (a26.add 1) = some (.int .i64 c44) ∧
                              HCalls Try.prog fn_scarpalike_Round #[.int .i64 c42, .int .i64 (iAdd .i64 (iSub .i64 (c43.len : Int) c44) (1 : Int))] vh15 fun r19 vh29 =>
                              ∃ c45 : Int, r19 = .int .i64 c45 ∧
                              Ext vh15 vh29 ∧
                              ∃ a27 : Addr, (some (nw vh14)) = some a27 ∧
                              StOk vh29 (a27.add 1) ∧
                              Lt (hset vh29 (a27.add 1) (.int .i64 (iAdd .i64 c41 c45))) fun vh30 =>
                              ∃ a28 : Addr, (some (nw vh14)) = some a28 ∧
                              ∃ c46 : Int, hcell vh30 (a28.add 1) = some (.int .i64 c46) ∧
                              HCalls Try.prog fn_seglog_Log_Trim #[.pointer c9, .int .i64 c46] vh30 fun r20 vh31 =>
                              ∃ c47 : Int, r20 = .int .i64 c47 ∧
                              vJ1 c47 vh31)
                            (vJ1 (0 : Int) vh15))) ∧
                        ∀ _junk : Nat → Value, ∀ f : Int, ∀ vh32 : Hp, vJ1 f vh32 →
                        IfB (f == (12 : Int)) (HCalls Try.prog fn_seglog_Log_Dead #[.pointer c9] vh32 fun r21 vh33 =>
                          ∃ c48 : Bool, r21 = .bool c48 ∧
                          IfB (!c48) (R (.bool false) vh33)
                          (vJ x (some (nw vh14)) vh33))
                        (IfB (f != (0 : Int)) (R (.bool false) vh32)
                          (∃ n2, n2 < n1 ∧ vI (some (nw vh14)) (some (nw vh14)) (iAdd .i64 i (1 : Int)) n2 vh32)))
                      (vJ x may vh12)) ∧
                    ∀ _junk : Nat → Value, ∀ x1 : Option Addr, ∀ may1 : Option Addr, ∀ vh34 : Hp, vJ x1 may1 vh34 →
                    HCalls Try.prog fn_zdev_Dev_Crash #[.pointer c7, .slice picks.base picks.len picks.cap, .slice torn.base torn.len torn.cap] vh34 fun r22 vh35 =>
                    ∃ c49 : Option Addr, r22 = .pointer c49 ∧
                    ∃ (vI1 : Option Addr → Int → Nat → Hp → Prop) (n3 : Nat), vI1 c49 (0 : Int) n3 vh35 ∧
                    ∀ _junk : Nat → Value, ∀ d : Option Addr, ∀ i1 : Int, ∀ (n4 : Nat) (vh36 : Hp), vI1 d i1 n4 vh36 →
                    IfB (decide (i1 < (cuts.len : Int))) (∃ a29 : Addr, cuts.base = some a29 ∧ 0 ≤ i1 ∧ i1 < (cuts.len : Int) ∧
                      ∃ c50 : Int, hcell vh36 (a29.add ((i1).toNat * 1)) = some (.int .i64 c50) ∧
                      HCalls Try.prog fn_scarpalike_Round #[.int .i64 c50, .int .i64 (20 : Int)] vh36 fun r23 vh37 =>
                      ∃ c51 : Int, r23 = .int .i64 c51 ∧
                      HCalls Try.prog fn_zdev_Dev_Cut #[.pointer d, .int .i64 c51] vh37 fun r24 vh38 =>
                      r24 = .tuple #[] ∧
                      HCalls Try.prog fn_seglog_Open #[.pointer d, .int .i64 (0 : Int), .int .i64 (3 : Int)] vh38 fun r25 vh39 =>
                      ∃ c52 : Option Addr, ∃ c53 : Int, r25 = .tuple #[.pointer c52, .int .i64 c53] ∧
                      HCalls Try.prog fn_zdev_Dev_Crash #[.pointer d, .slice picks.base picks.len picks.cap, .slice torn.base torn.len torn.cap] vh39 fun r26 vh40 =>
                      ∃ c54 : Option Addr, r26 = .pointer c54 ∧
                      ∃ n5, n5 < n4 ∧ vI1 c54 (iAdd .i64 i1 (1 : Int)) n5 vh40)
                    (HCalls Try.prog fn_seglog_Open #[.pointer d, .int .i64 (0 : Int), .int .i64 (3 : Int)] vh36 fun r27 vh41 =>
                      ∃ c55 : Option Addr, ∃ c56 : Int, r27 = .tuple #[.pointer c55, .int .i64 c56] ∧
                      ∃ vJ2 : Hp → Prop,
                      (IfB (c56 != (0 : Int)) (R (.bool false) vh41)
                        (IfB (isNone? c55) (R (.bool false) vh41)
                          (HCalls Try.prog fn_scarplaw18_log_same #[.pointer x1, .pointer c55] vh41 fun r28 vh42 =>
                            ∃ c57 : Bool, r28 = .bool c57 ∧
                            IfB (!c57) (HCalls Try.prog fn_scarplaw18_log_same #[.pointer may1, .pointer c55] vh42 fun r29 vh43 =>
                              ∃ c58 : Bool, r29 = .bool c58 ∧
                              IfB (!c58) (R (.bool false) vh43)
                              (vJ2 vh43))
                            (vJ2 vh42)))) ∧
                      ∀ _junk : Nat → Value, ∀ vh44 : Hp, vJ2 vh44 →
                      ∃ vJ3 : Option Addr → Hp → Prop,
                      (HCalls Try.prog fn_scarplaw18_log_same #[.pointer x1, .pointer c55] vh44 fun r30 vh45 =>
                        ∃ c59 : Bool, r30 = .bool c59 ∧
                        IfB (!c59) (vJ3 may1 vh45)
                        (vJ3 x1 vh45)) ∧
                      ∀ _junk : Nat → Value, ∀ y : Option Addr, ∀ vh46 : Hp, vJ3 y vh46 →
                      HCalls Try.prog fn_zdev_Dev_Crash #[.pointer d, .slice picks.base picks.len picks.cap, .slice torn.base torn.len torn.cap] vh46 fun r31 vh47 =>
                      ∃ c60 : Option Addr, r31 = .pointer c60 ∧
                      HCalls Try.prog fn_seglog_Open #[.pointer c60, .int .i64 (0 : Int), .int .i64 (3 : Int)] vh47 fun r32 vh48 =>
                      ∃ c61 : Option Addr, ∃ c62 : Int, r32 = .tuple #[.pointer c61, .int .i64 c62] ∧
                      IfB (c62 == (0 : Int)) (IfB (!isNone? c61) (HCalls Try.prog fn_scarplaw18_log_same #[.pointer y, .pointer c61] vh48 fun r33 vh49 =>
                          ∃ c63 : Bool, r33 = .bool c63 ∧
                          IfB c63 (HCalls Try.prog fn_scarplaw18_awake #[] vh49 fun r34 vh50 =>
                            ∃ c64 : Bool, r34 = .bool c64 ∧
                            R (.bool c64) vh50)
                          (R (.bool false) vh49))
                        (R (.bool false) vh48))
                      (R (.bool false) vh48)))))))))))
theorem scarplaw18_SeglogCrash_vc {l : Sl} {cut : Int} {picks : Sl} {torn : Sl} {cuts : Sl} {h : Hp} {R : Value → Hp → Prop} (H : vcscarplaw18_SeglogCrash l cut picks torn cuts h R) : HCalls Try.prog fn_scarplaw18_SeglogCrash #[.slice l.base l.len l.cap, .int .i64 cut, .slice picks.base picks.len picks.cap, .slice torn.base torn.len torn.cap, .slice cuts.base cuts.len cuts.cap] h R :=
  vc_fn (annOf [(0, [(15, .ptr), (16, .ptr), (17, .int .i64)]), (1, [(11, .ptr), (22, .int .i64)])] [(26, [(20, .int .i64)]), (32, [(15, .ptr), (16, .ptr)]), (42, []), (45, [(25, .ptr)])]) Try.func7 [.slice l.base l.len l.cap, .int .i64 cut, .slice picks.base picks.len picks.cap, .slice torn.base torn.len torn.cap, .slice cuts.base cuts.len cuts.cap] (by kernel_rfl) (V := vcscarplaw18_SeglogCrash l cut picks torn cuts h R) (by kernel_rfl) H

def vcscarplaw18_SeglogTurns (n : Int) (turns : Int) (keep : Int) (h : Hp) (R : Value → Hp → Prop) : Prop :=
  IfB (decide (n < (1 : Int))) (HCalls Try.prog fn_scarplaw18_awake #[] h fun r vh =>
    ∃ c : Bool, r = .bool c ∧
    R (.bool c) vh)
  (IfB (decide (n > (40 : Int))) (HCalls Try.prog fn_scarplaw18_awake #[] h fun r1 vh1 =>
      ∃ c1 : Bool, r1 = .bool c1 ∧
      R (.bool c1) vh1)
    (IfB (decide (turns < (1 : Int))) (HCalls Try.prog fn_scarplaw18_awake #[] h fun r2 vh2 =>
        ∃ c2 : Bool, r2 = .bool c2 ∧
        R (.bool c2) vh2)
      (IfB (decide (turns > (60 : Int))) (HCalls Try.prog fn_scarplaw18_awake #[] h fun r3 vh3 =>
          ∃ c3 : Bool, r3 = .bool c3 ∧
          R (.bool c3) vh3)
        (IfB (decide (keep < (0 : Int))) (HCalls Try.prog fn_scarplaw18_awake #[] h fun r4 vh4 =>
            ∃ c4 : Bool, r4 = .bool c4 ∧
            R (.bool c4) vh4)
          (IfB (decide (keep > (40 : Int))) (HCalls Try.prog fn_scarplaw18_awake #[] h fun r5 vh5 =>
              ∃ c5 : Bool, r5 = .bool c5 ∧
              R (.bool c5) vh5)
            (HCalls Try.prog fn_scarplaw18_dev #[] h fun r6 vh6 =>
              ∃ c6 : Option Addr, ∃ c7 : Bool, r6 = .tuple #[.pointer c6, .bool c7] ∧
              IfB (!c7) (R (.bool false) vh6)
              (HCalls Try.prog fn_seglog_Open #[.pointer c6, .int .i64 (3 : Int), .int .i64 (4 : Int)] vh6 fun r7 vh7 =>
                ∃ c8 : Option Addr, ∃ c9 : Int, r7 = .tuple #[.pointer c8, .int .i64 c9] ∧
                IfB (c9 != (0 : Int)) (R (.bool false) vh7)
                (IfB (isNone? c8) (R (.bool false) vh7)
                  (let vh8 := alc vh7 [.pointer none, .int .i64 (0 : Int), .slice Sl.nil.base Sl.nil.len Sl.nil.cap] ty_scarplaw18_log;
                    ∃ (vI : Int → Nat → Hp → Prop) (n1 : Nat), vI (0 : Int) n1 vh8 ∧
                    ∀ _junk : Nat → Value, ∀ i : Int, ∀ (n2 : Nat) (vh9 : Hp), vI i n2 vh9 →
                    IfB (decide (i < turns)) (∃ vJ : Hp → Prop,
                      (HCalls Try.prog fn_scarplaw18_log_room #[.pointer (some (nw vh7)), .int .i64 n, .int .i64 (2 : Int)] vh9 fun r8 vh10 =>
                        ∃ c10 : Bool, r8 = .bool c10 ∧
                        IfB (!c10) (∃ a : Addr, (some (nw vh7)) = some a ∧
                          ∃ c11 : Int, hcell vh10 (a.add 1) = some (.int .i64 c11) ∧
                          ∃ a1 : Addr, (some (nw vh7)) = some a1 ∧
                          ∃ c12 : Sl, hcell vh10 (a1.add 2) = some (.slice c12.base c12.len c12.cap) ∧
                          ∃ vJ1 : Int → Hp → Prop,
                          (∃ (vI1 : Int → Nat → Hp → Prop) (n4 : Nat), vI1 (if c11 < (iSub .i64 (c12.len : Int) keep) then (iSub .i64 (c12.len : Int) keep) else c11) n4 vh10 ∧
                            ∀ _junk : Nat → Value, ∀ k : Int, ∀ (n5 : Nat) (vh11 : Hp), vI1 k n5 vh11 →
                            ∃ a2 : Addr, (some (nw vh7)) = some a2 ∧
                            ∃ c13 : Sl, hcell vh11 (a2.add 2) = some (.slice c13.base c13.len c13.cap) ∧
                            IfB (decide ((iMul .i64 (2 : Int) (iAdd .i64 (iSub .i64 (c13.len : Int) k) n)) > (88 : Int))) (∃ a3 : Addr, (some (nw vh7)) = some a3 ∧
                              ∃ c14 : Sl, hcell vh11 (a3.add 2) = some (.slice c14.base c14.len c14.cap) ∧
                              IfB (decide (k < (c14.len : Int))) (∃ n6, n6 < n5 ∧ vI1 (iAdd .i64 k (1 : Int)) n6 vh11)
                              (vJ1 k vh11))
                            (vJ1 k vh11)) ∧
                          ∀ _junk : Nat → Value, ∀ k1 : Int, ∀ vh12 : Hp, vJ1 k1 vh12 →
                          HCalls Try.prog fn_seglog_Log_Trim #[.pointer c8, .int .i64 k1] vh12 fun r9 vh13 =>
                          ∃ c15 : Int, r9 = .int .i64 c15 ∧
                          IfB (c15 != (0 : Int)) (R (.bool false) vh13)
                          (∃ a4 : Addr, (some (nw vh7)) = some a4 ∧
                            StOk vh13 (a4.add 1) ∧
                            Lt (hset vh13 (a4.add 1) (.int .i64 k1)) fun vh14 =>
                            vJ vh14))
                        (vJ vh10)) ∧
                      ∀ _junk : Nat → Value, ∀ vh15 : Hp, vJ vh15 →
                      HCalls Try.prog fn_scarplaw18_log_room #[.pointer (some (nw vh7)), .int .i64 n, .int .i64 (2 : Int)] vh15 fun r10 vh16 =>
                      ∃ c16 : Bool, r10 = .bool c16 ∧
                      IfB (!c16) (HCalls Try.prog fn_scarplaw18_awake #[] vh16 fun r11 vh17 =>
                        ∃ c17 : Bool, r11 = .bool c17 ∧
                        R (.bool c17) vh17)
                      (∃ a5 : Addr, (some (nw vh7)) = some a5 ∧
                        ∃ c18 : Sl, hcell vh16 (a5.add 2) = some (.slice c18.base c18.len c18.cap) ∧
                        HCalls Try.prog fn_scarplaw18_recs #[.int .i64 (c18.len : Int), .int .i64 n, .int .i64 (5 : Int)] vh16 fun r12 vh18 =>
                        ∃ c19 : Sl, r12 = .slice c19.base c19.len c19.cap ∧
                        HCalls Try.prog fn_seglog_Log_Append #[.pointer c8, .slice c19.base c19.len c19.cap] vh18 fun r13 vh19 =>
                        ∃ c20 : Int, ∃ c21 : Int, r13 = .tuple #[.int .i64 c20, .int .i64 c21] ∧
                        IfB (c21 != (0 : Int)) (R (.bool false) vh19)
                        (∃ a6 : Addr, (some (nw vh7)) = some a6 ∧
                          ∃ c22 : Sl, hcell vh19 (a6.add 2) = some (.slice c22.base c22.len c22.cap) ∧
                          IfB (c20 != (c22.len : Int)) (R (.bool false) vh19)
                          (∃ a7 : Addr, (some (nw vh7)) = some a7 ∧
                            ∃ c23 : Sl, hcell vh19 (a7.add 2) = some (.slice c23.base c23.len c23.cap) ∧
                            AppC ty_suint8 1 24 #[.slice Sl.nil.base Sl.nil.len Sl.nil.cap] c23 c19 vh19 fun s vh20 =>
                            ∃ a8 : Addr, (some (nw vh7)) = some a8 ∧
                            StOk vh20 (a8.add 2) ∧
                            Lt (hset vh20 (a8.add 2) (.slice s.base s.len s.cap)) fun vh21 =>
                            ∃ n3, n3 < n2 ∧ vI (iAdd .i64 i (1 : Int)) n3 vh21))))
                    (HCalls Try.prog fn_scarplaw18_log_same #[.pointer (some (nw vh7)), .pointer c8] vh9 fun r14 vh22 =>
                      ∃ c24 : Bool, r14 = .bool c24 ∧
                      IfB c24 (HCalls Try.prog fn_scarplaw18_awake #[] vh22 fun r15 vh23 =>
                        ∃ c25 : Bool, r15 = .bool c25 ∧
                        R (.bool c25) vh23)
                      (R (.bool false) vh22)))))))))))
theorem scarplaw18_SeglogTurns_vc {n : Int} {turns : Int} {keep : Int} {h : Hp} {R : Value → Hp → Prop} (H : vcscarplaw18_SeglogTurns n turns keep h R) : HCalls Try.prog fn_scarplaw18_SeglogTurns #[.int .i64 n, .int .i64 turns, .int .i64 keep] h R :=
  vc_fn (annOf [(0, [(12, .int .i64)]), (1, [(13, .int .i64)])] [(17, [(13, .int .i64)]), (20, [])]) Try.func4 [.int .i64 n, .int .i64 turns, .int .i64 keep] (by kernel_rfl) (V := vcscarplaw18_SeglogTurns n turns keep h R) (by kernel_rfl) H

def vcscarplaw18_SeglogLimits (n : Int) (size : Int) (low : Int) (high : Int) (h : Hp) (R : Value → Hp → Prop) : Prop :=
  IfB (decide (n < (0 : Int))) (HCalls Try.prog fn_scarplaw18_awake #[] h fun r vh =>
    ∃ c : Bool, r = .bool c ∧
    R (.bool c) vh)
  (IfB (decide (n > (50 : Int))) (HCalls Try.prog fn_scarplaw18_awake #[] h fun r1 vh1 =>
      ∃ c1 : Bool, r1 = .bool c1 ∧
      R (.bool c1) vh1)
    (IfB (decide (size < (0 : Int))) (HCalls Try.prog fn_scarplaw18_awake #[] h fun r2 vh2 =>
        ∃ c2 : Bool, r2 = .bool c2 ∧
        R (.bool c2) vh2)
      (IfB (decide (size > (50 : Int))) (HCalls Try.prog fn_scarplaw18_awake #[] h fun r3 vh3 =>
          ∃ c3 : Bool, r3 = .bool c3 ∧
          R (.bool c3) vh3)
        (HCalls Try.prog fn_scarplaw18_dev #[] h fun r4 vh4 =>
          ∃ c4 : Option Addr, ∃ c5 : Bool, r4 = .tuple #[.pointer c4, .bool c5] ∧
          IfB (!c5) (R (.bool false) vh4)
          (HCalls Try.prog fn_seglog_Open #[.pointer c4, .int .i64 low, .int .i64 high] vh4 fun r5 vh5 =>
            ∃ c6 : Option Addr, ∃ c7 : Int, r5 = .tuple #[.pointer c6, .int .i64 c7] ∧
            HCalls Try.prog fn_seglog_Open #[.pointer none, .int .i64 (0 : Int), .int .i64 (1 : Int)] vh5 fun r6 vh6 =>
            ∃ c8 : Option Addr, ∃ c9 : Int, r6 = .tuple #[.pointer c8, .int .i64 c9] ∧
            IfB (c9 != (1 : Int)) (R (.bool false) vh6)
            (IfB (decide (low < (0 : Int))) (IfB (c7 == (1 : Int)) (IfB (isNone? c6) (HCalls Try.prog fn_scarplaw18_awake #[] vh6 fun r7 vh7 =>
                    ∃ c10 : Bool, r7 = .bool c10 ∧
                    R (.bool c10) vh7)
                  (R (.bool false) vh6))
                (R (.bool false) vh6))
              (IfB (decide (low ≥ high)) (IfB (c7 == (1 : Int)) (IfB (isNone? c6) (HCalls Try.prog fn_scarplaw18_awake #[] vh6 fun r8 vh8 =>
                      ∃ c11 : Bool, r8 = .bool c11 ∧
                      R (.bool c11) vh8)
                    (R (.bool false) vh6))
                  (R (.bool false) vh6))
                (IfB (decide (high ≥ (8 : Int))) (IfB (c7 == (1 : Int)) (IfB (isNone? c6) (HCalls Try.prog fn_scarplaw18_awake #[] vh6 fun r9 vh9 =>
                        ∃ c12 : Bool, r9 = .bool c12 ∧
                        R (.bool c12) vh9)
                      (R (.bool false) vh6))
                    (R (.bool false) vh6))
                  (IfB (c7 != (0 : Int)) (R (.bool false) vh6)
                    (IfB (isNone? c6) (R (.bool false) vh6)
                      (HCalls Try.prog fn_scarplaw18_recs #[.int .i64 (0 : Int), .int .i64 n, .int .i64 size] vh6 fun r10 vh10 =>
                        ∃ c13 : Sl, r10 = .slice c13.base c13.len c13.cap ∧
                        HCalls Try.prog fn_seglog_Log_Append #[.pointer c6, .slice c13.base c13.len c13.cap] vh10 fun r11 vh11 =>
                        ∃ c14 : Int, ∃ c15 : Int, r11 = .tuple #[.int .i64 c14, .int .i64 c15] ∧
                        ∃ vJ : Int → Hp → Prop,
                        (IfB (n == (0 : Int)) (vJ (1 : Int) vh11)
                          (IfB (decide (n > (40 : Int))) (vJ (7 : Int) vh11)
                            (IfB (decide (size > (40 : Int))) (vJ (7 : Int) vh11)
                              (vJ (0 : Int) vh11)))) ∧
                        ∀ _junk : Nat → Value, ∀ want : Int, ∀ vh12 : Hp, vJ want vh12 →
                        let vh13 := alc vh12 [.int .u8 (120 : Int)] ty_uint8;
                        ∃ a : Addr, (Sl.mk (some (nw vh12)) 1 1).base = some a ∧
                        let vh14 := hstr vh13 a;
                        let vh15 := alc vh14 [.slice (Sl.mk (some (nw vh12)) 1 1).base (Sl.mk (some (nw vh12)) 1 1).len (Sl.mk (some (nw vh12)) 1 1).cap] ty_suint8;
                        HCalls Try.prog fn_seglog_Log_Append #[.pointer none, .slice (Sl.mk (some (nw vh14)) 1 1).base (Sl.mk (some (nw vh14)) 1 1).len (Sl.mk (some (nw vh14)) 1 1).cap] vh15 fun r12 vh16 =>
                        ∃ c16 : Int, ∃ c17 : Int, r12 = .tuple #[.int .i64 c16, .int .i64 c17] ∧
                        HCalls Try.prog fn_seglog_Log_Read #[.pointer none, .int .i64 (0 : Int)] vh16 fun r13 vh17 =>
                        ∃ c18 : Sl, ∃ c19 : Int, r13 = .tuple #[.slice c18.base c18.len c18.cap, .int .i64 c19] ∧
                        IfB (c15 == want) (IfB (c17 == (12 : Int)) (IfB (c19 == (14 : Int)) (HCalls Try.prog fn_seglog_Log_Dead #[.pointer none] vh17 fun r14 vh18 =>
                              ∃ c20 : Bool, r14 = .bool c20 ∧
                              IfB c20 (HCalls Try.prog fn_seglog_Log_Len #[.pointer none] vh18 fun r15 vh19 =>
                                ∃ c21 : Int, r15 = .int .i64 c21 ∧
                                IfB (c21 == (0 : Int)) (HCalls Try.prog fn_scarplaw18_awake #[] vh19 fun r16 vh20 =>
                                  ∃ c22 : Bool, r16 = .bool c22 ∧
                                  R (.bool c22) vh20)
                                (R (.bool false) vh19))
                              (R (.bool false) vh18))
                            (R (.bool false) vh17))
                          (R (.bool false) vh17))
                        (R (.bool false) vh17))))))))))))
theorem scarplaw18_SeglogLimits_vc {n : Int} {size : Int} {low : Int} {high : Int} {h : Hp} {R : Value → Hp → Prop} (H : vcscarplaw18_SeglogLimits n size low high h R) : HCalls Try.prog fn_scarplaw18_SeglogLimits #[.int .i64 n, .int .i64 size, .int .i64 low, .int .i64 high] h R :=
  vc_fn (annOf [] [(20, [(17, .int .i64)])]) Try.func5 [.int .i64 n, .int .i64 size, .int .i64 low, .int .i64 high] (by kernel_rfl) (V := vcscarplaw18_SeglogLimits n size low high h R) (by kernel_rfl) H

end Go.Proofs.Ytippdkokbhejmaa
